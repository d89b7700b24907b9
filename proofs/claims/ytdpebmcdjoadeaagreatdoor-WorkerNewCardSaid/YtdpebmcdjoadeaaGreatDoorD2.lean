/- Helper text: which functions the laws come to, and what their rows ask of them. -/
import Derived.Test.YtdpebmcdjoadeaaGreatDoorD1
import Derived.Test.YtdpebmcdjoadeaaGreatDoorAxT
namespace Go.Proofs.YtdpebmcdjoadeaaGreatDoor
open Go Go.Ax
def many : Nat := 4294967296
noncomputable def tOf {α : Type} : List α → Nat → T α → T α
  | [], _, t => t
  | v :: l, i, t => tOf l (Nat.succ i) (T.set v t i)
theorem tOf_old {α : Type} : ∀ (l : List α) (i : Nat) (t : T α) (j : Nat), j < i → T.get (tOf l i t) j = T.get t j
  | [], _, _, _, _ => rfl
  | v :: l, i, t, j, h => by
    rw [tOf, tOf_old l (Nat.succ i) _ j (by omega), T.get_set_ne v t (by omega)]
theorem tOf_at {α : Type} : ∀ (l : List α) (i : Nat) (t : T α) (j : Nat), (∀ k, i ≤ k → T.get t k = none) → i + l.length ≤ many → j < l.length → T.get (tOf l i t) (i + j) = l[j]?
  | [], _, _, _, _, _, h => by simp at h
  | v :: l, i, t, 0, ht, hm, _ => by
    rw [tOf, tOf_old l (Nat.succ i) _ (i + 0) (by omega)]
    simp only [List.length_cons, many] at hm
    simpa using T.get_set_some v t (i := i) (by omega)
  | v :: l, i, t, j + 1, ht, hm, h => by
    have := tOf_at l (Nat.succ i) (T.set v t i) j (fun k hk => by rw [T.get_set_ne v t (by omega)]; exact ht k (by omega)) (by simp only [List.length_cons] at hm; omega) (by simpa using h)
    rw [tOf, show i + (j + 1) = Nat.succ i + j by omega, this]
    simp
theorem tOf_beyond {α : Type} : ∀ (l : List α) (i : Nat) (t : T α) (j : Nat), (∀ k, i ≤ k → T.get t k = none) → i + l.length ≤ j → T.get (tOf l i t) j = none
  | [], i, t, j, ht, h => ht j (by simpa using h)
  | v :: l, i, t, j, ht, h => by
    simp only [List.length_cons] at h
    exact tOf_beyond l (Nat.succ i) _ j (fun k hk => by rw [T.get_set_ne v t (by omega)]; exact ht k (by omega)) (by omega)
theorem tOf_get {α : Type} (l : List α) (hm : l.length ≤ many) (j : Nat) : T.get (tOf l 0 .nil) j = l[j]? := by
  by_cases h : j < l.length
  · have := tOf_at l 0 .nil j (fun k _ => T.get_nil k) (by omega) h
    simpa using this
  · rw [tOf_beyond l 0 .nil j (fun k _ => T.get_nil k) (by omega), List.getElem?_eq_none (by omega)]

noncomputable def cv (lt : T (List Nat)) : Nat → List Nat → T Unit → List Nat → List Nat
  | 0, _, _, seen => seen.reverse
  | _, [], _, seen => seen.reverse
  | n + 1, f :: todo, st, seen => match T.get st f with
    | some _ => cv lt n todo st seen
    | none => cv lt n ((T.get lt f).getD [] ++ todo) (T.set () st f) (f :: seen)
theorem via_eq {P : Program} {lt : T (List Nat)} (h : ∀ f, (P.funcs[f]?).elim [] P.leadsTo = (T.get lt f).getD []) (hb : ∀ f x, x ∈ (T.get lt f).getD [] → x < many) :
    ∀ n todo (st : T Unit) seen, (∀ x ∈ todo, x < many) → (∀ x, x < many → (T.get st x).isSome = seen.contains x) → P.closureVia n todo seen = cv lt n todo st seen := by
  intro n
  induction n with
  | zero => intro todo st seen _ _; cases todo <;> rfl
  | succ n ih =>
    intro todo st seen ht hs
    cases todo with
    | nil => rfl
    | cons f todo =>
      have hf := ht f List.mem_cons_self
      have hk := hs f hf
      simp only [Program.closureVia, cv]
      cases hg : T.get st f with
      | some u =>
        rw [hg] at hk
        rw [if_pos (by simpa using hk.symm)]
        exact ih _ _ _ (fun x hx => ht x (List.mem_cons_of_mem _ hx)) hs
      | none =>
        rw [hg] at hk
        have hn : seen.contains f = false := by simpa using hk.symm
        rw [if_neg (by rw [hn]; simp), h f]
        refine ih _ _ _ (fun x hx => ?_) (fun x hx => ?_)
        · rcases List.mem_append.mp hx with hx | hx
          · exact hb f x hx
          · exact ht x (List.mem_cons_of_mem _ hx)
        · by_cases e : x = f
          · subst e
            rw [T.get_set_some () st (by simpa [many] using hf)]
            simp
          · rw [T.get_set_ne () st e, hs x hx]
            have e' : (x == f) = false := by simpa using e
            rw [List.contains_cons, e', Bool.false_or]
theorem lead_of {P : Program} {ls : List (List Nat)} (h : P.funcs.toList.map P.leadsTo = ls) (hm : ls.length ≤ many) (f : Nat) : (P.funcs[f]?).elim [] P.leadsTo = (T.get (tOf ls 0 .nil) f).getD [] := by
  rw [tOf_get ls hm]
  subst h
  rw [List.getElem?_map, ← Array.getElem?_toList]
  cases P.funcs.toList[f]? <;> rfl
theorem closure_of {P : Program} {ls : List (List Nat)} (h : P.funcs.toList.map P.leadsTo = ls) (hm : ls.length ≤ many) (hb : ls.all (·.all fun x => Nat.blt x many) = true) {f n : Nat} (hf : f < many)
    (hn : (ls.map fun l => l.length + 1).sum = n) : P.closure f = cv (tOf ls 0 .nil) (1 + n) [f] .nil [] := by
  unfold Program.closure
  have e : (P.funcs.toList.map fun g => (P.leadsTo g).length + 1) = ls.map fun l => l.length + 1 := by
    subst h
    simp
  rw [e, hn]
  refine via_eq (lead_of h hm) (fun g x hx => ?_) _ _ _ _ (fun x hx => by simp at hx; subst hx; exact hf) (fun x _ => by rw [T.get_nil]; rfl)
  rw [tOf_get ls hm] at hx
  cases hg : ls[g]? with
  | none => rw [hg] at hx; simp at hx
  | some l =>
    rw [hg] at hx
    have h1 := List.all_eq_true.mp hb l (List.mem_of_getElem? hg)
    have h2 := List.all_eq_true.mp h1 x hx
    exact Nat.blt_eq.mp h2
theorem get_of {P : Program} {β : Type} {g : Func → β} {l : List β} (h : P.funcs.toList.map g = l) (hm : l.length ≤ many) (f : Nat) : (P.funcs[f]?).map g = T.get (tOf l 0 .nil) f := by
  rw [tOf_get l hm]
  subst h
  rw [List.getElem?_map, Array.getElem?_toList]
theorem inPlace_of {P : Program} {ls : List Nat} {l : List (Option String)} {f : Nat} (hc : P.closure f = ls) (h : P.funcs.toList.map inAt = l) (hm : l.length ≤ many) : P.inPlace f = ls.filterMap fun g => (T.get (tOf l 0 .nil) g).join := by
  unfold Program.inPlace
  rw [hc]
  congr 1
  funext g
  rw [← get_of h hm]
  cases P.funcs[g]? <;> rfl
theorem varsNamed_of {P : Program} {ls : List Nat} {gs : List (List Nat)} {rs : List (Option String)} {f : Nat} (hc : P.closure f = ls) (h : P.funcs.toList.map globAt = gs) (hm : gs.length ≤ many) (k : P.funcs.toList.map readAt = rs) (km : rs.length ≤ many) :
    P.varsNamed f = (((ls.flatMap fun g => (T.get (tOf gs 0 .nil) g).getD []).eraseDups).filterMap (fun g => (P.globals[g]?).map (·.name)) ++ ls.filterMap fun g => (T.get (tOf rs 0 .nil) g).join).eraseDups := by
  unfold Program.varsNamed
  rw [hc]
  have e1 : (fun g => ((P.funcs[g]?).bind Func.body).elim [] Code.globalsNamed) = fun g => (T.get (tOf gs 0 .nil) g).getD [] := by
    funext g
    rw [← get_of h hm]
    cases hf : P.funcs[g]? with
    | none => rfl
    | some fn => simp [globAt]
  have e2 : (fun g => (P.funcs[g]?).bind fun fn => if fn.body.isNone then entryReads.lookup fn.name else none) = fun g => (T.get (tOf rs 0 .nil) g).join := by
    funext g
    rw [← get_of k km]
    cases P.funcs[g]? <;> rfl
  rw [← e1, ← e2]
theorem unfollowed_of {P : Program} {ls : List Nat} {f g : Nat} {fn : Func} (hc : P.closure f = ls) (hg : ls.contains g = true) (hf : P.funcs[g]? = some fn) (hu : (match fn.body with | some c => c.unfollowed | none => entryCalls fn) = true) : P.unfollowed f = true := by
  unfold Program.unfollowed
  rw [hc, List.any_eq_true]
  exact ⟨g, by simpa using hg, by rw [hf]; exact hu⟩
theorem recurses_of {P : Program} {f : Nat} (h : P.unfollowed f = true) : P.recurses f = true := by
  unfold Program.recurses
  rw [h, Bool.true_or]
theorem leadsLe : leads.length ≤ many := Nat.le_of_ble_eq_true (by kernel_rfl)
theorem insLe : ins.length ≤ many := Nat.le_of_ble_eq_true (by kernel_rfl)
theorem globsLe : globs.length ≤ many := Nat.le_of_ble_eq_true (by kernel_rfl)
theorem readsLe : reads.length ≤ many := Nat.le_of_ble_eq_true (by kernel_rfl)
theorem leadsAll : leads.all (·.all fun x => Nat.blt x many) = true := by kernel_rfl
theorem leadsSum : (leads.map fun l => l.length + 1).sum = 3118 := by kernel_rfl
def closure3 : List Nat := [3, 5, 15, 35, 16, 6, 17, 36, 18, 7, 19, 8, 20, 37, 9, 21, 10, 22, 38, 61, 123, 225, 344, 474, 475, 476, 597, 477, 478, 598, 479, 226, 228, 345, 480, 346, 347, 349, 481, 599, 227, 353, 483, 348, 602, 682, 738, 354, 600, 350, 351, 482, 601, 679, 680, 681, 352, 229, 230, 62, 124, 231, 355, 484, 603, 356, 357, 485, 486, 604, 487, 605, 488, 683, 232, 358, 359, 489, 360, 361, 362, 490, 233, 234, 235, 363, 364, 491, 606, 492, 493, 607, 684, 739, 783, 608, 125, 236, 237, 238, 239, 127, 126, 240, 241, 365, 494, 496, 242, 497, 499, 495, 498, 500, 128, 129, 131, 246, 370, 247, 371, 372, 373, 248, 243, 366, 244, 367, 501, 507, 502, 503, 368, 504, 609, 505, 23, 40, 72, 39, 63, 64, 130, 245, 369, 65, 66, 67, 68, 132, 249, 69, 133, 250, 251, 374, 375, 252, 376, 506, 254, 253, 377, 379, 378, 380, 381, 382, 255, 256, 70, 135, 257, 383, 508, 134, 71, 136, 258, 384, 509, 510, 610, 511, 262, 280, 512, 611, 513, 402, 514, 401, 515, 612, 516, 519, 517, 613, 41, 73, 74, 137, 138, 139, 259, 385, 518, 140, 260, 386, 141, 261, 269, 387, 388, 142, 143, 263, 389, 520, 144, 265, 391, 522, 264, 390, 399, 521, 614, 615, 685, 686, 715, 266, 268, 267, 145, 270, 75, 146, 271, 392, 523, 616, 687, 688, 689, 524, 525, 617, 690, 526, 534, 533, 627, 695, 703, 622, 747, 787, 788, 811, 822, 839, 812, 840, 823, 813, 821, 834, 799, 798, 629, 630, 535, 618, 529, 625, 694, 745, 762, 746, 786, 626, 530, 691, 740, 784, 770, 741, 693, 744, 785, 742, 527, 619, 393, 620, 394, 531, 628, 631, 697, 696, 748, 749, 789, 750, 751, 752, 753, 790, 754, 791, 814, 815, 816, 792, 817, 818, 820, 835, 819, 836, 837, 838, 793, 794, 722, 771, 795, 755, 796, 756, 797, 757, 758, 800, 801, 802, 759, 760, 803, 824, 825, 826, 827, 828, 829, 830, 831, 532, 395, 536, 632, 698, 537, 538, 633, 699, 634, 700, 702, 761, 763, 637, 706, 704, 705, 635, 701, 636, 539, 638, 707, 708, 764, 540, 644, 645, 709, 765, 804, 805, 710, 713, 712, 639, 711, 640, 714, 641, 716, 766, 767, 768, 717, 769, 642, 718, 719, 643, 720, 721, 528, 621, 692, 743, 623, 624, 147, 148, 149, 76, 150, 151, 272, 273, 396, 152, 274, 275, 397, 398, 541, 646, 647, 542, 648, 276, 277, 278, 153, 279, 281, 282, 283, 400, 154, 284, 285, 286, 403, 12, 25, 26, 30, 46, 82, 168, 98, 115, 99, 83, 84, 169, 170, 306, 307, 432, 433, 171, 85, 86, 87, 88, 89, 90, 91, 92, 42, 77, 44, 81, 27, 31, 47, 93, 48, 43, 32, 49, 94, 172, 55, 110, 198, 199, 200, 321, 322, 104, 191, 323, 111, 201, 202, 173, 308, 434, 435, 436, 309, 440, 441, 310, 442, 437, 567, 438, 439, 568, 663, 174, 175, 176, 311, 312, 313, 443, 569, 664, 444, 570, 665, 732, 777, 778, 571, 666, 733, 667, 668, 572, 670, 735, 779, 780, 591, 807, 808, 781, 782, 809, 810, 832, 833, 734, 669, 445, 95, 177, 178, 96, 179, 50, 78, 155, 157, 120, 287, 288, 289, 290, 205, 206, 404, 207, 156, 292, 291, 97, 51, 52, 100, 180, 314, 315, 53, 101, 181, 182, 79, 158, 54, 103, 105, 106, 192, 194, 193, 112, 108, 109, 196, 319, 451, 452, 453, 454, 455, 578, 672, 579, 337, 197, 119, 320, 107, 195, 293, 405, 543, 649, 723, 544, 650, 725, 724, 772, 545, 546, 294, 407, 406, 418, 296, 295, 408, 56, 113, 159, 162, 160, 57, 114, 204, 188, 185, 186, 203, 324, 325, 456, 341, 470, 58, 471, 457, 458, 459, 460, 461, 116, 298, 415, 416, 551, 299, 297, 409, 411, 301, 419, 420, 552, 547, 548, 651, 117, 652, 414, 448, 575, 655, 447, 549, 118, 208, 550, 653, 410, 59, 121, 210, 326, 327, 328, 209, 211, 329, 462, 330, 331, 464, 581, 580, 463, 212, 332, 333, 213, 214, 216, 215, 335, 336, 467, 592, 334, 466, 590, 465, 582, 583, 673, 584, 674, 675, 585, 676, 677, 736, 586, 587, 588, 589, 217, 338, 468, 469, 593, 594, 678, 737, 595, 122, 218, 219, 339, 340, 221, 220, 222, 223, 342, 473, 472, 596, 224, 343, 412, 413, 161, 163, 164, 80, 165, 300, 417, 166, 302, 303, 167, 304, 421, 553, 554, 555, 560, 654, 556, 557, 558, 422, 559, 423, 561, 430, 425, 424, 449, 576, 671, 577, 426, 427, 562, 656, 657, 658, 727, 726, 659, 563, 428, 429, 564, 660, 728, 774, 773, 565, 661, 729, 730, 305, 431, 566, 662, 731, 775, 806, 776, 102, 183, 316, 189, 318, 450, 184, 317, 446, 574, 573, 187, 190, 28, 45, 29, 14]
theorem closure3_run : cv (tOf leads 0 .nil) (1 + 3118) [3] .nil [] = closure3 := by kernel_rfl
theorem closure3_eq : Tryz.prog.closure 3 = closure3 := (closure_of leads_eq leadsLe leadsAll (Nat.le_of_ble_eq_true (by kernel_rfl)) leadsSum).trans closure3_run
theorem inPlace3 : Tryz.prog.inPlace 3 = ["internal/bytealg.abigen_runtime_cmpstring"] := (inPlace_of closure3_eq ins_eq insLe).trans (by kernel_rfl)
theorem unfollowed3 : Tryz.prog.unfollowed 3 = true := unfollowed_of closure3_eq (by kernel_rfl : closure3.contains 168 = true) Tryz.func168 (by kernel_rfl)
theorem recurses3 : Tryz.prog.recurses 3 = true := recurses_of unfollowed3
theorem varsNamed3 : Tryz.prog.varsNamed 3 = ["strconv.ErrSyntax", "strconv.ErrRange", "internal/strconv.uint64pow10", "math/bits.deBruijn32tab", "math/bits.deBruijn64tab"] := (varsNamed_of closure3_eq globs_eq globsLe reads_eq readsLe).trans (by kernel_rfl)
def closure4 : List Nat := [4, 11, 19, 24, 37, 12, 25, 26, 30, 46, 82, 168, 98, 115, 99, 83, 84, 169, 170, 306, 307, 432, 433, 171, 85, 86, 87, 88, 89, 90, 91, 92, 42, 77, 44, 81, 27, 31, 47, 93, 48, 43, 32, 49, 94, 172, 55, 110, 198, 199, 200, 321, 322, 104, 191, 323, 111, 201, 202, 173, 308, 434, 435, 436, 309, 440, 441, 310, 442, 437, 15, 35, 567, 438, 439, 568, 663, 174, 175, 176, 311, 312, 313, 443, 569, 664, 444, 570, 665, 732, 777, 778, 571, 666, 733, 667, 668, 572, 670, 735, 779, 780, 591, 807, 808, 781, 782, 809, 810, 832, 833, 734, 669, 445, 95, 177, 178, 96, 179, 50, 78, 155, 157, 120, 287, 288, 289, 290, 205, 206, 404, 207, 156, 292, 291, 97, 51, 52, 100, 180, 314, 315, 53, 101, 181, 182, 79, 158, 54, 103, 105, 106, 192, 194, 193, 112, 108, 109, 196, 319, 451, 452, 453, 454, 455, 578, 672, 579, 337, 197, 119, 320, 107, 195, 293, 405, 543, 649, 723, 544, 650, 725, 724, 772, 545, 546, 294, 407, 406, 418, 296, 295, 408, 56, 113, 159, 162, 160, 57, 114, 204, 188, 185, 186, 203, 324, 325, 456, 341, 470, 58, 471, 457, 458, 459, 460, 461, 116, 298, 415, 416, 551, 299, 297, 409, 411, 301, 419, 420, 552, 547, 548, 651, 117, 652, 414, 448, 575, 655, 447, 549, 118, 208, 550, 653, 410, 59, 121, 210, 326, 327, 328, 209, 211, 329, 462, 330, 331, 464, 581, 580, 463, 212, 332, 333, 213, 214, 216, 215, 335, 336, 467, 592, 334, 466, 590, 465, 582, 583, 673, 584, 674, 675, 585, 676, 677, 736, 586, 587, 588, 589, 217, 338, 468, 469, 593, 594, 678, 737, 595, 122, 218, 219, 339, 340, 221, 220, 222, 223, 342, 473, 472, 596, 224, 343, 412, 413, 161, 163, 164, 80, 165, 300, 417, 166, 302, 303, 167, 304, 421, 553, 554, 555, 560, 654, 556, 557, 558, 422, 559, 423, 561, 430, 425, 424, 449, 576, 671, 577, 426, 427, 562, 656, 657, 658, 727, 726, 659, 563, 428, 429, 564, 660, 728, 774, 773, 565, 661, 729, 730, 305, 431, 566, 662, 731, 775, 806, 776, 102, 183, 316, 189, 318, 450, 184, 317, 446, 574, 573, 187, 190, 28, 45, 29, 13, 33, 34, 60, 14, 7, 8, 20, 9, 21, 10, 5, 16, 22, 38, 61, 123, 225, 344, 474, 475, 476, 597, 477, 478, 598, 479, 226, 228, 345, 480, 346, 347, 349, 481, 599, 227, 353, 483, 348, 602, 682, 738, 354, 600, 350, 351, 482, 601, 679, 680, 681, 352, 229, 230, 62, 124, 231, 355, 484, 603, 356, 357, 485, 486, 604, 487, 605, 488, 683, 232, 358, 359, 489, 360, 361, 362, 490, 233, 234, 235, 363, 364, 491, 606, 492, 493, 607, 684, 739, 783, 608, 125, 236, 237, 238, 239, 127, 126, 240, 241, 365, 494, 496, 242, 497, 499, 495, 498, 500, 128, 129, 131, 246, 370, 247, 371, 372, 373, 248, 243, 366, 244, 367, 501, 507, 502, 503, 368, 504, 609, 505, 23, 40, 72, 39, 63, 64, 130, 245, 369, 65, 66, 17, 36, 67, 68, 132, 249, 69, 133, 250, 251, 374, 375, 252, 376, 506, 254, 253, 377, 379, 378, 380, 381, 382, 255, 256, 70, 135, 257, 383, 508, 134, 71, 136, 258, 384, 509, 510, 610, 511, 262, 280, 512, 611, 513, 402, 514, 401, 515, 612, 516, 519, 517, 613, 41, 73, 74, 137, 138, 139, 259, 385, 518, 140, 260, 386, 141, 261, 269, 387, 388, 142, 143, 263, 389, 520, 144, 265, 391, 522, 264, 390, 399, 521, 614, 615, 685, 686, 715, 266, 268, 267, 145, 270, 75, 146, 271, 392, 523, 616, 687, 688, 689, 524, 525, 617, 690, 526, 534, 533, 627, 695, 703, 622, 747, 787, 788, 811, 822, 839, 812, 840, 823, 813, 821, 834, 799, 798, 629, 630, 535, 618, 529, 625, 694, 745, 762, 746, 786, 626, 530, 691, 740, 784, 770, 741, 693, 744, 785, 742, 527, 619, 393, 620, 394, 531, 628, 631, 697, 696, 748, 749, 789, 750, 751, 752, 753, 790, 754, 791, 814, 815, 816, 792, 817, 818, 820, 835, 819, 836, 837, 838, 793, 794, 722, 771, 795, 755, 796, 756, 797, 757, 758, 800, 801, 802, 759, 760, 803, 824, 825, 826, 827, 828, 829, 830, 831, 532, 395, 536, 632, 698, 537, 538, 633, 699, 634, 700, 702, 761, 763, 637, 706, 704, 705, 635, 701, 636, 539, 638, 707, 708, 764, 540, 644, 645, 709, 765, 804, 805, 710, 713, 712, 639, 711, 640, 714, 641, 716, 766, 767, 768, 717, 769, 642, 718, 719, 643, 720, 721, 528, 621, 692, 743, 623, 624, 147, 148, 149, 76, 150, 151, 272, 273, 396, 152, 274, 275, 397, 398, 541, 646, 647, 542, 648, 276, 277, 278, 153, 279, 281, 282, 283, 400, 154, 284, 285, 286, 403]
theorem closure4_run : cv (tOf leads 0 .nil) (1 + 3118) [4] .nil [] = closure4 := by kernel_rfl
theorem closure4_eq : Tryz.prog.closure 4 = closure4 := (closure_of leads_eq leadsLe leadsAll (Nat.le_of_ble_eq_true (by kernel_rfl)) leadsSum).trans closure4_run
theorem inPlace4 : Tryz.prog.inPlace 4 = ["internal/bytealg.abigen_runtime_cmpstring"] := (inPlace_of closure4_eq ins_eq insLe).trans (by kernel_rfl)
theorem unfollowed4 : Tryz.prog.unfollowed 4 = true := unfollowed_of closure4_eq (by kernel_rfl : closure4.contains 168 = true) Tryz.func168 (by kernel_rfl)
theorem recurses4 : Tryz.prog.recurses 4 = true := recurses_of unfollowed4
theorem varsNamed4 : Tryz.prog.varsNamed 4 = ["strconv.ErrSyntax", "strconv.ErrRange", "internal/strconv.uint64pow10", "math/bits.deBruijn32tab", "math/bits.deBruijn64tab"] := (varsNamed_of closure4_eq globs_eq globsLe reads_eq readsLe).trans (by kernel_rfl)
end Go.Proofs.YtdpebmcdjoadeaaGreatDoor
