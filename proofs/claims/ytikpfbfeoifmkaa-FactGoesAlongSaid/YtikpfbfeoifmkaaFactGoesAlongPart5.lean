/- Part 5 of the walks and lemmas for the law that the last text proves. -/
import Derived.Test.YtikpfbfeoifmkaaFactGoesAlongPart4
section
namespace Go.Proofs.Ytikpfbfeoifmkaa.X
open Go.RowKit Go.Proofs.YtikpfbfeoifmkaaW.PrintWords Go.Proofs.YtikpfbfeoifmkaaW.PrintLast Go.Proofs.YtikpfbfeoifmkaaW.PrintMore
attribute [local go_sem] max2_int min2_int max_two min_two max_three min_three max_four min_four
set_option linter.unusedVariables false
set_option linter.unusedSimpArgs false
mutual
def timeboundref13_Sums.l0 : Nat → List (List Int) → List Int → List Int → Int → Option (List Int)
  | 0, _, _, _, _ => none
  | k + 1, x0, x1, x5, x6 => if x6 < (x0.length : Int) then (timeboundref13_Sums.l1 k x0 x1 x5 x6 0) else (some x5)
def timeboundref13_Sums.l1 : Nat → List (List Int) → List Int → List Int → Int → Int → Option (List Int)
  | 0, _, _, _, _, _ => none
  | k + 1, x0, x1, x5, x6, x7 => if 0 ≤ x6 then (if x6 < (x0.length : Int) then (if x7 < ((rd_L2 x0 x6).length : Int) then (if x6 < (x5.length : Int) then (if 0 ≤ x7 then (if 0 ≤ (rd (rd_L2 x0 x6) x7) then (if (rd (rd_L2 x0 x6) x7) < (x1.length : Int) then (timeboundref13_Sums.l1 k x0 x1 (x5.set (x6 : Int).toNat (wrap64 ((rd x5 x6) + (rd x1 (rd (rd_L2 x0 x6) x7))))) x6 (wrap64 (x7 + 1))) else (none)) else (none)) else (none)) else (none)) else (timeboundref13_Sums.l0 k x0 x1 x5 (wrap64 (x6 + 1)))) else (none)) else (none)
end
def timeboundref13_Sums.f (k : Nat) (l0 : List (List Int)) (l1 : List Int) : Option (List Int) := if 0 ≤ (l0.length : Int) then (if ((l0.length : Int) : Int).toNat ≤ 35184372088832 then (timeboundref13_Sums.l0 k l0 l1 (List.replicate ((l0.length : Int) : Int).toNat 0) 0) else (none)) else (none)
def timeboundref13_Sums.T8 : Bool × List (List Nat × List Nat) := (true, [([], []), ([], []), ([], []), ([], []), ([2, 3], [2, 3]), ([4], [4]), ([], []), ([], []), ([], []), ([7, 8], [7, 8]), ([9], [9]), ([], []), ([10, 11], [10, 11]), ([12], [12]), ([6, 13], [6, 13]), ([14], [14]), ([5, 15], [5, 15]), ([0, 1, 0, 1, 2, 3, 4, 5, 6, 7, 8, 9, 10, 11, 12, 13, 14, 15, 16], [0, 1]), ([17, 16, 0, 1, 2, 3, 4, 5, 6, 7, 8, 9, 10, 11, 12, 13, 14, 15, 16], [16, 17])])
def timeboundref13_Sums.B8 : List Nat := [0, 0, 0, 0, 12, 28, 0, 0, 0, 384, 896, 0, 3968, 8064, 16320, 32704, 65532, 131071, 262143]
theorem timeboundref13_Sums.tab8 : rtab .any (opsOf Try.f26 8) = timeboundref13_Sums.T8 := by kernel_rfl
theorem timeboundref13_Sums.bits8 : waitsOk timeboundref13_Sums.T8.2 timeboundref13_Sums.B8 = true := by kernel_rfl
abbrev timeboundref13_Sums.b0 : Array Bool := X.bv188
abbrev timeboundref13_Sums.b1 : Array Bool := X.bv189
abbrev timeboundref13_Sums.b2 : Array Bool := X.bv190
abbrev timeboundref13_Sums.b3 : Array Bool := X.bv191
abbrev timeboundref13_Sums.b4 : Array Bool := X.bv192
abbrev timeboundref13_Sums.b5 : Array Bool := X.bv193
abbrev timeboundref13_Sums.b6 : Array Bool := X.bv194
abbrev timeboundref13_Sums.b7 : Array Bool := X.bv195
abbrev timeboundref13_Sums.b8 : Array Bool := X.bv196
abbrev timeboundref13_Sums.b9 : Array Bool := X.bv197
abbrev timeboundref13_Sums.b10 : Array Bool := X.bv198
abbrev timeboundref13_Sums.b11 : Array Bool := X.bv199
abbrev timeboundref13_Sums.b12 : Array Bool := X.bv200
abbrev timeboundref13_Sums.b13 : Array Bool := X.bv201
abbrev timeboundref13_Sums.b14 : Array Bool := X.bv202
abbrev timeboundref13_Sums.b15 : Array Bool := X.bv203
abbrev timeboundref13_Sums.b16 : Array Bool := X.bv204
abbrev timeboundref13_Sums.b17 : Array Bool := X.bv205
abbrev timeboundref13_Sums.b18 : Array Bool := X.bv206
abbrev timeboundref13_Sums.b19 : Array Bool := X.bv207
set_option maxHeartbeats 8000000 in
set_option maxRecDepth 100000 in
theorem timeboundref13_Sums.calls (k : Nat) (A0 : Option Addr) (c0 : Nat) (l0 : List (List Int)) (A1 : Option Addr) (c1 : Nat) (l1 : List Int) (r : List Int) (w : World) (hr0 : Kd.C (Kd.slice 3 (Kd.int .i64)) w A0 l0.length l0) (hc0 : l0.length ≤ c0) (hr1 : Kd.C (Kd.int .i64) w A1 l1.length l1) (hc1 : l1.length ≤ c1) (h : timeboundref13_Sums.f k l0 l1 = some r) :
   Calls Try.prog 26 #[.slice A0 l0.length c0, .slice A1 l1.length c1] w fun e w' => ∃ v0_ : Value, e = .returned (v0_) ∧ Kd.R (Kd.int .i64) 3 w' w.heap.size (fun _ => True) v0_ r ∧ Below w.heap.size w w' := by
  have HR0 := Aside0.mk hr0
  have HC0 := Aside0.mk hc0
  clear hr0 hc0
  have HR1 := Aside0.mk hr1
  have HC1 := Aside0.mk hc1
  clear hr1 hc1
  have HB := Aside0.mk (Below.refl w.heap.size w)
  have H : (if 0 ≤ (l0.length : Int) then (if ((l0.length : Int) : Int).toNat ≤ 35184372088832 then (timeboundref13_Sums.l0 k l0 l1 (List.replicate ((l0.length : Int) : Int).toNat 0) 0) else (none)) else (none)) = some r := h
  clear h
  by_cases c3 : 0 ≤ (l0.length : Int)
  ·rw [if_pos c3] at H
   have c3b0 := eq_true c3
   have c3b1 : decide (0 ≤ (l0.length : Int)) = true := decide_eq_true c3
   clear c3
   by_cases c4 : ((l0.length : Int) : Int).toNat ≤ 35184372088832
   ·rw [if_pos c4] at H
    have c4b0 := eq_true c4
    have c4b1 : decide (((l0.length : Int) : Int).toNat ≤ 35184372088832) = true := decide_eq_true c4
    clear c4
    obtain ⟨y101, hy101⟩ : ∃ y_ : List Int, y_ = (List.replicate ((l0.length : Int) : Int).toNat 0) := ⟨_, rfl⟩
    replace H : (timeboundref13_Sums.l0 k l0 l1 y101 0) = some r := by first | (rw [hy101]; with_reducible exact H) | (have H2_ := (Option.bind_some _ _).symm.trans H; rw [hy101]; with_reducible exact H2_) | (have H2_ := (Option.bind_some _ _).symm.trans H; with_reducible exact H2_) | with_reducible exact H | (rw [hy101]; exact H) | exact H
    have Ny101 := Aside0.mk hy101
    clear hy101
    have H' := Aside0.mk H
    clear H
    go_enter Try.func26, Try.ntmps26
    go_wp2_with (first | ((with_reducible refine gate_dst (N := 10) rfl ?_); refine Kd.R_make (Kd.int .i64) _ 3 rfl (N := 10) rfl 22 _ _ rfl (l0.length : Int) rfl rfl Try.underlying22 (.int .i64 0) 8 info3 rfl (by decide) (by omega) 0 (ok := fun _ => True) (okp := fun _ => True) rfl (fun _ hk => hk) trivial (oD) (Nat.le_trans (Nat.mul_le_mul_right _ (oD : (l0.length : Int).toNat ≤ 35184372088832)) (by omega)) (Below.refl _ _) (Nat.le_refl _) ?_; intro v102 w5 ho6 hb hg_ hnew_; clear hg_ hnew_; (first | rw [← Ny101.out] at ho6 | (simp only [Int.reduceToNat] at ho6; rw [← Ny101.out] at ho6)); have n0_ := Aside0.mk (Kd.R_lower ho6 (below_size (hB0 HB.out))); have n1_ := Aside0.mk (below_step (hB0 HB.out) hb); clear HB; have HO103 := n0_; have HB := n1_; clear n0_ n1_; clear hb ho6))
    (try simp only [Act.put, List.setIfInBounds_toArray, List.set_cons_zero, List.set_cons_succ])
    go_loopg [6] k (fun kq v6 w' => ∃ (x5_1 : List Int) (x6_1 : Int), v6 = .int .i64 x6_1 ∧ Aside0 (timeboundref13_Sums.l0 kq l0 l1 x5_1 x6_1 = some r) ∧ Aside0 (kq ≤ k) ∧ Aside0 (Kd.R (Kd.int .i64) 3 w' w.heap.size (fun _ => True) v102 x5_1) ∧ Aside0 (Below w.heap.size w w'))
    case atStart => exact ⟨(y101), (0), rS, H', ⟨Nat.le_refl _⟩, ⟨rK HO103.out⟩, ⟨hB0 HB.out⟩⟩
    case round =>
     clear H'
     try clear c1
     try clear c3b0
     try clear c3b1
     try clear c4b0
     try clear c4b1
     obtain ⟨x5_1, x6_1, rfl, HA, HK1, HO_5, HB⟩ := hrel
     cases gk with
     | zero => exact absurd HA.out (by simp [timeboundref13_Sums.l0])
     | succ k1 =>
      have H := HA.out
      clear HA
      simp only [timeboundref13_Sums.l0] at H
      by_cases c7 : x6_1 < (l0.length : Int)
      ·rw [if_pos c7] at H
       have c7b0 : decide (x6_1 < (l0.length : Int)) = true := decide_eq_true c7
       clear c7
       have H' := Aside0.mk H
       clear H
       go_wp2
       go_loopg [7] k1 (fun kq v7 w' => ∃ (x5_2 : List Int) (x7_2 : Int), v7 = .int .i64 x7_2 ∧ Aside0 (timeboundref13_Sums.l1 kq l0 l1 x5_2 x6_1 x7_2 = some r) ∧ Aside0 (kq ≤ k1) ∧ Aside0 (Kd.R (Kd.int .i64) 3 w' w.heap.size (fun _ => True) v102 x5_2) ∧ Aside0 (Below w.heap.size w w'))
       case atStart => exact ⟨(x5_1), (0), rS, H', ⟨Nat.le_refl _⟩, ⟨rK HO_5.out⟩, ⟨hB0 HB.out⟩⟩
       case round =>
        clear H'
        try clear c7b0
        obtain ⟨x5_2, x7_2, rfl, HA, HK2, HO_5, HB⟩ := hrel
        cases gk with
        | zero => exact absurd HA.out (by simp [timeboundref13_Sums.l1])
        | succ k2 =>
         have H := HA.out
         clear HA
         simp only [timeboundref13_Sums.l1] at H
         by_cases c8 : 0 ≤ x6_1
         ·rw [if_pos c8] at H
          have c8b0 : decide (0 ≤ x6_1) = true := decide_eq_true c8
          clear c8
          by_cases c9 : x6_1 < (l0.length : Int)
          ·rw [if_pos c9] at H
           have c9b0 : decide (x6_1 < (l0.length : Int)) = true := decide_eq_true c9
           clear c9
           by_cases c10 : x7_2 < ((rd_L2 l0 x6_1).length : Int)
           ·rw [if_pos c10] at H
            have c10b0 : decide (x7_2 < ((rd_L2 l0 x6_1).length : Int)) = true := decide_eq_true c10
            clear c10
            by_cases c11 : x6_1 < (x5_2.length : Int)
            ·rw [if_pos c11] at H
             have c11b0 : decide (x6_1 < (x5_2.length : Int)) = true := decide_eq_true c11
             clear c11
             by_cases c12 : 0 ≤ x7_2
             ·rw [if_pos c12] at H
              have c12b0 : decide (0 ≤ x7_2) = true := decide_eq_true c12
              clear c12
              by_cases c13 : 0 ≤ (rd (rd_L2 l0 x6_1) x7_2)
              ·rw [if_pos c13] at H
               have c13b0 : decide (0 ≤ (rd (rd_L2 l0 x6_1) x7_2)) = true := decide_eq_true c13
               clear c13
               by_cases c14 : (rd (rd_L2 l0 x6_1) x7_2) < (l1.length : Int)
               ·rw [if_pos c14] at H
                have c14b0 : decide ((rd (rd_L2 l0 x6_1) x7_2) < (l1.length : Int)) = true := decide_eq_true c14
                clear c14
                obtain ⟨y109, hy109⟩ : ∃ y_ : List Int, y_ = (x5_2.set (x6_1 : Int).toNat (wrap64 ((rd x5_2 x6_1) + (rd l1 (rd (rd_L2 l0 x6_1) x7_2))))) := ⟨_, rfl⟩
                replace H : (timeboundref13_Sums.l1 k2 l0 l1 y109 x6_1 (wrap64 (x7_2 + 1))) = some r := by first | (rw [hy109]; with_reducible exact H) | (have H2_ := (Option.bind_some _ _).symm.trans H; rw [hy109]; with_reducible exact H2_) | (have H2_ := (Option.bind_some _ _).symm.trans H; with_reducible exact H2_) | with_reducible exact H | (rw [hy109]; exact H) | exact H
                have Ny109 := Aside0.mk hy109
                clear hy109
                have H' := Aside0.mk H
                clear H
                have p104 : 0 ≤ (x6_1 : Int) := oD
                have q104 : x6_1 < (l0.length : Int) := oD
                obtain ⟨ad104, A104_0, c104_0, e104, hx104_0, hl104_0, hi104_0⟩ := at_L2 HR0.out x6_1 p104 q104
                cases e104
                replace hx104_0 := (HB.out.cell (World.block_lt_of_cell? w _ hx104_0)).trans hx104_0
                have HR104_0 := Aside0.mk hi104_0
                have HC104_0 := Aside0.mk hl104_0
                clear hi104_0 hl104_0
                replace p104 := eq_true p104
                replace q104 := eq_true q104
                try go_wp2
                have n0_ := Aside0.mk (Kd.R_drew HO_5.out)
                have n1_ := Aside0.mk (below_drew1 HB.out)
                clear HO_5
                clear HB
                have HO_5 := n0_
                have HB := n1_
                clear n0_ n1_
                obtain ⟨Ao17, co17, eo17⟩ := Kd.R_slice HO_5.out
                (first | subst eo17 | (injection eo17 with f1_ f2_ f3_; have f4_ := f1_.symm; have f5_ := f3_.symm; clear f1_ f2_ f3_; subst f4_; subst f5_))
                have p105 : 0 ≤ (x6_1 : Int) := oD
                have q105 : x6_1 < (x5_2.length : Int) := oD
                obtain ⟨ad105, e105, hx105_0⟩ := Kd.at_int (Kd.R_reads' HO_5.out).2.2 x6_1 p105 q105
                cases e105
                replace p105 := eq_true p105
                replace q105 := eq_true q105
                have p106 : 0 ≤ (x6_1 : Int) := oD
                have q106 : x6_1 < (l0.length : Int) := oD
                obtain ⟨ad106, A106_0, c106_0, e106, hx106_0, hl106_0, hi106_0⟩ := at_L2 HR0.out x6_1 p106 q106
                have hw106_0 := hx106_0
                obtain rfl : ad104 = ad106 := (by injection e106)
                replace hx106_0 := (HB.out.cell (World.block_lt_of_cell? w _ hx106_0)).trans hx106_0
                have HR106_0 := Aside0.mk hi106_0
                have HC106_0 := Aside0.mk hl106_0
                clear hi106_0 hl106_0
                replace p106 := eq_true p106
                replace q106 := eq_true q106
                have p107 : 0 ≤ (x7_2 : Int) := oD
                have q107 : x7_2 < ((rd_L2 l0 x6_1).length : Int) := oD
                obtain ⟨ad107, e107, hx107_0⟩ := Kd.at_int HR106_0.out x7_2 p107 q107
                have hw107_0 := hx107_0
                cases e107
                replace hx107_0 := (HB.out.cell (World.block_lt_of_cell? w _ hx107_0)).trans hx107_0
                replace p107 := eq_true p107
                replace q107 := eq_true q107
                have p108 : 0 ≤ ((rd (rd_L2 l0 x6_1) x7_2) : Int) := oD
                have q108 : (rd (rd_L2 l0 x6_1) x7_2) < (l1.length : Int) := oD
                obtain ⟨ad108, e108, hx108_0⟩ := Kd.at_int HR1.out (rd (rd_L2 l0 x6_1) x7_2) p108 q108
                have hw108_0 := hx108_0
                cases e108
                replace hx108_0 := (HB.out.cell (World.block_lt_of_cell? w _ hx108_0)).trans hx108_0
                replace p108 := eq_true p108
                replace q108 := eq_true q108
                have p15 : 0 ≤ (x6_1 : Int) := oD
                have q15 : (x6_1 : Int) < ((x5_2.length : Int) : Int) := oD
                obtain ⟨go15, co15, eo15, gb15, gl15, cl15, HG15⟩ := Kd.R_form HO_5.out (by omega)
                (first | cases eo15 | (injection eo15 with ea_ en_ ec_; (first | subst ea_ | (injection ea_ with ea_; subst ea_)); subst ec_; clear en_))
                have GB15 := Aside0.mk gb15
                have GG15 := Aside0.mk HG15
                clear gb15 gl15 HG15
                (first | simp only [add_plain] at hx105_0 | skip)
                obtain ⟨hx15_0, hf15_0⟩ := Kd.R_celln 0 HO_5.out (x6_1 : Int) p15 q15
                replace p15 := eq_true p15
                replace q15 := eq_true q15
                have HP18 := Kd.R_putn HO_5.out (x6_1 : Int) (wrap64 ((rd x5_2 x6_1) + (rd l1 (rd (rd_L2 l0 x6_1) x7_2))))
                rw [← Ny109.out] at HP18
                have HQ18 := Aside0.mk HP18
                clear HP18
                refine start_ (n := 19) (S := fun w' => w'.cell? ⟨go15, (x6_1).toNat, none⟩ = some (.int .i64 (rd x5_2 x6_1)) ∧ w'.cell? (ad104.add (x6_1).toNat) = some (.slice (some ad107) (rd_L2 l0 x6_1).length c106_0) ∧ w'.cell? (ad107.add (x7_2).toNat) = some (.int .i64 (rd (rd_L2 l0 x6_1) x7_2)) ∧ w'.cell? (ad108.add ((rd (rd_L2 l0 x6_1) x7_2)).toNat) = some (.int .i64 (rd l1 (rd (rd_L2 l0 x6_1) x7_2)))) (ds := [18]) timeboundref13_Sums.b0 (by kernel_rfl) rfl rfl ⟨hx105_0, ((HB.out.cell (World.block_lt_of_cell? w _ hw106_0)).trans hw106_0), ((HB.out.cell (World.block_lt_of_cell? w _ hw107_0)).trans hw107_0), ((HB.out.cell (World.block_lt_of_cell? w _ hw108_0)).trans hw108_0)⟩ (fun hHeld => ?_); refine with_tabW timeboundref13_Sums.tab8 timeboundref13_Sums.bits8 (fun HT_ HW_ => ?_)
                generalize wr.drew = w16 at HO_5 HB GG15 HQ18 HR106_0 hf15_0 hx105_0 hx106_0 hx107_0 hx108_0 hx15_0 hHeld ⊢
                refine pY 0 (some 26) timeboundref13_Sums.b1 rfl rfl HT_.out (fun _ _ _ h => h) ?_
                refine pY 1 (some 27) timeboundref13_Sums.b2 rfl rfl HT_.out (fun _ _ _ h => h) ?_
                refine pY 2 (some 28) timeboundref13_Sums.b3 rfl rfl HT_.out (fun _ _ _ h => h) ?_
                refine pY 3 (some 29) timeboundref13_Sums.b4 rfl rfl HT_.out (fun _ _ _ h => h) ?_
                refine pY 4 (some 30) timeboundref13_Sums.b5 rfl rfl HT_.out (fun _ _ _ h => h) ?_
                refine pY 6 (some 32) timeboundref13_Sums.b6 rfl rfl HT_.out (fun _ _ _ h => h) ?_
                refine pY 7 (some 33) timeboundref13_Sums.b7 rfl rfl HT_.out (fun _ _ _ h => h) ?_
                refine pY 8 (some 34) timeboundref13_Sums.b8 rfl rfl HT_.out (fun _ _ _ h => h) ?_
                refine pY 9 (some 35) timeboundref13_Sums.b9 rfl rfl HT_.out (fun _ _ _ h => h) ?_
                refine pY 11 (some 37) timeboundref13_Sums.b10 rfl rfl HT_.out (fun _ _ _ h => h) ?_
                refine take_ (i := 5) (N := some 31) (v := ?_) (a' := ?_) timeboundref13_Sums.b11 rfl rfl (take_ofW HT_.out HW_.out (by kernel_rfl)) (fun _ _ _ h => h) (Or.inl ⟨by rfl, ?_⟩) hHeld ?_ ?_
                rotate_left
                ·rintro w' ⟨s0, s1, s2, s3⟩
                 go_simp
                 with_reducible rfl
                rotate_left
                ·simp only [Act.put, List.setIfInBounds_toArray, List.set_cons_zero, List.set_cons_succ, i64_w, i32_w]
                 rfl
                refine take_ (i := 10) (N := some 36) (v := ?_) (a' := ?_) timeboundref13_Sums.b12 rfl rfl (take_ofW HT_.out HW_.out (by kernel_rfl)) (fun _ _ _ h => h) (Or.inl ⟨by rfl, ?_⟩) hHeld ?_ ?_
                rotate_left
                ·rintro w' ⟨s0, s1, s2, s3⟩
                 go_simp
                 with_reducible rfl
                rotate_left
                ·simp only [Act.put, List.setIfInBounds_toArray, List.set_cons_zero, List.set_cons_succ, i64_w, i32_w]
                 rfl
                refine pY 12 (some 38) timeboundref13_Sums.b13 rfl rfl HT_.out (fun _ _ _ h => h) ?_
                refine take_ (i := 13) (N := some 39) (v := ?_) (a' := ?_) timeboundref13_Sums.b14 rfl rfl (take_ofW HT_.out HW_.out (by kernel_rfl)) (fun _ _ _ h => h) (Or.inl ⟨by rfl, ?_⟩) hHeld ?_ ?_
                rotate_left
                ·rintro w' ⟨s0, s1, s2, s3⟩
                 go_simp
                 with_reducible rfl
                rotate_left
                ·simp only [Act.put, List.setIfInBounds_toArray, List.set_cons_zero, List.set_cons_succ, i64_w, i32_w]
                 rfl
                refine pY 14 (some 40) timeboundref13_Sums.b15 rfl rfl HT_.out (fun _ _ _ h => h) ?_
                refine take_ (i := 15) (N := some 41) (v := ?_) (a' := ?_) timeboundref13_Sums.b16 rfl rfl (take_ofW HT_.out HW_.out (by kernel_rfl)) (fun _ _ _ h => h) (Or.inl ⟨by rfl, ?_⟩) hHeld ?_ ?_
                rotate_left
                ·rintro w' ⟨s0, s1, s2, s3⟩
                 go_simp
                 with_reducible rfl
                rotate_left
                ·simp only [Act.put, List.setIfInBounds_toArray, List.set_cons_zero, List.set_cons_succ, i64_w, i32_w]
                 rfl
                refine pY 16 (some 42) timeboundref13_Sums.b17 rfl rfl HT_.out (fun _ _ _ h => h) ?_
                refine pY 17 (some 43) timeboundref13_Sums.b18 rfl rfl HT_.out (fun _ _ _ h => h) ?_
                refine last_ (i := 18) (N := none) timeboundref13_Sums.b19 rfl rfl (one_of HT_.out (by kernel_rfl)) (by decide) (fun K hK => ?_)
                refine skip_ (w1 := ?_) (by rfl) rfl ?_ ?_
                rotate_left
                ·go_simp
                 rfl
                refine hK.out _ _ ?_
                clear hK K
                refine done_ (done_of HT_.out (by kernel_rfl)) ?_
                try go_wp2
                go_roundg k2
                case measure => have := HK1.out; have := HK2.out; omega
                case rel => exact ⟨(y109), (wrap64 (x7_2 + 1)), rS, H', ⟨by have := HK1.out; have := HK2.out; omega⟩, ⟨rK HQ18.out⟩, ⟨hB1 HB.out GB15.out⟩⟩
               ·rw [if_neg c14] at H
                exact absurd H (by simp)
              ·rw [if_neg c13] at H
               exact absurd H (by simp)
             ·rw [if_neg c12] at H
              exact absurd H (by simp)
            ·rw [if_neg c11] at H
             exact absurd H (by simp)
           ·rw [if_neg c10] at H
            have c10b0 : decide (x7_2 < ((rd_L2 l0 x6_1).length : Int)) = false := decide_eq_false c10
            clear c10
            have H' := Aside0.mk H
            clear H
            have p104 : 0 ≤ (x6_1 : Int) := oD
            have q104 : x6_1 < (l0.length : Int) := oD
            obtain ⟨ad104, A104_0, c104_0, e104, hx104_0, hl104_0, hi104_0⟩ := at_L2 HR0.out x6_1 p104 q104
            cases e104
            replace hx104_0 := (HB.out.cell (World.block_lt_of_cell? w _ hx104_0)).trans hx104_0
            have HR104_0 := Aside0.mk hi104_0
            have HC104_0 := Aside0.mk hl104_0
            clear hi104_0 hl104_0
            replace p104 := eq_true p104
            replace q104 := eq_true q104
            go_wp2
            go_roundg k2
            case measure => have := HK1.out; have := HK2.out; omega
            case rel => exact ⟨(x5_2), (wrap64 (x6_1 + 1)), rS, H', ⟨by have := HK1.out; have := HK2.out; omega⟩, ⟨rK HO_5.out⟩, ⟨hB0 HB.out⟩⟩
          ·rw [if_neg c9] at H
           exact absurd H (by simp)
         ·rw [if_neg c8] at H
          exact absurd H (by simp)
      ·rw [if_neg c7] at H
       have c7b0 : decide (x6_1 < (l0.length : Int)) = false := decide_eq_false c7
       clear c7
       obtain rfl := Option.some.inj H
       go_wp2
       go_ret
       exact ⟨_, by first | rfl | (simp [errW_none, errW_some] <;> rfl) | (simp [*, errW_none, errW_some] <;> rfl), by (with_reducible repeat (first | apply Kd.R_alloc | apply Kd.R_drewN | apply Kd.R_drew)); exact HO_5.out, hB0 HB.out⟩
   ·rw [if_neg c4] at H
    exact absurd H (by simp)
  ·rw [if_neg c3] at H
   exact absurd H (by simp)
def timeboundmake_Sums.f (k : Nat) (l0 : List (List Int)) (l1 : List Int) : Option (List Int) := (timeboundref13_Sums.f k l0 l1).bind fun t101 => (some t101)
set_option maxHeartbeats 8000000 in
set_option maxRecDepth 100000 in
theorem timeboundmake_Sums.calls (k : Nat) (A0 : Option Addr) (c0 : Nat) (l0 : List (List Int)) (A1 : Option Addr) (c1 : Nat) (l1 : List Int) (r : List Int) (w : World) (hr0 : Kd.C (Kd.slice 3 (Kd.int .i64)) w A0 l0.length l0) (hc0 : l0.length ≤ c0) (hr1 : Kd.C (Kd.int .i64) w A1 l1.length l1) (hc1 : l1.length ≤ c1) (h : timeboundmake_Sums.f k l0 l1 = some r) :
   Calls Try.prog 14 #[.slice A0 l0.length c0, .slice A1 l1.length c1] w fun e w' => ∃ v0_ : Value, e = .returned (v0_) ∧ Kd.R (Kd.int .i64) 3 w' w.heap.size (fun _ => True) v0_ r ∧ Below w.heap.size w w' := by
  have HR0 := Aside0.mk hr0
  have HC0 := Aside0.mk hc0
  clear hr0 hc0
  have HR1 := Aside0.mk hr1
  have HC1 := Aside0.mk hc1
  clear hr1 hc1
  have HB := Aside0.mk (Below.refl w.heap.size w)
  have H : ((timeboundref13_Sums.f k l0 l1).bind fun t101 => (some t101)) = some r := h
  clear h
  replace H := Option.bind_eq_some_iff.mp H
  obtain ⟨t101, A30, H⟩ := H
  replace H : (some t101) = some r := H
  have A3 := Aside0.mk A30
  clear A30
  obtain rfl := Option.some.inj H
  go_enter Try.func14, Try.ntmps14
  go_wp2_with (first | ((with_reducible refine gate_callee (f := 26) rfl ?_); refine goesL_ (some 7) rfl rfl Try.func26 (by kernel_rfl) rfl #[.slice A0 l0.length c0, .slice A1 l1.length c1] rfl aM ?_; (with_reducible refine (timeboundref13_Sums.calls k _ _ l0 _ _ l1 t101 _ ?side1 ?side2 ?side3 ?side4 A3.out).mono ?_); (case side1 => exact cK HR0.out); (case side2 => exact HC0.out); (case side3 => exact cK HR1.out); (case side4 => exact HC1.out); rintro e w4 ⟨v102, rfl, ho0, hb⟩; refine ⟨_, rfl, ?_⟩; have n0_ := Aside0.mk (Kd.R_lower ho0 (below_size (hB0 HB.out))); have n1_ := Aside0.mk (below_step (hB0 HB.out) hb); clear HB; have HO103 := n0_; have HB := n1_; clear n0_ n1_; (try clear hb); (try clear ho0)))
  go_ret
  exact ⟨_, by first | rfl | (simp [errW_none, errW_some] <;> rfl) | (simp [*, errW_none, errW_some] <;> rfl), by (with_reducible repeat (first | apply Kd.R_alloc | apply Kd.R_drewN | apply Kd.R_drew)); exact HO103.out, hB0 HB.out⟩
mutual
def timeboundlaw11_FactGoesAlong.l0 : Nat → List (List Int) → List Int → Int → List Int → Int → List (S44) → Int → Option (Bool)
  | 0, _, _, _, _, _, _, _ => none
  | k + 1, x6, x7, x8, x106000, x106001, x118000, x118001 => if x8 < (x7.length : Int) then ((timeboundmake_Deck_Next.f x106000 x106001 15).bind fun bt121 => (if 0 ≤ x8 then (timeboundlaw11_FactGoesAlong.l0 k x6 (x7.set (x8 : Int).toNat bt121.1) (wrap64 (x8 + 1)) x106000 bt121.2 x118000 x118001) else (none))) else ((timeboundmake_Sums.f k x6 x7).bind fun t124 => ((fact_Map.f k x118000 x118001 x6).bind fun bt127 => ((fact_Sum.f k x118000 x118001 t124).bind fun bt133 => ((fact_Sum.f k bt127.1 bt127.2.1 x7).bind fun bt135 => (if bt127.2.2 = 0 then (if bt133.2 = 0 then (if bt135.2 = 0 then (if bt133.1 = bt135.1 then (if bt127.2.1 = x118001 then ((fact_Holds.f k x118000 x118001 t124).bind fun t137 => ((fact_Holds.f k bt127.1 bt127.2.1 x7).bind fun t138 => (if (t137 == t138) = true then ((fact_Check.f k bt127.1 bt127.2.1).bind fun t139 => (if t139 = 0 then ((timeboundlaw11_awake.f k).bind fun t140 => (timeboundlaw11_FactGoesAlong.j1 k t140)) else (timeboundlaw11_FactGoesAlong.j1 k false))) else (timeboundlaw11_FactGoesAlong.j1 k false)))) else (timeboundlaw11_FactGoesAlong.j1 k false)) else (timeboundlaw11_FactGoesAlong.j1 k false)) else (timeboundlaw11_FactGoesAlong.j1 k false)) else (timeboundlaw11_FactGoesAlong.j1 k false)) else (timeboundlaw11_FactGoesAlong.j1 k false))))))
def timeboundlaw11_FactGoesAlong.j1 : Nat → Bool → Option (Bool)
  | 0, _ => none
  | k + 1, x2 => some x2
end
def timeboundlaw11_FactGoesAlong.f (k : Nat) (l0 : List Int) : Option (Bool) := (timeboundmake_Few.f l0).bind fun t101 => (if t101 = true then ((timeboundmake_New.f l0).bind fun bt103 => ((timeboundmake_Deck_Next.f bt103.1 bt103.2 9).bind fun bt106 => ((timeboundlaw11_some.f k bt103.1 bt106.2 (wrap64 (1 + bt106.1))).bind fun bt108 => ((timeboundlaw11_maps.f k bt103.1 bt108.2.2 (wrap64 (1 + bt106.1))).bind fun bt113 => (if 30 ≤ 35184372088832 then (timeboundlaw11_FactGoesAlong.l0 k bt113.1 (List.replicate 30 0) 0 bt103.1 bt113.2 bt108.1 bt108.2.1) else (none)))))) else ((timeboundlaw11_awake.f k).bind fun t102 => (some t102)))
def timeboundlaw11_FactGoesAlong.T15 : Bool × List (List Nat × List Nat) := (true, [([], []), ([0], [0]), ([1], [1]), ([2], [2]), ([3, 2], [2, 3]), ([2, 4], [2, 4]), ([5, 2], [5]), ([6], [6]), ([7, 6], [6, 7]), ([6, 8], [6, 8]), ([9, 6], [9]), ([10], [10]), ([10], [10]), ([11, 12, 10], [10, 11, 12]), ([10, 13], [10, 13]), ([14, 10], [14]), ([15], [15]), ([16, 15], [15, 16]), ([15], [15]), ([18, 15], [15, 18]), ([17, 19, 15], [15, 17, 19]), ([15, 20], [15, 20]), ([21, 15], [21]), ([22], [22]), ([22], [22]), ([23, 24, 22, 22], [22, 23, 24]), ([22], [22]), ([22], [22]), ([26, 27, 25, 22], [22, 26, 27]), ([25, 28, 22], [22, 25, 28]), ([22, 29], [22, 29]), ([30, 28], [30]), ([31], [31]), ([32, 31, 31], [31, 32]), ([33, 31], [31, 33]), ([31, 34], [31, 34]), ([35, 33], [35]), ([36, 36], [36]), ([36, 37], [36, 37]), ([38, 37, 0, 1, 2, 3, 4, 5, 6, 7, 8, 9, 10, 11, 12, 13, 14, 15, 16, 17, 18, 19, 20, 21, 22, 23, 24, 25, 26, 27, 28, 29, 30, 31, 32, 33, 34, 35, 36, 37, 38], [38])])
def timeboundlaw11_FactGoesAlong.B15 : List Nat := [0, 1, 3, 7, 15, 31, 63, 127, 255, 511, 1023, 2047, 2047, 8191, 16383, 32767, 65535, 131071, 65535, 327679, 1048575, 2097151, 4194303, 8388607, 8388607, 33554431, 8388607, 8388607, 268435455, 536870911, 1073741823, 2147483647, 4294967295, 8589934591, 17179869183, 34359738367, 68719476735, 137438953471, 274877906943, 549755813887]
theorem timeboundlaw11_FactGoesAlong.tab15 : rtab .any (opsOf Try.f3 15) = timeboundlaw11_FactGoesAlong.T15 := by kernel_rfl
theorem timeboundlaw11_FactGoesAlong.bits15 : waitsOk timeboundlaw11_FactGoesAlong.T15.2 timeboundlaw11_FactGoesAlong.B15 = true := by kernel_rfl
abbrev timeboundlaw11_FactGoesAlong.b0 : Array Bool := X.bv208
abbrev timeboundlaw11_FactGoesAlong.b1 : Array Bool := X.bv209
abbrev timeboundlaw11_FactGoesAlong.b2 : Array Bool := X.bv210
abbrev timeboundlaw11_FactGoesAlong.b3 : Array Bool := X.bv211
abbrev timeboundlaw11_FactGoesAlong.b4 : Array Bool := X.bv212
abbrev timeboundlaw11_FactGoesAlong.b5 : Array Bool := X.bv213
abbrev timeboundlaw11_FactGoesAlong.b6 : Array Bool := X.bv214
abbrev timeboundlaw11_FactGoesAlong.b7 : Array Bool := X.bv215
abbrev timeboundlaw11_FactGoesAlong.b8 : Array Bool := X.bv216
abbrev timeboundlaw11_FactGoesAlong.b9 : Array Bool := X.bv217
abbrev timeboundlaw11_FactGoesAlong.b10 : Array Bool := X.bv218
abbrev timeboundlaw11_FactGoesAlong.b11 : Array Bool := X.bv219
abbrev timeboundlaw11_FactGoesAlong.b12 : Array Bool := X.bv220
abbrev timeboundlaw11_FactGoesAlong.b13 : Array Bool := X.bv221
abbrev timeboundlaw11_FactGoesAlong.b14 : Array Bool := X.bv222
abbrev timeboundlaw11_FactGoesAlong.b15 : Array Bool := X.bv223
abbrev timeboundlaw11_FactGoesAlong.b16 : Array Bool := X.bv224
abbrev timeboundlaw11_FactGoesAlong.b17 : Array Bool := X.bv225
abbrev timeboundlaw11_FactGoesAlong.b18 : Array Bool := X.bv226
abbrev timeboundlaw11_FactGoesAlong.b19 : Array Bool := X.bv227
abbrev timeboundlaw11_FactGoesAlong.b20 : Array Bool := X.bv228
abbrev timeboundlaw11_FactGoesAlong.b21 : Array Bool := X.bv229
abbrev timeboundlaw11_FactGoesAlong.b22 : Array Bool := X.bv230
abbrev timeboundlaw11_FactGoesAlong.b23 : Array Bool := X.bv231
abbrev timeboundlaw11_FactGoesAlong.b24 : Array Bool := X.bv232
abbrev timeboundlaw11_FactGoesAlong.b25 : Array Bool := X.bv233
abbrev timeboundlaw11_FactGoesAlong.b26 : Array Bool := X.bv234
abbrev timeboundlaw11_FactGoesAlong.b27 : Array Bool := X.bv235
abbrev timeboundlaw11_FactGoesAlong.b28 : Array Bool := X.bv236
abbrev timeboundlaw11_FactGoesAlong.b29 : Array Bool := X.bv237
abbrev timeboundlaw11_FactGoesAlong.b30 : Array Bool := X.bv238
abbrev timeboundlaw11_FactGoesAlong.b31 : Array Bool := X.bv239
abbrev timeboundlaw11_FactGoesAlong.b32 : Array Bool := X.bv240
abbrev timeboundlaw11_FactGoesAlong.b33 : Array Bool := X.bv241
abbrev timeboundlaw11_FactGoesAlong.b34 : Array Bool := X.bv242
abbrev timeboundlaw11_FactGoesAlong.b35 : Array Bool := X.bv243
abbrev timeboundlaw11_FactGoesAlong.b36 : Array Bool := X.bv244
abbrev timeboundlaw11_FactGoesAlong.b37 : Array Bool := X.bv245
abbrev timeboundlaw11_FactGoesAlong.b38 : Array Bool := X.bv246
abbrev timeboundlaw11_FactGoesAlong.b39 : Array Bool := X.bv247
abbrev timeboundlaw11_FactGoesAlong.b40 : Array Bool := X.bv248
abbrev timeboundlaw11_FactGoesAlong.b41 : Array Bool := X.bv249
abbrev timeboundlaw11_FactGoesAlong.b42 : Array Bool := X.bv250
abbrev timeboundlaw11_FactGoesAlong.b43 : Array Bool := X.bv251
abbrev timeboundlaw11_FactGoesAlong.b44 : Array Bool := X.bv252
abbrev timeboundlaw11_FactGoesAlong.b45 : Array Bool := X.bv253
set_option maxHeartbeats 8000000 in
set_option maxRecDepth 100000 in
theorem timeboundlaw11_FactGoesAlong.calls (k : Nat) (A0 : Option Addr) (c0 : Nat) (l0 : List Int) (r : Bool) (w : World) (hr0 : Kd.C (Kd.int .i64) w A0 l0.length l0) (hc0 : l0.length ≤ c0) (h : timeboundlaw11_FactGoesAlong.f k l0 = some r) :
   Calls Try.prog 3 #[.slice A0 l0.length c0] w fun e w' => e = .returned (.bool r) ∧ Below w.heap.size w w' := by
  have hu30 := Try.underlying30
  have HR0 := Aside0.mk hr0
  have HC0 := Aside0.mk hc0
  clear hr0 hc0
  have HB := Aside0.mk (Below.refl w.heap.size w)
  have H : ((timeboundmake_Few.f l0).bind fun t101 => (if t101 = true then ((timeboundmake_New.f l0).bind fun bt103 => ((timeboundmake_Deck_Next.f bt103.1 bt103.2 9).bind fun bt106 => ((timeboundlaw11_some.f k bt103.1 bt106.2 (wrap64 (1 + bt106.1))).bind fun bt108 => ((timeboundlaw11_maps.f k bt103.1 bt108.2.2 (wrap64 (1 + bt106.1))).bind fun bt113 => (if 30 ≤ 35184372088832 then (timeboundlaw11_FactGoesAlong.l0 k bt113.1 (List.replicate 30 0) 0 bt103.1 bt113.2 bt108.1 bt108.2.1) else (none)))))) else ((timeboundlaw11_awake.f k).bind fun t102 => (some t102)))) = some r := h
  clear h
  replace H := Option.bind_eq_some_iff.mp H
  obtain ⟨t101, A20, H⟩ := H
  replace H : (if t101 = true then ((timeboundmake_New.f l0).bind fun bt103 => ((timeboundmake_Deck_Next.f bt103.1 bt103.2 9).bind fun bt106 => ((timeboundlaw11_some.f k bt103.1 bt106.2 (wrap64 (1 + bt106.1))).bind fun bt108 => ((timeboundlaw11_maps.f k bt103.1 bt108.2.2 (wrap64 (1 + bt106.1))).bind fun bt113 => (if 30 ≤ 35184372088832 then (timeboundlaw11_FactGoesAlong.l0 k bt113.1 (List.replicate 30 0) 0 bt103.1 bt113.2 bt108.1 bt108.2.1) else (none)))))) else ((timeboundlaw11_awake.f k).bind fun t102 => (some t102))) = some r := H
  have A2 := Aside0.mk A20
  clear A20
  by_cases c3 : t101 = true
  ·subst c3
   have H1 : ((timeboundmake_New.f l0).bind fun bt103 => ((timeboundmake_Deck_Next.f bt103.1 bt103.2 9).bind fun bt106 => ((timeboundlaw11_some.f k bt103.1 bt106.2 (wrap64 (1 + bt106.1))).bind fun bt108 => ((timeboundlaw11_maps.f k bt103.1 bt108.2.2 (wrap64 (1 + bt106.1))).bind fun bt113 => (if 30 ≤ 35184372088832 then (timeboundlaw11_FactGoesAlong.l0 k bt113.1 (List.replicate 30 0) 0 bt103.1 bt113.2 bt108.1 bt108.2.1) else (none)))))) = some r := by rw [if_pos rfl] at H; exact H
   clear H
   have H := H1
   clear H1
   replace H := Option.bind_eq_some_iff.mp H
   obtain ⟨⟨t103, t104⟩, A40, H⟩ := H
   replace H : ((timeboundmake_Deck_Next.f t103 t104 9).bind fun bt106 => ((timeboundlaw11_some.f k t103 bt106.2 (wrap64 (1 + bt106.1))).bind fun bt108 => ((timeboundlaw11_maps.f k t103 bt108.2.2 (wrap64 (1 + bt106.1))).bind fun bt113 => (if 30 ≤ 35184372088832 then (timeboundlaw11_FactGoesAlong.l0 k bt113.1 (List.replicate 30 0) 0 t103 bt113.2 bt108.1 bt108.2.1) else (none))))) = some r := H
   have A4 := Aside0.mk A40
   clear A40
   replace H := Option.bind_eq_some_iff.mp H
   obtain ⟨⟨t106, t107⟩, A50, H⟩ := H
   replace H : ((timeboundlaw11_some.f k t103 t107 (wrap64 (1 + t106))).bind fun bt108 => ((timeboundlaw11_maps.f k t103 bt108.2.2 (wrap64 (1 + t106))).bind fun bt113 => (if 30 ≤ 35184372088832 then (timeboundlaw11_FactGoesAlong.l0 k bt113.1 (List.replicate 30 0) 0 t103 bt113.2 bt108.1 bt108.2.1) else (none)))) = some r := H
   have A5 := Aside0.mk A50
   clear A50
   replace H := Option.bind_eq_some_iff.mp H
   obtain ⟨⟨t108, t111, t112⟩, A60, H⟩ := H
   replace H : ((timeboundlaw11_maps.f k t103 t112 (wrap64 (1 + t106))).bind fun bt113 => (if 30 ≤ 35184372088832 then (timeboundlaw11_FactGoesAlong.l0 k bt113.1 (List.replicate 30 0) 0 t103 bt113.2 t108 t111) else (none))) = some r := H
   have A6 := Aside0.mk A60
   clear A60
   replace H := Option.bind_eq_some_iff.mp H
   obtain ⟨⟨t113, t116⟩, A70, H⟩ := H
   replace H : (if 30 ≤ 35184372088832 then (timeboundlaw11_FactGoesAlong.l0 k t113 (List.replicate 30 0) 0 t103 t116 t108 t111) else (none)) = some r := H
   have A7 := Aside0.mk A70
   clear A70
   by_cases c8 : 30 ≤ 35184372088832
   ·rw [if_pos c8] at H
    have c8b0 := eq_true c8
    have c8b1 : decide (30 ≤ 35184372088832) = true := decide_eq_true c8
    clear c8
    obtain ⟨y118, hy118⟩ : ∃ y_ : List Int, y_ = (List.replicate 30 0) := ⟨_, rfl⟩
    replace H : (timeboundlaw11_FactGoesAlong.l0 k t113 y118 0 t103 t116 t108 t111) = some r := by first | (rw [hy118]; with_reducible exact H) | (have H2_ := (Option.bind_some _ _).symm.trans H; rw [hy118]; with_reducible exact H2_) | (have H2_ := (Option.bind_some _ _).symm.trans H; with_reducible exact H2_) | with_reducible exact H | (rw [hy118]; exact H) | exact H
    have Ny118 := Aside0.mk hy118
    clear hy118
    have H' := Aside0.mk H
    clear H
    go_enter Try.func3, Try.ntmps3
    go_wp2_with (first | ((with_reducible refine gate_callee (f := 8) rfl ?_); refine goesL_ (some 17) rfl rfl Try.func8 (by kernel_rfl) rfl #[.slice A0 l0.length c0] rfl aM ?_; (with_reducible refine (timeboundmake_Few.calls _ _ l0 true _ ?side1 ?side2 A2.out).mono ?_); (case side1 => exact cK HR0.out); (case side2 => exact HC0.out); rintro e w' ⟨rfl, ⟨nd, rfl⟩⟩; refine ⟨_, rfl, ?_⟩) | ((with_reducible refine gate_callee (f := 10) rfl ?_); refine goesL_ (some 21) rfl rfl Try.func10 (by kernel_rfl) rfl #[.slice A0 l0.length c0] rfl aM ?_; (with_reducible refine (timeboundmake_New.calls _ _ l0 t103 t104 w _ ?side1 ?side2 ?side3 A4.out).mono ?_); (case side1 => repeat (first | (with_reducible first | exact HB.out | apply below_alloc | apply pw_below_drewN | apply below_drew1) | exact HB.out)); (case side2 => exact HR0.out); (case side3 => exact HC0.out); rintro e w9 ⟨g105, rfl, hi, hb, hb2⟩; refine ⟨_, rfl, ?_⟩; have n0_ := Aside0.mk (hb); have n1_ := Aside0.mk (hi); clear HB; have HB := n0_; have HI105 := n1_; clear n0_ n1_; (try clear hb); (try clear hb2); (try clear hi)) | ((with_reducible refine gate_callee (f := 11) rfl ?_); refine goesL_ (some 23) rfl rfl Try.func11 (by kernel_rfl) rfl #[.pointer (some ⟨g105, 0, none⟩), .int .i64 9] rfl aM ?_; (with_reducible refine (timeboundmake_Deck_Next.calls g105 t103 t104 9 t106 t107 w _ ?side1 ?side2 A5.out).mono ?_); (case side1 => repeat (first | (with_reducible first | exact HI105.out | apply IsS56.alloc | apply IsS56.drewN | apply IsS56.drew | apply IsS56.set_1) | exact HI105.out)); (case side2 => repeat (first | (with_reducible first | exact HB.out | apply below_alloc | apply pw_below_drewN | apply below_drew1 | refine below_set ?_ (IsS56.ge HI105.out)) | exact HB.out)); rintro e w10 ⟨rfl, hi, hb, hk⟩; refine ⟨_, rfl, ?_⟩; have n0_ := Aside0.mk (hb); have n1_ := Aside0.mk (hi); clear HB HI105; have HB := n0_; have HI105 := n1_; clear n0_ n1_; (try clear hb); (try clear hk); (try clear hi)) | ((with_reducible refine gate_callee (f := 12) rfl ?_); refine goesL_ (some 27) rfl rfl Try.func12 (by kernel_rfl) rfl #[.pointer (some ⟨g105, 0, none⟩), .int .i64 (wrap64 (1 + t106))] rfl aM ?_; (with_reducible refine (timeboundlaw11_some.calls k g105 t103 t107 (wrap64 (1 + t106)) t108 t111 t112 w _ ?side1 ?side2 A6.out).mono ?_); (case side1 => repeat (first | (with_reducible first | exact HI105.out | apply IsS56.alloc | apply IsS56.drewN | apply IsS56.drew | apply IsS56.set_1) | exact HI105.out)); (case side2 => repeat (first | (with_reducible first | exact HB.out | apply below_alloc | apply pw_below_drewN | apply below_drew1 | refine below_set ?_ (IsS56.ge HI105.out)) | exact HB.out)); rintro e w11 ⟨v109, rfl, ho0, hi, hb, hk⟩; refine ⟨_, rfl, ?_⟩; have n0_ := Aside0.mk (Kd.R_lower ho0 (below_size (hB1 HB.out (IsS56.ge HI105.out)))); have n1_ := Aside0.mk (hb); have n2_ := Aside0.mk (hi); clear HB HI105; have HO110 := n0_; have HB := n1_; have HI105 := n2_; clear n0_ n1_ n2_; (try clear hb); (try clear hk); (try clear hi); (try clear ho0)) | ((with_reducible refine gate_callee (f := 13) rfl ?_); refine goesL_ (some 30) rfl rfl Try.func13 (by kernel_rfl) rfl #[.pointer (some ⟨g105, 0, none⟩), .int .i64 (wrap64 (1 + t106))] rfl aM ?_; (with_reducible refine (timeboundlaw11_maps.calls k g105 t103 t112 (wrap64 (1 + t106)) t113 t116 w _ ?side1 ?side2 A7.out).mono ?_); (case side1 => repeat (first | (with_reducible first | exact HI105.out | apply IsS56.alloc | apply IsS56.drewN | apply IsS56.drew | apply IsS56.set_1) | exact HI105.out)); (case side2 => repeat (first | (with_reducible first | exact HB.out | apply below_alloc | apply pw_below_drewN | apply below_drew1 | refine below_set ?_ (IsS56.ge HI105.out)) | exact HB.out)); rintro e w12 ⟨v114, rfl, ho0, hi, hb, hk⟩; refine ⟨_, rfl, ?_⟩; have n0_ := Aside0.mk (Kd.R_mono (Kd.R_keep (IsS56.apart (show IsS56 w _ g105 t103 t112 from IsS56.k0 HI105.out) (rK HO110.out) (by decide)) hk (fun _ h => h.2)) (fun _ h => h.1)); have n1_ := Aside0.mk (Kd.S_lower ho0 (below_size (hB1 HB.out (IsS56.ge HI105.out)))); have n2_ := Aside0.mk (hb); have n3_ := Aside0.mk (hi); clear HO110 HB HI105; have HO110 := n0_; have HO115 := n1_; have HB := n2_; have HI105 := n3_; clear n0_ n1_ n2_ n3_; (try clear hb); (try clear hk); (try clear hi); (try clear ho0)) | ((with_reducible refine gate_dst (N := 5) rfl ?_); refine box_event ?hg (N := 5) ?hd (cs := #[.slice none 0 0, .int .i64 0]) (t := 30) ?hr ?_; (case hd => rfl); (case hg => rfl); (case hr => first | (go_simp; done) | (go_simp; rfl)); intro gb117 hg w13 hbox hb; have n0_ := Aside0.mk (Kd.R_below (rK HO110.out) hb); have n1_ := Aside0.mk (Kd.S_below (sK HO115.out) hb); have n2_ := Aside0.mk (IsS56.below (IsS56.k0 HI105.out) hb); have n3_ := Aside0.mk (below_step (hB1 HB.out (IsS56.ge HI105.out)) hb); have n4_ := Aside0.mk (hbox); have n5_ := Aside0.mk ((by rw [hg]; exact (below_size (hB1 HB.out (IsS56.ge HI105.out))) : w.heap.size ≤ gb117)); have n6_ := Aside0.mk ((by rw [hg]; exact (below_size (hB1 HB.out (IsS56.ge HI105.out))) : w.heap.size ≤ gb117)); have n7_ := Aside0.mk ((by rw [hg]; exact Nat.ne_of_lt (IsS56.lt (show IsS56 w _ g105 t103 t116 from IsS56.k0 HI105.out)) : g105 ≠ gb117)); have n8_ := Aside0.mk ((by rw [hg]; exact Nat.ne_of_gt (IsS56.lt (show IsS56 w _ g105 t103 t116 from IsS56.k0 HI105.out)) : gb117 ≠ g105)); clear HO110 HO115 HI105 HB; have HO110 := n0_; have HO115 := n1_; have HI105 := n2_; have HB := n3_; have BK117 := n4_; have GW117 := n5_; have GE117 := n6_; have NB105_117 := n7_; have NB117_105 := n8_; clear n0_ n1_ n2_ n3_ n4_ n5_ n6_ n7_ n8_; clear hb hbox hg; obtain ⟨Ao14, co14, eo14⟩ := Kd.R_slice HO110.out; subst eo14; have hnb15 := NB117_105.out; have hnc15 := NB105_117.out; have hcz16_0 : w13.cell? ⟨gb117, 0, none⟩ = some (.slice none 0 0) := (blk_cell BK117.out 0).trans rfl; have hcz16_1 : w13.cell? ⟨gb117, 1, none⟩ = some (.int .i64 0) := (blk_cell BK117.out 1).trans rfl; have hfz16_0 := blk_frozen BK117.out 0; have hfz16_1 := blk_frozen BK117.out 1) | ((with_reducible refine gate_dst (N := 31) rfl ?_); refine Kd.R_make (Kd.int .i64) _ 3 rfl (N := 31) rfl 22 _ _ rfl 30 rfl rfl Try.underlying22 (.int .i64 0) 8 info3 rfl (by decide) (by omega) 0 (ok := fun _ => True) (okp := fun _ => True) rfl (fun _ hk => hk) trivial (by omega) (by omega) (Below.refl _ _) (Nat.le_refl _) ?_; intro v119 w17 ho18 hb hg_ hnew_; clear hg_ hnew_; (first | rw [← Ny118.out] at ho18 | (simp only [Int.reduceToNat] at ho18; rw [← Ny118.out] at ho18)); have n0_ := Aside0.mk (Kd.R_below (by (with_reducible repeat (first | apply Kd.R_alloc | apply Kd.R_drewN | apply Kd.R_drew)); exact (Kd.R_mono (Kd.R_far (p := ⟨gb117, 1, none⟩) (Kd.R_far (p := ⟨gb117, 0, none⟩) (Kd.R_types HO110.out BK117.out (by decide)) (fun _ hk => hk.2) (.slice Ao14 t108.length co14)) (fun _ hk => hk.2) (.int .i64 t111)) (fun _ h_ => h_.1))) hb); have n1_ := Aside0.mk (Kd.S_elder' (by (with_reducible repeat (first | apply Kd.S_alloc | apply Kd.S_drewN | apply Kd.S_drew)); exact (Kd.S_mono (Kd.S_far (p := ⟨gb117, 1, none⟩) (Kd.S_far (p := ⟨gb117, 0, none⟩) (Kd.S_types HO115.out BK117.out (by decide)) (fun _ hk => hk.2) (.slice Ao14 t108.length co14)) (fun _ hk => hk.2) (.int .i64 t111)) (fun _ h_ => h_.1))) (Kd.R_base ho18) hb); have n2_ := Aside0.mk (Kd.R_lower ho18 (below_size (hB2 HB.out (IsS56.ge HI105.out) GE117.out))); have n3_ := Aside0.mk (IsS56.below (show IsS56 w ((w13.setCell ⟨gb117, 0, none⟩ (.slice Ao14 t108.length co14)).setCell ⟨gb117, 1, none⟩ (.int .i64 t111)) g105 t103 t116 from IsS56.k1 HI105.out NB105_117.out) hb); have n4_ := Aside0.mk (blk_below (g := gb117) (o := .cells #[.slice Ao14 t108.length co14, .int .i64 t111] 30 (0, 0)) (by (with_reducible repeat (first | refine blk_drewN ?_ _ | refine blk_drew ?_ | refine blk_alloc ?_ _)); refine blk_put (cs := #[.slice Ao14 t108.length co14, .int .i64 0]) ?_ 1 _ rfl; (with_reducible repeat (first | refine blk_drewN ?_ _ | refine blk_drew ?_ | refine blk_alloc ?_ _)); refine blk_put (cs := #[.slice none 0 0, .int .i64 0]) ?_ 0 _ rfl; (with_reducible repeat (first | refine blk_drewN ?_ _ | refine blk_drew ?_ | refine blk_alloc ?_ _)); exact BK117.out) hb); have n5_ := Aside0.mk (below_step (hB2 HB.out (IsS56.ge HI105.out) GE117.out) hb); clear HO110 HO115 HI105 BK117 HB; have HO110 := n0_; have HO115 := n1_; have HO120 := n2_; have HI105 := n3_; have BK117 := n4_; have HB := n5_; clear n0_ n1_ n2_ n3_ n4_ n5_; clear hb ho18))
    (try simp only [Act.put, List.setIfInBounds_toArray, List.set_cons_zero, List.set_cons_succ])
    go_loopg [8] k (fun kq v8 w' => ∃ (x7_1 : List Int) (x8_1 : Int) (x106001_1 : Int), v8 = .int .i64 x8_1 ∧ Aside0 (timeboundlaw11_FactGoesAlong.l0 kq t113 x7_1 x8_1 t103 x106001_1 t108 t111 = some r) ∧ Aside0 (kq ≤ k) ∧ Aside0 (Kd.S (Kd.slice 3 (Kd.int .i64)) 22 w' w.heap.size (fun k_ => some k_ ≠ (v119 : Value).ownBlock) v114 t113) ∧ Aside0 (Kd.R (Kd.int .i64) 3 w' w.heap.size (fun _ => True) v119 x7_1) ∧ Aside0 (Kd.R k44 44 w' w.heap.size (fun _ => True) (.slice Ao14 t108.length co14) t108) ∧ Aside0 (w'.heap[gb117]? = some (.cells #[(.slice Ao14 t108.length co14), .int .i64 t111] 30 (0, 0))) ∧ Aside0 (IsS56 w w' g105 t103 x106001_1) ∧ Aside0 (Below w.heap.size w w'))
    case atStart => exact ⟨(y118), (0), (t116), rS, H', ⟨Nat.le_refl _⟩, ⟨by (with_reducible repeat (first | apply Kd.S_alloc | apply Kd.S_drewN | apply Kd.S_drew)); exact Kd.S_mono HO115.out (fun _ hk => hk.2)⟩, ⟨rK HO120.out⟩, ⟨rK HO110.out⟩, ⟨bK BK117.out⟩, ⟨IsS56.k1 HI105.out NB105_117.out⟩, ⟨hB2 HB.out (IsS56.ge HI105.out) GE117.out⟩⟩
    case round =>
     clear H'
     try clear c3
     try clear c8b0
     try clear c8b1
     try clear hcz16_0
     try clear hcz16_1
     try clear hfz16_0
     try clear hfz16_1
     obtain ⟨x7_1, x8_1, x106001_1, rfl, HA, HK1, HO_6, HO_7, HO_118000, BK117, HI105, HB⟩ := hrel
     cases gk with
     | zero => exact absurd HA.out (by simp [timeboundlaw11_FactGoesAlong.l0])
     | succ k1 =>
      have H := HA.out
      clear HA
      simp only [timeboundlaw11_FactGoesAlong.l0] at H
      by_cases c19 : x8_1 < (x7_1.length : Int)
      ·rw [if_pos c19] at H
       have c19b0 : decide (x8_1 < (x7_1.length : Int)) = true := decide_eq_true c19
       clear c19
       replace H := Option.bind_eq_some_iff.mp H
       obtain ⟨⟨t121, t122⟩, A200, H⟩ := H
       replace H : (if 0 ≤ x8_1 then (timeboundlaw11_FactGoesAlong.l0 k1 t113 (x7_1.set (x8_1 : Int).toNat t121) (wrap64 (x8_1 + 1)) t103 t122 t108 t111) else (none)) = some r := H
       have A20 := Aside0.mk A200
       clear A200
       by_cases c21 : 0 ≤ x8_1
       ·rw [if_pos c21] at H
        have c21b0 : decide (0 ≤ x8_1) = true := decide_eq_true c21
        clear c21
        obtain ⟨y123, hy123⟩ : ∃ y_ : List Int, y_ = (x7_1.set (x8_1 : Int).toNat t121) := ⟨_, rfl⟩
        replace H : (timeboundlaw11_FactGoesAlong.l0 k1 t113 y123 (wrap64 (x8_1 + 1)) t103 t122 t108 t111) = some r := by first | (rw [hy123]; with_reducible exact H) | (have H2_ := (Option.bind_some _ _).symm.trans H; rw [hy123]; with_reducible exact H2_) | (have H2_ := (Option.bind_some _ _).symm.trans H; with_reducible exact H2_) | with_reducible exact H | (rw [hy123]; exact H) | exact H
        have Ny123 := Aside0.mk hy123
        clear hy123
        have H' := Aside0.mk H
        clear H
        obtain ⟨Ao23, co23, eo23⟩ := Kd.R_slice HO_7.out
        subst eo23
        go_wp2_with (first | ((with_reducible refine gate_callee (f := 11) rfl ?_); refine goesL_ (some 41) rfl rfl Try.func11 (by kernel_rfl) rfl #[.pointer (some ⟨g105, 0, none⟩), .int .i64 15] rfl aM ?_; (with_reducible refine (timeboundmake_Deck_Next.calls g105 t103 x106001_1 15 t121 t122 w _ ?side1 ?side2 A20.out).mono ?_); (case side1 => repeat (first | (with_reducible first | exact HI105.out | apply IsS56.alloc | apply IsS56.drewN | apply IsS56.drew | apply IsS56.set_1 | refine IsS56.far ?_ NB105_117.out _) | exact HI105.out)); (case side2 => repeat (first | (with_reducible first | exact HB.out | apply below_alloc | apply pw_below_drewN | apply below_drew1 | refine below_set ?_ (IsS56.ge HI105.out) | refine below_set ?_ GE117.out) | exact HB.out)); rintro e w24 ⟨rfl, hi, hb, hk⟩; refine ⟨_, rfl, ?_⟩; have n0_ := Aside0.mk (Kd.S_mono (Kd.S_keep (IsS56.apartS (show IsS56 w _ g105 t103 x106001_1 from IsS56.k1 HI105.out NB105_117.out) (sK HO_6.out) (by decide)) hk (fun _ h => h.2)) (fun _ h => h.1)); have n1_ := Aside0.mk (Kd.R_mono (Kd.R_keep (IsS56.apart (show IsS56 w _ g105 t103 x106001_1 from IsS56.k1 HI105.out NB105_117.out) (rK HO_7.out) (by decide)) hk (fun _ h => h.2)) (fun _ h => h.1)); have n2_ := Aside0.mk (Kd.R_mono (Kd.R_keep (IsS56.apart (show IsS56 w _ g105 t103 x106001_1 from IsS56.k1 HI105.out NB105_117.out) (rK HO_118000.out) (by decide)) hk (fun _ h => h.2)) (fun _ h => h.1)); have n3_ := Aside0.mk (KeepBut.blk hk (g' := gb117) (o := .cells #[.slice Ao14 t108.length co14, .int .i64 t111] 30 (0, 0)) (bK BK117.out) NB117_105.out (by simp)); have n4_ := Aside0.mk (hb); have n5_ := Aside0.mk (hi); clear HO_6 HO_7 HO_118000 BK117 HB HI105; have HO_6 := n0_; have HO_7 := n1_; have HO_118000 := n2_; have BK117 := n3_; have HB := n4_; have HI105 := n5_; clear n0_ n1_ n2_ n3_ n4_ n5_; (try clear hb); (try clear hk); (try clear hi); have p22 : 0 ≤ (x8_1 : Int) := oD; have q22 : (x8_1 : Int) < ((x7_1.length : Int) : Int) := oD; obtain ⟨go22, co22, eo22, gb22, gl22, cl22, HG22⟩ := Kd.R_form HO_7.out (by omega); (first | cases eo22 | (injection eo22 with ea_ en_ ec_; (first | subst ea_ | (injection ea_ with ea_; subst ea_)); subst ec_; clear en_)); have GB22 := Aside0.mk gb22; have GG22 := Aside0.mk HG22; clear gb22 gl22 HG22; obtain ⟨hx22_0, hf22_0⟩ := Kd.R_celln 0 HO_7.out (x8_1 : Int) p22 q22; replace p22 := eq_true p22; replace q22 := eq_true q22; obtain ⟨hy25_, hz25_⟩ := Kd.R_celln 0 HO_7.out (x8_1 : Int) (oD) (oD); have HP25 := Kd.R_putg HO_7.out (x8_1 : Int) t121) | ((with_reducible refine gate_store (t := 3) (p := 42) rfl ?_); refine store_event (t := 3) (p := 42) (v := ?vo_w26) (w1 := (w24.setCell ⟨go22, (x8_1 : Int).toNat, none⟩ (.int .i64 t121))) ?hg ?ho ?hn ?hr ?_; (case ho => rfl); (case hg => rfl); (case hn => rfl); (case hr => first | (go_simp; done) | (go_simp; rfl)); intro w26 hw; have hg : w24.grownBy w26 (some go22) := (by rw [hw]; exact HP25.2); have hp_ : Kd.R (Kd.int .i64) 3 w26 w.heap.size (fun _ => True) (.slice (some ⟨go22, 0, none⟩) x7_1.length co23) y123 := (by rw [hw, Ny123.out]; exact HP25.1); clear HP25; have n0_ := Aside0.mk (Kd.S_after (v := (.slice (some ⟨go22, 0, none⟩) x7_1.length co23)) (v1 := (.slice (some ⟨go22, 0, none⟩) x7_1.length co23)) (ok := (fun _ => True)) (by (with_reducible repeat (first | apply Kd.S_alloc | apply Kd.S_drewN | apply Kd.S_drew)); exact Kd.S_mono HO_6.out (fun _ hk => ⟨trivial, hk⟩)) hg (.inl rfl)); have n1_ := Aside0.mk (hp_); have n2_ := Aside0.mk (Kd.R_over' (v := (.slice (some ⟨go22, 0, none⟩) x7_1.length co23)) (rK HO_118000.out) (Kd.R_typed HO_7.out) (by decide) hg); have n3_ := Aside0.mk (blk_grown (g := gb117) (o := .cells #[.slice Ao14 t108.length co14, .int .i64 t111] 30 (0, 0)) (bK BK117.out) hg (Kd.R_ne HO_7.out BK117.out (by decide))); have n4_ := Aside0.mk (IsS56.grown (IsS56.k1 HI105.out NB105_117.out) hg (IsS56.own_ne HI105.out HO_7.out (by decide))); have n5_ := Aside0.mk ((by rw [hw]; exact below_set (HB.out) GB22.out : Below w.heap.size w w26)); clear HO_6 HO_7 HO_118000 BK117 HI105 HB; have HO_6 := n0_; have HO_7 := n1_; have HO_118000 := n2_; have BK117 := n3_; have HI105 := n4_; have HB := n5_; clear n0_ n1_ n2_ n3_ n4_ n5_; clear hg hw hp_))
        go_roundg k1
        case measure => have := HK1.out; omega
        case rel => exact ⟨(y123), (wrap64 (x8_1 + 1)), (t122), rS, H', ⟨by have := HK1.out; omega⟩, ⟨by (with_reducible repeat (first | apply Kd.S_alloc | apply Kd.S_drewN | apply Kd.S_drew)); exact Kd.S_mono HO_6.out (fun _ hk => hk.2)⟩, ⟨rK HO_7.out⟩, ⟨rK HO_118000.out⟩, ⟨bK BK117.out⟩, ⟨IsS56.k1 HI105.out NB105_117.out⟩, ⟨hB2 HB.out (IsS56.ge HI105.out) GE117.out⟩⟩
       ·rw [if_neg c21] at H
        exact absurd H (by simp)
      ·rw [if_neg c19] at H
       have c19b0 : decide (x8_1 < (x7_1.length : Int)) = false := decide_eq_false c19
       clear c19
       replace H := Option.bind_eq_some_iff.mp H
       obtain ⟨t124, A270, H⟩ := H
       replace H : ((fact_Map.f k1 t108 t111 t113).bind fun bt127 => ((fact_Sum.f k1 t108 t111 t124).bind fun bt133 => ((fact_Sum.f k1 bt127.1 bt127.2.1 x7_1).bind fun bt135 => (if bt127.2.2 = 0 then (if bt133.2 = 0 then (if bt135.2 = 0 then (if bt133.1 = bt135.1 then (if bt127.2.1 = t111 then ((fact_Holds.f k1 t108 t111 t124).bind fun t137 => ((fact_Holds.f k1 bt127.1 bt127.2.1 x7_1).bind fun t138 => (if (t137 == t138) = true then ((fact_Check.f k1 bt127.1 bt127.2.1).bind fun t139 => (if t139 = 0 then ((timeboundlaw11_awake.f k1).bind fun t140 => (timeboundlaw11_FactGoesAlong.j1 k1 t140)) else (timeboundlaw11_FactGoesAlong.j1 k1 false))) else (timeboundlaw11_FactGoesAlong.j1 k1 false)))) else (timeboundlaw11_FactGoesAlong.j1 k1 false)) else (timeboundlaw11_FactGoesAlong.j1 k1 false)) else (timeboundlaw11_FactGoesAlong.j1 k1 false)) else (timeboundlaw11_FactGoesAlong.j1 k1 false)) else (timeboundlaw11_FactGoesAlong.j1 k1 false))))) = some r := H
       have A27 := Aside0.mk A270
       clear A270
       replace H := Option.bind_eq_some_iff.mp H
       obtain ⟨⟨t127, t130, t131⟩, A280, H⟩ := H
       replace H : ((fact_Sum.f k1 t108 t111 t124).bind fun bt133 => ((fact_Sum.f k1 t127 t130 x7_1).bind fun bt135 => (if t131 = 0 then (if bt133.2 = 0 then (if bt135.2 = 0 then (if bt133.1 = bt135.1 then (if t130 = t111 then ((fact_Holds.f k1 t108 t111 t124).bind fun t137 => ((fact_Holds.f k1 t127 t130 x7_1).bind fun t138 => (if (t137 == t138) = true then ((fact_Check.f k1 t127 t130).bind fun t139 => (if t139 = 0 then ((timeboundlaw11_awake.f k1).bind fun t140 => (timeboundlaw11_FactGoesAlong.j1 k1 t140)) else (timeboundlaw11_FactGoesAlong.j1 k1 false))) else (timeboundlaw11_FactGoesAlong.j1 k1 false)))) else (timeboundlaw11_FactGoesAlong.j1 k1 false)) else (timeboundlaw11_FactGoesAlong.j1 k1 false)) else (timeboundlaw11_FactGoesAlong.j1 k1 false)) else (timeboundlaw11_FactGoesAlong.j1 k1 false)) else (timeboundlaw11_FactGoesAlong.j1 k1 false)))) = some r := H
       have A28 := Aside0.mk A280
       clear A280
       replace H := Option.bind_eq_some_iff.mp H
       obtain ⟨⟨t133, t134⟩, A290, H⟩ := H
       replace H : ((fact_Sum.f k1 t127 t130 x7_1).bind fun bt135 => (if t131 = 0 then (if t134 = 0 then (if bt135.2 = 0 then (if t133 = bt135.1 then (if t130 = t111 then ((fact_Holds.f k1 t108 t111 t124).bind fun t137 => ((fact_Holds.f k1 t127 t130 x7_1).bind fun t138 => (if (t137 == t138) = true then ((fact_Check.f k1 t127 t130).bind fun t139 => (if t139 = 0 then ((timeboundlaw11_awake.f k1).bind fun t140 => (timeboundlaw11_FactGoesAlong.j1 k1 t140)) else (timeboundlaw11_FactGoesAlong.j1 k1 false))) else (timeboundlaw11_FactGoesAlong.j1 k1 false)))) else (timeboundlaw11_FactGoesAlong.j1 k1 false)) else (timeboundlaw11_FactGoesAlong.j1 k1 false)) else (timeboundlaw11_FactGoesAlong.j1 k1 false)) else (timeboundlaw11_FactGoesAlong.j1 k1 false)) else (timeboundlaw11_FactGoesAlong.j1 k1 false))) = some r := H
       have A29 := Aside0.mk A290
       clear A290
       replace H := Option.bind_eq_some_iff.mp H
       obtain ⟨⟨t135, t136⟩, A300, H⟩ := H
       replace H : (if t131 = 0 then (if t134 = 0 then (if t136 = 0 then (if t133 = t135 then (if t130 = t111 then ((fact_Holds.f k1 t108 t111 t124).bind fun t137 => ((fact_Holds.f k1 t127 t130 x7_1).bind fun t138 => (if (t137 == t138) = true then ((fact_Check.f k1 t127 t130).bind fun t139 => (if t139 = 0 then ((timeboundlaw11_awake.f k1).bind fun t140 => (timeboundlaw11_FactGoesAlong.j1 k1 t140)) else (timeboundlaw11_FactGoesAlong.j1 k1 false))) else (timeboundlaw11_FactGoesAlong.j1 k1 false)))) else (timeboundlaw11_FactGoesAlong.j1 k1 false)) else (timeboundlaw11_FactGoesAlong.j1 k1 false)) else (timeboundlaw11_FactGoesAlong.j1 k1 false)) else (timeboundlaw11_FactGoesAlong.j1 k1 false)) else (timeboundlaw11_FactGoesAlong.j1 k1 false)) = some r := H
       have A30 := Aside0.mk A300
       clear A300
       have HC31 := Aside0.mk H
       clear H
       obtain ⟨Ao32, co32, eo32⟩ := Kd.R_slice HO_7.out
       subst eo32
       obtain ⟨Ao33, co33, eo33⟩ := Kd.S_slice HO_6.out
       subst eo33
       go_upto_region 15 with (first | ((with_reducible refine gate_callee (f := 14) rfl ?_); refine goesL_ (some 45) rfl rfl Try.func14 (by kernel_rfl) rfl #[.slice Ao33 t113.length co33, .slice Ao32 x7_1.length co32] rfl aM ?_; (with_reducible refine (timeboundmake_Sums.calls k1 _ _ t113 _ _ x7_1 t124 _ ?side1 ?side2 ?side3 ?side4 A27.out).mono ?_); (case side1 => exact cK (Kd.S_reads' HO_6.out).2.2); (case side2 => exact (Kd.S_reads' HO_6.out).2.1); (case side3 => exact cK (Kd.R_reads' HO_7.out).2.2); (case side4 => exact (Kd.R_reads' HO_7.out).2.1); rintro e w34 ⟨v125, rfl, ho0, hb⟩; refine ⟨_, rfl, ?_⟩; have n0_ := Aside0.mk (Kd.S_elder' (sK HO_6.out) (Kd.R_base ho0) hb); have n1_ := Aside0.mk (Kd.R_elder' (rK HO_7.out) (Kd.R_base ho0) hb); have n2_ := Aside0.mk (Kd.R_below (rK HO_118000.out) hb); have n3_ := Aside0.mk (Kd.R_lower (Kd.R_new' ho0 (Kd.R_lt (rK HO_7.out))) (below_size (hB2 HB.out (IsS56.ge HI105.out) GE117.out))); have n4_ := Aside0.mk (blk_below (g := gb117) (o := .cells #[.slice Ao14 t108.length co14, .int .i64 t111] 30 (0, 0)) (bK BK117.out) hb); have n5_ := Aside0.mk (IsS56.below (IsS56.k1 HI105.out NB105_117.out) hb); have n6_ := Aside0.mk (below_step (hB2 HB.out (IsS56.ge HI105.out) GE117.out) hb); clear HO_6 HO_7 HO_118000 BK117 HI105 HB; have HO_6 := n0_; have HO_7 := n1_; have HO_118000 := n2_; have HO126 := n3_; have BK117 := n4_; have HI105 := n5_; have HB := n6_; clear n0_ n1_ n2_ n3_ n4_ n5_ n6_; (try clear hb); (try clear ho0); have hnb35 := NB117_105.out; have hnc35 := NB105_117.out; have hcz36_0 : w34.cell? ⟨gb117, 0, none⟩ = some (.slice Ao14 t108.length co14) := (blk_cell BK117.out 0).trans rfl; have hcz36_1 : w34.cell? ⟨gb117, 1, none⟩ = some (.int .i64 t111) := (blk_cell BK117.out 1).trans rfl; have hfz36_0 := blk_frozen BK117.out 0; have hfz36_1 := blk_frozen BK117.out 1) | ((with_reducible refine gate_callee (f := 15) rfl ?_); refine goesL_ (some 49) rfl rfl Try.func15 (by kernel_rfl) rfl #[.agg #[.slice Ao14 t108.length co14, .int .i64 t111], .slice Ao33 t113.length co33] rfl aM ?_; (with_reducible refine (fact_Map.calls k1 _ _ t108 t111 _ _ t113 t127 t130 t131 _ ?side1 ?side2 ?side3 ?side4 A28.out).mono ?_); (case side1 => exact cK (Kd.R_reads' HO_118000.out).2.2); (case side2 => exact (Kd.R_reads' HO_118000.out).2.1); (case side3 => exact cK (Kd.S_reads' HO_6.out).2.2); (case side4 => exact (Kd.S_reads' HO_6.out).2.1); rintro e w37 ⟨v128, rfl, ho0, hb⟩; refine ⟨_, rfl, ?_⟩; have n0_ := Aside0.mk (Kd.S_below (sK HO_6.out) hb); have n1_ := Aside0.mk (Kd.R_below (rK HO_7.out) hb); have n2_ := Aside0.mk (Kd.R_elder' (rK HO_118000.out) (Kd.R_base ho0) hb); have n3_ := Aside0.mk (Kd.R_below (rK HO126.out) hb); have n4_ := Aside0.mk (Kd.R_lower (Kd.R_new' ho0 (Kd.R_lt (rK HO_118000.out))) (below_size (hB2 HB.out (IsS56.ge HI105.out) GE117.out))); have n5_ := Aside0.mk (blk_below (g := gb117) (o := .cells #[.slice Ao14 t108.length co14, .int .i64 t111] 30 (0, 0)) (bK BK117.out) hb); have n6_ := Aside0.mk (IsS56.below (IsS56.k1 HI105.out NB105_117.out) hb); have n7_ := Aside0.mk (below_step (hB2 HB.out (IsS56.ge HI105.out) GE117.out) hb); clear HO_6 HO_7 HO_118000 HO126 BK117 HI105 HB; have HO_6 := n0_; have HO_7 := n1_; have HO_118000 := n2_; have HO126 := n3_; have HO129 := n4_; have BK117 := n5_; have HI105 := n6_; have HB := n7_; clear n0_ n1_ n2_ n3_ n4_ n5_ n6_ n7_; (try clear hb); (try clear ho0)) | ((with_reducible refine gate_dst (N := 10) rfl ?_); refine box_event ?hg (N := 10) ?hd (cs := #[.slice none 0 0, .int .i64 0]) (t := 30) ?hr ?_; (case hd => rfl); (case hg => rfl); (case hr => first | (go_simp; done) | (go_simp; rfl)); intro gb132 hg w38 hbox hb; have n0_ := Aside0.mk (Kd.S_below (sK HO_6.out) hb); have n1_ := Aside0.mk (Kd.R_below (rK HO_7.out) hb); have n2_ := Aside0.mk (Kd.R_below (rK HO_118000.out) hb); have n3_ := Aside0.mk (Kd.R_below (rK HO126.out) hb); have n4_ := Aside0.mk (Kd.R_below (rK HO129.out) hb); have n5_ := Aside0.mk (blk_below (g := gb117) (o := .cells #[.slice Ao14 t108.length co14, .int .i64 t111] 30 (0, 0)) (bK BK117.out) hb); have n6_ := Aside0.mk (IsS56.below (IsS56.k1 HI105.out NB105_117.out) hb); have n7_ := Aside0.mk (below_step (hB2 HB.out (IsS56.ge HI105.out) GE117.out) hb); have n8_ := Aside0.mk (hbox); have n9_ := Aside0.mk ((by rw [hg]; exact (below_size (hB2 HB.out (IsS56.ge HI105.out) GE117.out)) : w.heap.size ≤ gb132)); have n10_ := Aside0.mk ((by rw [hg]; exact (below_size (hB2 HB.out (IsS56.ge HI105.out) GE117.out)) : w.heap.size ≤ gb132)); have n11_ := Aside0.mk ((by rw [hg]; exact Nat.ne_of_lt (blk_lt (g := gb117) (o := .cells #[.slice Ao14 t108.length co14, .int .i64 t111] 30 (0, 0)) (bK BK117.out)) : gb117 ≠ gb132)); have n12_ := Aside0.mk ((by rw [hg]; exact Nat.ne_of_gt (blk_lt (g := gb117) (o := .cells #[.slice Ao14 t108.length co14, .int .i64 t111] 30 (0, 0)) (bK BK117.out)) : gb132 ≠ gb117)); have n13_ := Aside0.mk ((by rw [hg]; exact Nat.ne_of_lt (IsS56.lt (show IsS56 w _ g105 t103 x106001_1 from IsS56.k1 HI105.out NB105_117.out)) : g105 ≠ gb132)); have n14_ := Aside0.mk ((by rw [hg]; exact Nat.ne_of_gt (IsS56.lt (show IsS56 w _ g105 t103 x106001_1 from IsS56.k1 HI105.out NB105_117.out)) : gb132 ≠ g105)); clear HO_6 HO_7 HO_118000 HO126 HO129 BK117 HI105 HB; have HO_6 := n0_; have HO_7 := n1_; have HO_118000 := n2_; have HO126 := n3_; have HO129 := n4_; have BK117 := n5_; have HI105 := n6_; have HB := n7_; have BK132 := n8_; have GW132 := n9_; have GE132 := n10_; have NB117_132 := n11_; have NB132_117 := n12_; have NB105_132 := n13_; have NB132_105 := n14_; clear n0_ n1_ n2_ n3_ n4_ n5_ n6_ n7_ n8_ n9_ n10_ n11_ n12_ n13_ n14_; clear hb hbox hg; obtain ⟨Ao39, co39, eo39⟩ := Kd.R_slice HO129.out; subst eo39; have hnb40 := NB132_117.out; have hnc40 := NB117_132.out; have hnb41 := NB132_105.out; have hnc41 := NB105_132.out; have hcz42_0 : w38.cell? ⟨gb132, 0, none⟩ = some (.slice none 0 0) := (blk_cell BK132.out 0).trans rfl; have hcz42_1 : w38.cell? ⟨gb132, 1, none⟩ = some (.int .i64 0) := (blk_cell BK132.out 1).trans rfl; have hfz42_0 := blk_frozen BK132.out 0; have hfz42_1 := blk_frozen BK132.out 1; have hcz43_0 : w38.cell? ⟨gb117, 0, none⟩ = some (.slice Ao14 t108.length co14) := (blk_cell BK117.out 0).trans rfl; have hcz43_1 : w38.cell? ⟨gb117, 1, none⟩ = some (.int .i64 t111) := (blk_cell BK117.out 1).trans rfl; have hfz43_0 := blk_frozen BK117.out 0; have hfz43_1 := blk_frozen BK117.out 1; obtain ⟨Ao44, co44, eo44⟩ := Kd.R_slice HO126.out; subst eo44) | ((with_reducible refine gate_callee (f := 16) rfl ?_); refine goesL_ (some 55) rfl rfl Try.func16 (by kernel_rfl) rfl #[.agg #[.slice Ao14 t108.length co14, .int .i64 t111], .slice Ao44 t124.length co44] rfl aM ?_; (with_reducible refine (fact_Sum.calls k1 _ _ t108 t111 _ _ t124 t133 t134 _ ?side1 ?side2 ?side3 ?side4 A29.out).mono ?_); (case side1 => refine (Kd.R_reads' (e := 44) (base := w.heap.size) (ok := fun k_ => (True ∧ some k_ ≠ (.slice Ao39 t127.length co39 : Value).ownBlock)) (n := t108.length) (c := co14) ?_).2.2; exact (by (with_reducible repeat (first | apply Kd.R_alloc | apply Kd.R_drewN | apply Kd.R_drew)); exact (Kd.R_mono (Kd.R_far (p := ⟨gb132, 1, none⟩) (Kd.R_far (p := ⟨gb132, 0, none⟩) (Kd.R_types HO_118000.out BK132.out (by decide)) (fun _ hk => hk.2) (.slice Ao39 t127.length co39)) (fun _ hk => hk.2) (.int .i64 t130)) (fun _ h_ => h_.1)))); (case side2 => exact (Kd.R_reads' HO_118000.out).2.1); (case side3 => refine (Kd.R_reads' (e := 3) (base := w.heap.size) (ok := fun k_ => (True ∧ some k_ ≠ (.slice Ao32 x7_1.length co32 : Value).ownBlock)) (n := t124.length) (c := co44) ?_).2.2; exact (by (with_reducible repeat (first | apply Kd.R_alloc | apply Kd.R_drewN | apply Kd.R_drew)); exact (Kd.R_mono (Kd.R_far (p := ⟨gb132, 1, none⟩) (Kd.R_far (p := ⟨gb132, 0, none⟩) (Kd.R_types HO126.out BK132.out (by decide)) (fun _ hk => hk.2) (.slice Ao39 t127.length co39)) (fun _ hk => hk.2) (.int .i64 t130)) (fun _ h_ => h_.1)))); (case side4 => exact (Kd.R_reads' HO126.out).2.1); rintro e w45 ⟨rfl, hb⟩; refine ⟨_, rfl, ?_⟩; have n0_ := Aside0.mk (Kd.S_below (by (with_reducible repeat (first | apply Kd.S_alloc | apply Kd.S_drewN | apply Kd.S_drew)); exact (Kd.S_mono (Kd.S_far (p := ⟨gb132, 1, none⟩) (Kd.S_far (p := ⟨gb132, 0, none⟩) (Kd.S_types HO_6.out BK132.out (by decide)) (fun _ hk => hk.2) (.slice Ao39 t127.length co39)) (fun _ hk => hk.2) (.int .i64 t130)) (fun _ h_ => h_.1))) hb); have n1_ := Aside0.mk (Kd.R_below (by (with_reducible repeat (first | apply Kd.R_alloc | apply Kd.R_drewN | apply Kd.R_drew)); exact (Kd.R_mono (Kd.R_far (p := ⟨gb132, 1, none⟩) (Kd.R_far (p := ⟨gb132, 0, none⟩) (Kd.R_types HO_7.out BK132.out (by decide)) (fun _ hk => hk.2) (.slice Ao39 t127.length co39)) (fun _ hk => hk.2) (.int .i64 t130)) (fun _ h_ => h_.1))) hb); have n2_ := Aside0.mk (Kd.R_below (by (with_reducible repeat (first | apply Kd.R_alloc | apply Kd.R_drewN | apply Kd.R_drew)); exact (Kd.R_mono (Kd.R_far (p := ⟨gb132, 1, none⟩) (Kd.R_far (p := ⟨gb132, 0, none⟩) (Kd.R_types HO_118000.out BK132.out (by decide)) (fun _ hk => hk.2) (.slice Ao39 t127.length co39)) (fun _ hk => hk.2) (.int .i64 t130)) (fun _ h_ => h_.1))) hb); have n3_ := Aside0.mk (Kd.R_below (by (with_reducible repeat (first | apply Kd.R_alloc | apply Kd.R_drewN | apply Kd.R_drew)); exact (Kd.R_mono (Kd.R_far (p := ⟨gb132, 1, none⟩) (Kd.R_far (p := ⟨gb132, 0, none⟩) (Kd.R_types HO126.out BK132.out (by decide)) (fun _ hk => hk.2) (.slice Ao39 t127.length co39)) (fun _ hk => hk.2) (.int .i64 t130)) (fun _ h_ => h_.1))) hb); have n4_ := Aside0.mk (Kd.R_below (by (with_reducible repeat (first | apply Kd.R_alloc | apply Kd.R_drewN | apply Kd.R_drew)); exact (Kd.R_mono (Kd.R_far (p := ⟨gb132, 1, none⟩) (Kd.R_far (p := ⟨gb132, 0, none⟩) (Kd.R_types HO129.out BK132.out (by decide)) (fun _ hk => hk.2) (.slice Ao39 t127.length co39)) (fun _ hk => hk.2) (.int .i64 t130)) (fun _ h_ => h_.1))) hb); have n5_ := Aside0.mk (blk_below (g := gb117) (o := .cells #[.slice Ao14 t108.length co14, .int .i64 t111] 30 (0, 0)) (by (with_reducible repeat (first | refine blk_drewN ?_ _ | refine blk_drew ?_ | refine blk_alloc ?_ _)); refine blk_far ?_ NB117_132.out _; (with_reducible repeat (first | refine blk_drewN ?_ _ | refine blk_drew ?_ | refine blk_alloc ?_ _)); refine blk_far ?_ NB117_132.out _; (with_reducible repeat (first | refine blk_drewN ?_ _ | refine blk_drew ?_ | refine blk_alloc ?_ _)); exact BK117.out) hb); have n6_ := Aside0.mk (IsS56.below (show IsS56 w ((w38.setCell ⟨gb132, 0, none⟩ (.slice Ao39 t127.length co39)).setCell ⟨gb132, 1, none⟩ (.int .i64 t130)) g105 t103 x106001_1 from IsS56.k2 HI105.out NB105_117.out NB105_132.out) hb); have n7_ := Aside0.mk (blk_below (g := gb132) (o := .cells #[.slice Ao39 t127.length co39, .int .i64 t130] 30 (0, 0)) (by (with_reducible repeat (first | refine blk_drewN ?_ _ | refine blk_drew ?_ | refine blk_alloc ?_ _)); refine blk_put (cs := #[.slice Ao39 t127.length co39, .int .i64 0]) ?_ 1 _ rfl; (with_reducible repeat (first | refine blk_drewN ?_ _ | refine blk_drew ?_ | refine blk_alloc ?_ _)); refine blk_put (cs := #[.slice none 0 0, .int .i64 0]) ?_ 0 _ rfl; (with_reducible repeat (first | refine blk_drewN ?_ _ | refine blk_drew ?_ | refine blk_alloc ?_ _)); exact BK132.out) hb); have n8_ := Aside0.mk (below_step (hB3 HB.out (IsS56.ge HI105.out) GE117.out GE132.out) hb); clear HO_6 HO_7 HO_118000 HO126 HO129 BK117 HI105 BK132 HB; have HO_6 := n0_; have HO_7 := n1_; have HO_118000 := n2_; have HO126 := n3_; have HO129 := n4_; have BK117 := n5_; have HI105 := n6_; have BK132 := n7_; have HB := n8_; clear n0_ n1_ n2_ n3_ n4_ n5_ n6_ n7_ n8_; (try clear hb); have hcz46_0 : w45.cell? ⟨gb132, 0, none⟩ = some (.slice Ao39 t127.length co39) := (blk_cell BK132.out 0).trans rfl; have hcz46_1 : w45.cell? ⟨gb132, 1, none⟩ = some (.int .i64 t130) := (blk_cell BK132.out 1).trans rfl; have hfz46_0 := blk_frozen BK132.out 0; have hfz46_1 := blk_frozen BK132.out 1) | ((with_reducible refine gate_callee (f := 16) rfl ?_); refine goesL_ (some 61) rfl rfl Try.func16 (by kernel_rfl) rfl #[.agg #[.slice Ao39 t127.length co39, .int .i64 t130], .slice Ao32 x7_1.length co32] rfl aM ?_; (with_reducible refine (fact_Sum.calls k1 _ _ t127 t130 _ _ x7_1 t135 t136 _ ?side1 ?side2 ?side3 ?side4 A30.out).mono ?_); (case side1 => exact cK (Kd.R_reads' HO129.out).2.2); (case side2 => exact (Kd.R_reads' HO129.out).2.1); (case side3 => exact cK (Kd.R_reads' HO_7.out).2.2); (case side4 => exact (Kd.R_reads' HO_7.out).2.1); rintro e w47 ⟨rfl, hb⟩; refine ⟨_, rfl, ?_⟩; have n0_ := Aside0.mk (Kd.S_below (sK HO_6.out) hb); have n1_ := Aside0.mk (Kd.R_below (rK HO_7.out) hb); have n2_ := Aside0.mk (Kd.R_below (rK HO_118000.out) hb); have n3_ := Aside0.mk (Kd.R_below (rK HO126.out) hb); have n4_ := Aside0.mk (Kd.R_below (rK HO129.out) hb); have n5_ := Aside0.mk (blk_below (g := gb117) (o := .cells #[.slice Ao14 t108.length co14, .int .i64 t111] 30 (0, 0)) (bK BK117.out) hb); have n6_ := Aside0.mk (IsS56.below (IsS56.k2 HI105.out NB105_117.out NB105_132.out) hb); have n7_ := Aside0.mk (blk_below (g := gb132) (o := .cells #[.slice Ao39 t127.length co39, .int .i64 t130] 30 (0, 0)) (bK BK132.out) hb); have n8_ := Aside0.mk (below_step (hB3 HB.out (IsS56.ge HI105.out) GE117.out GE132.out) hb); clear HO_6 HO_7 HO_118000 HO126 HO129 BK117 HI105 BK132 HB; have HO_6 := n0_; have HO_7 := n1_; have HO_118000 := n2_; have HO126 := n3_; have HO129 := n4_; have BK117 := n5_; have HI105 := n6_; have BK132 := n7_; have HB := n8_; clear n0_ n1_ n2_ n3_ n4_ n5_ n6_ n7_ n8_; (try clear hb)))
       (try simp only [Act.put, List.setIfInBounds_toArray, List.set_cons_zero, List.set_cons_succ])
       go_cut [2] (fun v2 wc => ∃ (kq : Nat) (x2_30 : Bool), v2 = .bool x2_30 ∧ Aside0 (timeboundlaw11_FactGoesAlong.j1 kq x2_30 = some r) ∧ Aside0 (kq ≤ k1) ∧ Aside0 (Kd.R k44 44 wc w.heap.size (fun k_ => some k_ ≠ ((.slice Ao39 t127.length co39) : Value).ownBlock) (.slice Ao14 t108.length co14) t108) ∧ Aside0 (Kd.R k44 44 wc w.heap.size (fun k_ => some k_ ≠ ((.slice Ao14 t108.length co14) : Value).ownBlock) (.slice Ao39 t127.length co39) t127) ∧ Aside0 (wc.heap[gb117]? = some (.cells #[(.slice Ao14 t108.length co14), .int .i64 t111] 30 (0, 0))) ∧ Aside0 (wc.heap[gb132]? = some (.cells #[(.slice Ao39 t127.length co39), .int .i64 t130] 30 (0, 0))) ∧ Aside0 (Below w.heap.size w wc))
       case first =>
        have H := HC31.out
        clear HC31
        by_cases c48 : t131 = 0
        ·rw [if_pos c48] at H
         have c48b0 : (t131 == 0) = true := beq_iff_eq.mpr c48
         have c48b1 : (t131 != 0) = false := bne_eq_false_iff_eq.mpr c48
         clear c48
         (first | rw [c48b0] | (simp only [i64_w, i32_w]; rw [c48b0]) | skip)
         by_cases c49 : t134 = 0
         ·rw [if_pos c49] at H
          have c49b0 : (t134 == 0) = true := beq_iff_eq.mpr c49
          have c49b1 : (t134 != 0) = false := bne_eq_false_iff_eq.mpr c49
          clear c49
          by_cases c50 : t136 = 0
          ·rw [if_pos c50] at H
           have c50b0 : (t136 == 0) = true := beq_iff_eq.mpr c50
           have c50b1 : (t136 != 0) = false := bne_eq_false_iff_eq.mpr c50
           clear c50
           by_cases c51 : t133 = t135
           ·rw [if_pos c51] at H
            have c51b0 : (t133 == t135) = true := beq_iff_eq.mpr c51
            have c51b1 : (t133 != t135) = false := bne_eq_false_iff_eq.mpr c51
            clear c51
            by_cases c52 : t130 = t111
            ·rw [if_pos c52] at H
             have c52b0 : (t130 == t111) = true := beq_iff_eq.mpr c52
             have c52b1 : (t130 != t111) = false := bne_eq_false_iff_eq.mpr c52
             clear c52
             replace H := Option.bind_eq_some_iff.mp H
             obtain ⟨t137, A530, H⟩ := H
             replace H : ((fact_Holds.f k1 t127 t130 x7_1).bind fun t138 => (if (t137 == t138) = true then ((fact_Check.f k1 t127 t130).bind fun t139 => (if t139 = 0 then ((timeboundlaw11_awake.f k1).bind fun t140 => (timeboundlaw11_FactGoesAlong.j1 k1 t140)) else (timeboundlaw11_FactGoesAlong.j1 k1 false))) else (timeboundlaw11_FactGoesAlong.j1 k1 false))) = some r := H
             have A53 := Aside0.mk A530
             clear A530
             replace H := Option.bind_eq_some_iff.mp H
             obtain ⟨t138, A540, H⟩ := H
             replace H : (if (t137 == t138) = true then ((fact_Check.f k1 t127 t130).bind fun t139 => (if t139 = 0 then ((timeboundlaw11_awake.f k1).bind fun t140 => (timeboundlaw11_FactGoesAlong.j1 k1 t140)) else (timeboundlaw11_FactGoesAlong.j1 k1 false))) else (timeboundlaw11_FactGoesAlong.j1 k1 false)) = some r := H
             have A54 := Aside0.mk A540
             clear A540
             by_cases c55 : (t137 == t138) = true
             ·rw [if_pos c55] at H
              have c55b0 : (t137 == t138) = true := c55
              (try (have c55b1 : decide (t137 = t138) = true := by simpa using c55))
              (try (have c55b2 : (t137 == t138) = true := by simpa using c55))
              clear c55
              replace H := Option.bind_eq_some_iff.mp H
              obtain ⟨t139, A560, H⟩ := H
              replace H : (if t139 = 0 then ((timeboundlaw11_awake.f k1).bind fun t140 => (timeboundlaw11_FactGoesAlong.j1 k1 t140)) else (timeboundlaw11_FactGoesAlong.j1 k1 false)) = some r := H
              have A56 := Aside0.mk A560
              clear A560
              by_cases c57 : t139 = 0
              ·rw [if_pos c57] at H
               have c57b0 : (t139 == 0) = true := beq_iff_eq.mpr c57
               have c57b1 : (t139 != 0) = false := bne_eq_false_iff_eq.mpr c57
               clear c57
               replace H := Option.bind_eq_some_iff.mp H
               obtain ⟨t140, A580, H⟩ := H
               replace H : (timeboundlaw11_FactGoesAlong.j1 k1 t140) = some r := H
               have A58 := Aside0.mk A580
               clear A580
               have H' := Aside0.mk H
               clear H
               try go_wp2
               have n0_ := Aside0.mk (Kd.S_drew HO_6.out)
               have n1_ := Aside0.mk (Kd.R_drew HO_7.out)
               have n2_ := Aside0.mk (Kd.R_drew HO_118000.out)
               have n3_ := Aside0.mk (Kd.R_drew HO126.out)
               have n4_ := Aside0.mk (Kd.R_drew HO129.out)
               have n5_ := Aside0.mk (blk_drew BK117.out)
               have n6_ := Aside0.mk (blk_drew BK132.out)
               have n7_ := Aside0.mk (IsS56.drew HI105.out)
               have n8_ := Aside0.mk (below_drew1 HB.out)
               clear HO_6
               clear HO_7
               clear HO_118000
               clear HO126
               clear HO129
               clear BK117
               clear BK132
               clear HI105
               clear HB
               have HO_6 := n0_
               have HO_7 := n1_
               have HO_118000 := n2_
               have HO126 := n3_
               have HO129 := n4_
               have BK117 := n5_
               have BK132 := n6_
               have HI105 := n7_
               have HB := n8_
               clear n0_ n1_ n2_ n3_ n4_ n5_ n6_ n7_ n8_
               refine start_ (n := 40) (S := fun w' => w'.cell? ⟨gb132, 0, none⟩ = some (.slice Ao39 t127.length co39) ∧ w'.cell? ⟨gb132, 1, none⟩ = some (.int .i64 t130) ∧ w'.cell? ⟨gb117, 0, none⟩ = some (.slice Ao14 t108.length co14) ∧ w'.cell? ⟨gb117, 1, none⟩ = some (.int .i64 t111)) (ds := []) timeboundlaw11_FactGoesAlong.b0 (by kernel_rfl) rfl rfl ⟨(blk_cell BK132.out 0).trans rfl, (blk_cell BK132.out 1).trans rfl, (blk_cell BK117.out 0).trans rfl, (blk_cell BK117.out 1).trans rfl⟩ (fun hHeld => ?_); refine with_tabW timeboundlaw11_FactGoesAlong.tab15 timeboundlaw11_FactGoesAlong.bits15 (fun HT_ HW_ => ?_)
               generalize w47.drew = w59 at HO_6 HO_7 HO_118000 HO126 HO129 BK117 BK132 HI105 HB hHeld ⊢
               refine pY 0 (some 64) timeboundlaw11_FactGoesAlong.b1 rfl rfl HT_.out (fun _ _ _ h => h) ?_
               refine pY 1 (some 65) timeboundlaw11_FactGoesAlong.b2 rfl rfl HT_.out (fun _ _ _ h => h) ?_
               refine pY 2 (some 66) timeboundlaw11_FactGoesAlong.b3 rfl rfl HT_.out (fun _ _ _ h => h) ?_
               refine pY 3 (some 67) timeboundlaw11_FactGoesAlong.b4 rfl rfl HT_.out (fun _ _ _ h => h) ?_
               refine pY 4 (some 68) timeboundlaw11_FactGoesAlong.b5 rfl rfl HT_.out (fun _ _ _ h => h) ?_
               refine pY 5 (some 69) timeboundlaw11_FactGoesAlong.b6 rfl rfl HT_.out (fun _ _ _ h => h) ?_
               refine pY 6 (some 70) timeboundlaw11_FactGoesAlong.b7 rfl rfl HT_.out (fun _ _ _ h => h) ?_
               refine pY 7 (some 71) timeboundlaw11_FactGoesAlong.b8 rfl rfl HT_.out (fun _ _ _ h => h) ?_
               refine pY 8 (some 72) timeboundlaw11_FactGoesAlong.b9 rfl rfl HT_.out (fun _ _ _ h => h) ?_
               refine pY 9 (some 73) timeboundlaw11_FactGoesAlong.b10 rfl rfl HT_.out (fun _ _ _ h => h) ?_
               refine pY 10 (some 74) timeboundlaw11_FactGoesAlong.b11 rfl rfl HT_.out (fun _ _ _ h => h) ?_
               refine pY 11 (some 75) timeboundlaw11_FactGoesAlong.b12 rfl rfl HT_.out (fun _ _ _ h => h) ?_
               refine pY 12 (some 76) timeboundlaw11_FactGoesAlong.b13 rfl rfl HT_.out (fun _ _ _ h => h) ?_
               refine pY 13 (some 77) timeboundlaw11_FactGoesAlong.b14 rfl rfl HT_.out (fun _ _ _ h => h) ?_
               refine pY 14 (some 78) timeboundlaw11_FactGoesAlong.b15 rfl rfl HT_.out (fun _ _ _ h => h) ?_
               refine pY 15 (some 79) timeboundlaw11_FactGoesAlong.b16 rfl rfl HT_.out (fun _ _ _ h => h) ?_
               refine pY 16 (some 80) timeboundlaw11_FactGoesAlong.b17 rfl rfl HT_.out (fun _ _ _ h => h) ?_
               refine pY 18 (some 82) timeboundlaw11_FactGoesAlong.b18 rfl rfl HT_.out (fun _ _ _ h => h) ?_
               refine take_ (i := 17) (N := some 81) (v := ?_) (a' := ?_) timeboundlaw11_FactGoesAlong.b19 rfl rfl (take_ofW HT_.out HW_.out (by kernel_rfl)) (fun _ _ _ h => h) (Or.inl ⟨by rfl, ?_⟩) hHeld ?_ ?_
               rotate_left
               ·rintro w' ⟨s0, s1, s2, s3⟩
                go_simp
                with_reducible rfl
               rotate_left
               ·simp only [Act.put, List.setIfInBounds_toArray, List.set_cons_zero, List.set_cons_succ, i64_w, i32_w]
                rfl
               refine take_ (i := 19) (N := some 83) (v := ?_) (a' := ?_) timeboundlaw11_FactGoesAlong.b20 rfl rfl (take_ofW HT_.out HW_.out (by kernel_rfl)) (fun _ _ _ h => h) (Or.inl ⟨by rfl, ?_⟩) hHeld ?_ ?_
               rotate_left
               ·rintro w' ⟨s0, s1, s2, s3⟩
                go_simp
                with_reducible rfl
               rotate_left
               ·simp only [Act.put, List.setIfInBounds_toArray, List.set_cons_zero, List.set_cons_succ, i64_w, i32_w]
                rfl
               refine pY 20 (some 84) timeboundlaw11_FactGoesAlong.b21 rfl rfl HT_.out (fun _ _ _ h => h) ?_
               refine pY 21 (some 85) timeboundlaw11_FactGoesAlong.b22 rfl rfl HT_.out (fun _ _ _ h => h) ?_
               refine pY 22 (some 86) timeboundlaw11_FactGoesAlong.b23 rfl rfl HT_.out (fun _ _ _ h => h) ?_
               refine pY 24 (some 88) timeboundlaw11_FactGoesAlong.b24 rfl rfl HT_.out (fun _ _ _ h => h) ?_
               refine pY 27 (some 91) timeboundlaw11_FactGoesAlong.b25 rfl rfl HT_.out (fun _ _ _ h => h) ?_
               refine take_ (i := 23) (N := some 87) (v := ?_) (a' := ?_) timeboundlaw11_FactGoesAlong.b26 rfl rfl (take_ofW HT_.out HW_.out (by kernel_rfl)) (fun _ _ _ h => h) (Or.inl ⟨by rfl, ?_⟩) hHeld ?_ ?_
               rotate_left
               ·rintro w' ⟨s0, s1, s2, s3⟩
                go_simp
                with_reducible rfl
               rotate_left
               ·simp only [Act.put, List.setIfInBounds_toArray, List.set_cons_zero, List.set_cons_succ, i64_w, i32_w]
                rfl
               refine take_ (i := 26) (N := some 90) (v := ?_) (a' := ?_) timeboundlaw11_FactGoesAlong.b27 rfl rfl (take_ofW HT_.out HW_.out (by kernel_rfl)) (fun _ _ _ h => h) (Or.inl ⟨by rfl, ?_⟩) hHeld ?_ ?_
               rotate_left
               ·rintro w' ⟨s0, s1, s2, s3⟩
                go_simp
                with_reducible rfl
               rotate_left
               ·simp only [Act.put, List.setIfInBounds_toArray, List.set_cons_zero, List.set_cons_succ, i64_w, i32_w]
                rfl
               refine one_ (i := 25) (N := some 89) timeboundlaw11_FactGoesAlong.b28 rfl rfl (one_of HT_.out (by kernel_rfl)) (by decide) (fun K hK => ?_)
               refine goes_ Try.func17 (by kernel_rfl) rfl #[.agg #[.slice Ao14 t108.length co14, .int .i64 t111], .slice Ao44 t124.length co44] (by rfl) rfl rfl aM ?_
               with_reducible refine (fact_Holds.calls k1 _ _ t108 t111 _ _ t124 t137 _ ?side1 ?side2 ?side3 ?side4 A53.out).mono ?_
               (case side1 => exact cK (Kd.R_reads' HO_118000.out).2.2)
               (case side2 => exact (Kd.R_reads' HO_118000.out).2.1)
               (case side3 => exact cK (Kd.R_reads' HO126.out).2.2)
               (case side4 => exact (Kd.R_reads' HO126.out).2.1)
               rintro e w60 ⟨rfl, hb⟩
               refine ⟨_, rfl, ?_⟩
               have n0_ := Aside0.mk (Kd.S_below (sK HO_6.out) hb)
               have n1_ := Aside0.mk (Kd.R_below (rK HO_7.out) hb)
               have n2_ := Aside0.mk (Kd.R_below (rK HO_118000.out) hb)
               have n3_ := Aside0.mk (Kd.R_below (rK HO126.out) hb)
               have n4_ := Aside0.mk (Kd.R_below (rK HO129.out) hb)
               have n5_ := Aside0.mk (blk_below (g := gb117) (o := .cells #[.slice Ao14 t108.length co14, .int .i64 t111] 30 (0, 0)) (bK BK117.out) hb)
               have n6_ := Aside0.mk (IsS56.below (IsS56.k2 HI105.out NB105_117.out NB105_132.out) hb)
               have n7_ := Aside0.mk (blk_below (g := gb132) (o := .cells #[.slice Ao39 t127.length co39, .int .i64 t130] 30 (0, 0)) (bK BK132.out) hb)
               have n8_ := Aside0.mk (below_step (hB3 HB.out (IsS56.ge HI105.out) GE117.out GE132.out) hb)
               clear HO_6
               clear HO_7
               clear HO_118000
               clear HO126
               clear HO129
               clear BK117
               clear HI105
               clear BK132
               clear HB
               have HO_6 := n0_
               have HO_7 := n1_
               have HO_118000 := n2_
               have HO126 := n3_
               have HO129 := n4_
               have BK117 := n5_
               have HI105 := n6_
               have BK132 := n7_
               have HB := n8_
               clear n0_ n1_ n2_ n3_ n4_ n5_ n6_ n7_ n8_
               (try clear hb)
               (try clear hb2)
               (try clear hk)
               (try clear hi)
               refine hK.out _ _ ⟨(blk_cell BK132.out 0).trans rfl, (blk_cell BK132.out 1).trans rfl, (blk_cell BK117.out 0).trans rfl, (blk_cell BK117.out 1).trans rfl⟩ (fun hHeld => ?_)
               clear hK K
               refine norm_ (a' := ?_) ?_ ?_
               rotate_left
               ·show Act.put _ (some 89) _ = _
                simp only [Act.put, List.setIfInBounds_toArray, List.set_cons_zero, List.set_cons_succ, i64_w, i32_w]
                rfl
               refine one_ (i := 28) (N := some 92) timeboundlaw11_FactGoesAlong.b29 rfl rfl (one_of HT_.out (by kernel_rfl)) (by decide) (fun K hK => ?_)
               refine goes_ Try.func17 (by kernel_rfl) rfl #[.agg #[.slice Ao39 t127.length co39, .int .i64 t130], .slice Ao32 x7_1.length co32] (by rfl) rfl rfl aM ?_
               with_reducible refine (fact_Holds.calls k1 _ _ t127 t130 _ _ x7_1 t138 _ ?side1 ?side2 ?side3 ?side4 A54.out).mono ?_
               (case side1 => exact cK (Kd.R_reads' HO129.out).2.2)
               (case side2 => exact (Kd.R_reads' HO129.out).2.1)
               (case side3 => exact cK (Kd.R_reads' HO_7.out).2.2)
               (case side4 => exact (Kd.R_reads' HO_7.out).2.1)
               rintro e w61 ⟨rfl, hb⟩
               refine ⟨_, rfl, ?_⟩
               have n0_ := Aside0.mk (Kd.S_below (sK HO_6.out) hb)
               have n1_ := Aside0.mk (Kd.R_below (rK HO_7.out) hb)
               have n2_ := Aside0.mk (Kd.R_below (rK HO_118000.out) hb)
               have n3_ := Aside0.mk (Kd.R_below (rK HO126.out) hb)
               have n4_ := Aside0.mk (Kd.R_below (rK HO129.out) hb)
               have n5_ := Aside0.mk (blk_below (g := gb117) (o := .cells #[.slice Ao14 t108.length co14, .int .i64 t111] 30 (0, 0)) (bK BK117.out) hb)
               have n6_ := Aside0.mk (IsS56.below (IsS56.k2 HI105.out NB105_117.out NB105_132.out) hb)
               have n7_ := Aside0.mk (blk_below (g := gb132) (o := .cells #[.slice Ao39 t127.length co39, .int .i64 t130] 30 (0, 0)) (bK BK132.out) hb)
               have n8_ := Aside0.mk (below_step (hB3 HB.out (IsS56.ge HI105.out) GE117.out GE132.out) hb)
               clear HO_6
               clear HO_7
               clear HO_118000
               clear HO126
               clear HO129
               clear BK117
               clear HI105
               clear BK132
               clear HB
               have HO_6 := n0_
               have HO_7 := n1_
               have HO_118000 := n2_
               have HO126 := n3_
               have HO129 := n4_
               have BK117 := n5_
               have HI105 := n6_
               have BK132 := n7_
               have HB := n8_
               clear n0_ n1_ n2_ n3_ n4_ n5_ n6_ n7_ n8_
               (try clear hb)
               (try clear hb2)
               (try clear hk)
               (try clear hi)
               refine hK.out _ _ ⟨(blk_cell BK132.out 0).trans rfl, (blk_cell BK132.out 1).trans rfl, (blk_cell BK117.out 0).trans rfl, (blk_cell BK117.out 1).trans rfl⟩ (fun hHeld => ?_)
               clear hK K
               refine norm_ (a' := ?_) ?_ ?_
               rotate_left
               ·show Act.put _ (some 92) _ = _
                simp only [Act.put, List.setIfInBounds_toArray, List.set_cons_zero, List.set_cons_succ, i64_w, i32_w]
                rfl
               refine pY 29 (some 93) timeboundlaw11_FactGoesAlong.b30 rfl rfl HT_.out (fun _ _ _ h => h) ?_
               refine pY 30 (some 94) timeboundlaw11_FactGoesAlong.b31 rfl rfl HT_.out (fun _ _ _ h => h) ?_
               refine pY 31 (some 95) timeboundlaw11_FactGoesAlong.b32 rfl rfl HT_.out (fun _ _ _ h => h) ?_
               refine take_ (i := 32) (N := some 96) (v := ?_) (a' := ?_) timeboundlaw11_FactGoesAlong.b33 rfl rfl (take_ofW HT_.out HW_.out (by kernel_rfl)) (fun _ _ _ h => h) (Or.inl ⟨by rfl, ?_⟩) hHeld ?_ ?_
               rotate_left
               ·rintro w' ⟨s0, s1, s2, s3⟩
                go_simp
                with_reducible rfl
               rotate_left
               ·simp only [Act.put, List.setIfInBounds_toArray, List.set_cons_zero, List.set_cons_succ, i64_w, i32_w]
                rfl
               refine one_ (i := 33) (N := some 97) timeboundlaw11_FactGoesAlong.b34 rfl rfl (one_of HT_.out (by kernel_rfl)) (by decide) (fun K hK => ?_)
               refine goes_ Try.func18 (by kernel_rfl) rfl #[.agg #[.slice Ao39 t127.length co39, .int .i64 t130]] (by rfl) rfl rfl aM ?_
               with_reducible refine (fact_Check.calls k1 _ _ t127 t130 t139 _ ?side1 ?side2 A56.out).mono ?_
               (case side1 => exact cK (Kd.R_reads' HO129.out).2.2)
               (case side2 => exact (Kd.R_reads' HO129.out).2.1)
               rintro e w62 ⟨rfl, hb⟩
               refine ⟨_, rfl, ?_⟩
               have n0_ := Aside0.mk (Kd.S_below (sK HO_6.out) hb)
               have n1_ := Aside0.mk (Kd.R_below (rK HO_7.out) hb)
               have n2_ := Aside0.mk (Kd.R_below (rK HO_118000.out) hb)
               have n3_ := Aside0.mk (Kd.R_below (rK HO126.out) hb)
               have n4_ := Aside0.mk (Kd.R_below (rK HO129.out) hb)
               have n5_ := Aside0.mk (blk_below (g := gb117) (o := .cells #[.slice Ao14 t108.length co14, .int .i64 t111] 30 (0, 0)) (bK BK117.out) hb)
               have n6_ := Aside0.mk (IsS56.below (IsS56.k2 HI105.out NB105_117.out NB105_132.out) hb)
               have n7_ := Aside0.mk (blk_below (g := gb132) (o := .cells #[.slice Ao39 t127.length co39, .int .i64 t130] 30 (0, 0)) (bK BK132.out) hb)
               have n8_ := Aside0.mk (below_step (hB3 HB.out (IsS56.ge HI105.out) GE117.out GE132.out) hb)
               clear HO_6
               clear HO_7
               clear HO_118000
               clear HO126
               clear HO129
               clear BK117
               clear HI105
               clear BK132
               clear HB
               have HO_6 := n0_
               have HO_7 := n1_
               have HO_118000 := n2_
               have HO126 := n3_
               have HO129 := n4_
               have BK117 := n5_
               have HI105 := n6_
               have BK132 := n7_
               have HB := n8_
               clear n0_ n1_ n2_ n3_ n4_ n5_ n6_ n7_ n8_
               (try clear hb)
               (try clear hb2)
               (try clear hk)
               (try clear hi)
               refine hK.out _ _ ⟨(blk_cell BK132.out 0).trans rfl, (blk_cell BK132.out 1).trans rfl, (blk_cell BK117.out 0).trans rfl, (blk_cell BK117.out 1).trans rfl⟩ (fun hHeld => ?_)
               clear hK K
               refine norm_ (a' := ?_) ?_ ?_
               rotate_left
               ·show Act.put _ (some 97) _ = _
                simp only [Act.put, List.setIfInBounds_toArray, List.set_cons_zero, List.set_cons_succ, i64_w, i32_w]
                rfl
               refine pY 34 (some 98) timeboundlaw11_FactGoesAlong.b35 rfl rfl HT_.out (fun _ _ _ h => h) ?_
               refine pY 35 (some 99) timeboundlaw11_FactGoesAlong.b36 rfl rfl HT_.out (fun _ _ _ h => h) ?_
               refine pY 36 (some 100) timeboundlaw11_FactGoesAlong.b37 rfl rfl HT_.out (fun _ _ _ h => h) ?_
               refine one_ (i := 37) (N := some 101) timeboundlaw11_FactGoesAlong.b38 rfl rfl (one_of HT_.out (by kernel_rfl)) (by decide) (fun K hK => ?_)
               refine goes_ Try.func9 (by kernel_rfl) rfl #[] (by rfl) rfl rfl aM ?_
               with_reducible refine (timeboundlaw11_awake.calls k1  t140 _ A58.out).mono ?_
               rintro e w63 ⟨rfl, hb⟩
               refine ⟨_, rfl, ?_⟩
               have n0_ := Aside0.mk (Kd.S_below (sK HO_6.out) hb)
               have n1_ := Aside0.mk (Kd.R_below (rK HO_7.out) hb)
               have n2_ := Aside0.mk (Kd.R_below (rK HO_118000.out) hb)
               have n3_ := Aside0.mk (Kd.R_below (rK HO126.out) hb)
               have n4_ := Aside0.mk (Kd.R_below (rK HO129.out) hb)
               have n5_ := Aside0.mk (blk_below (g := gb117) (o := .cells #[.slice Ao14 t108.length co14, .int .i64 t111] 30 (0, 0)) (bK BK117.out) hb)
               have n6_ := Aside0.mk (IsS56.below (IsS56.k2 HI105.out NB105_117.out NB105_132.out) hb)
               have n7_ := Aside0.mk (blk_below (g := gb132) (o := .cells #[.slice Ao39 t127.length co39, .int .i64 t130] 30 (0, 0)) (bK BK132.out) hb)
               have n8_ := Aside0.mk (below_step (hB3 HB.out (IsS56.ge HI105.out) GE117.out GE132.out) hb)
               clear HO_6
               clear HO_7
               clear HO_118000
               clear HO126
               clear HO129
               clear BK117
               clear HI105
               clear BK132
               clear HB
               have HO_6 := n0_
               have HO_7 := n1_
               have HO_118000 := n2_
               have HO126 := n3_
               have HO129 := n4_
               have BK117 := n5_
               have HI105 := n6_
               have BK132 := n7_
               have HB := n8_
               clear n0_ n1_ n2_ n3_ n4_ n5_ n6_ n7_ n8_
               (try clear hb)
               (try clear hb2)
               (try clear hk)
               (try clear hi)
               refine hK.out _ _ ⟨(blk_cell BK132.out 0).trans rfl, (blk_cell BK132.out 1).trans rfl, (blk_cell BK117.out 0).trans rfl, (blk_cell BK117.out 1).trans rfl⟩ (fun hHeld => ?_)
               clear hK K
               refine norm_ (a' := ?_) ?_ ?_
               rotate_left
               ·show Act.put _ (some 101) _ = _
                simp only [Act.put, List.setIfInBounds_toArray, List.set_cons_zero, List.set_cons_succ, i64_w, i32_w]
                rfl
               refine pY 38 (some 102) timeboundlaw11_FactGoesAlong.b39 rfl rfl HT_.out (fun _ _ _ h => h) ?_
               refine pY 39 (some 2) timeboundlaw11_FactGoesAlong.b40 rfl rfl HT_.out (fun _ _ _ h => h) ?_
               refine done_ (done_of HT_.out (by kernel_rfl)) ?_
               try go_wp2
               go_meet
               case rel => exact ⟨_, (t140), rS, H', ⟨by have := HK1.out; first | omega | exact Nat.le_refl _⟩, ⟨by (with_reducible repeat (first | apply Kd.R_alloc | apply Kd.R_drewN | apply Kd.R_drew)); exact Kd.R_mono HO_118000.out (fun _ hk => hk.2)⟩, ⟨by (with_reducible repeat (first | apply Kd.R_alloc | apply Kd.R_drewN | apply Kd.R_drew)); exact Kd.R_mono HO129.out (fun _ hk => hk.2)⟩, ⟨bK BK117.out⟩, ⟨bK BK132.out⟩, ⟨hB3 HB.out (IsS56.ge HI105.out) GE117.out GE132.out⟩⟩
              ·rw [if_neg c57] at H
               have c57b0 : (t139 == 0) = false := beq_eq_false_iff_ne.mpr c57
               have c57b1 : (t139 != 0) = true := bne_iff_ne.mpr c57
               have H' := Aside0.mk H
               clear H
               try go_wp2
               have n0_ := Aside0.mk (Kd.S_drew HO_6.out)
               have n1_ := Aside0.mk (Kd.R_drew HO_7.out)
               have n2_ := Aside0.mk (Kd.R_drew HO_118000.out)
               have n3_ := Aside0.mk (Kd.R_drew HO126.out)
               have n4_ := Aside0.mk (Kd.R_drew HO129.out)
               have n5_ := Aside0.mk (blk_drew BK117.out)
               have n6_ := Aside0.mk (blk_drew BK132.out)
               have n7_ := Aside0.mk (IsS56.drew HI105.out)
               have n8_ := Aside0.mk (below_drew1 HB.out)
               clear HO_6
               clear HO_7
               clear HO_118000
               clear HO126
               clear HO129
               clear BK117
               clear BK132
               clear HI105
               clear HB
               have HO_6 := n0_
               have HO_7 := n1_
               have HO_118000 := n2_
               have HO126 := n3_
               have HO129 := n4_
               have BK117 := n5_
               have BK132 := n6_
               have HI105 := n7_
               have HB := n8_
               clear n0_ n1_ n2_ n3_ n4_ n5_ n6_ n7_ n8_
               refine start_ (n := 40) (S := fun w' => w'.cell? ⟨gb132, 0, none⟩ = some (.slice Ao39 t127.length co39) ∧ w'.cell? ⟨gb132, 1, none⟩ = some (.int .i64 t130) ∧ w'.cell? ⟨gb117, 0, none⟩ = some (.slice Ao14 t108.length co14) ∧ w'.cell? ⟨gb117, 1, none⟩ = some (.int .i64 t111)) (ds := []) timeboundlaw11_FactGoesAlong.b0 (by kernel_rfl) rfl rfl ⟨(blk_cell BK132.out 0).trans rfl, (blk_cell BK132.out 1).trans rfl, (blk_cell BK117.out 0).trans rfl, (blk_cell BK117.out 1).trans rfl⟩ (fun hHeld => ?_); refine with_tabW timeboundlaw11_FactGoesAlong.tab15 timeboundlaw11_FactGoesAlong.bits15 (fun HT_ HW_ => ?_)
               generalize w47.drew = w64 at HO_6 HO_7 HO_118000 HO126 HO129 BK117 BK132 HI105 HB hHeld ⊢
               refine pY 0 (some 64) timeboundlaw11_FactGoesAlong.b1 rfl rfl HT_.out (fun _ _ _ h => h) ?_
               refine pY 1 (some 65) timeboundlaw11_FactGoesAlong.b2 rfl rfl HT_.out (fun _ _ _ h => h) ?_
               refine pY 2 (some 66) timeboundlaw11_FactGoesAlong.b3 rfl rfl HT_.out (fun _ _ _ h => h) ?_
               refine pY 3 (some 67) timeboundlaw11_FactGoesAlong.b4 rfl rfl HT_.out (fun _ _ _ h => h) ?_
               refine pY 4 (some 68) timeboundlaw11_FactGoesAlong.b5 rfl rfl HT_.out (fun _ _ _ h => h) ?_
               refine pY 5 (some 69) timeboundlaw11_FactGoesAlong.b6 rfl rfl HT_.out (fun _ _ _ h => h) ?_
               refine pY 6 (some 70) timeboundlaw11_FactGoesAlong.b7 rfl rfl HT_.out (fun _ _ _ h => h) ?_
               refine pY 7 (some 71) timeboundlaw11_FactGoesAlong.b8 rfl rfl HT_.out (fun _ _ _ h => h) ?_
               refine pY 8 (some 72) timeboundlaw11_FactGoesAlong.b9 rfl rfl HT_.out (fun _ _ _ h => h) ?_
               refine pY 9 (some 73) timeboundlaw11_FactGoesAlong.b10 rfl rfl HT_.out (fun _ _ _ h => h) ?_
               refine pY 10 (some 74) timeboundlaw11_FactGoesAlong.b11 rfl rfl HT_.out (fun _ _ _ h => h) ?_
               refine pY 11 (some 75) timeboundlaw11_FactGoesAlong.b12 rfl rfl HT_.out (fun _ _ _ h => h) ?_
               refine pY 12 (some 76) timeboundlaw11_FactGoesAlong.b13 rfl rfl HT_.out (fun _ _ _ h => h) ?_
               refine pY 13 (some 77) timeboundlaw11_FactGoesAlong.b14 rfl rfl HT_.out (fun _ _ _ h => h) ?_
               refine pY 14 (some 78) timeboundlaw11_FactGoesAlong.b15 rfl rfl HT_.out (fun _ _ _ h => h) ?_
               refine pY 15 (some 79) timeboundlaw11_FactGoesAlong.b16 rfl rfl HT_.out (fun _ _ _ h => h) ?_
               refine pY 16 (some 80) timeboundlaw11_FactGoesAlong.b17 rfl rfl HT_.out (fun _ _ _ h => h) ?_
               refine pY 18 (some 82) timeboundlaw11_FactGoesAlong.b18 rfl rfl HT_.out (fun _ _ _ h => h) ?_
               refine take_ (i := 17) (N := some 81) (v := ?_) (a' := ?_) timeboundlaw11_FactGoesAlong.b19 rfl rfl (take_ofW HT_.out HW_.out (by kernel_rfl)) (fun _ _ _ h => h) (Or.inl ⟨by rfl, ?_⟩) hHeld ?_ ?_
               rotate_left
               ·rintro w' ⟨s0, s1, s2, s3⟩
                go_simp
                with_reducible rfl
               rotate_left
               ·simp only [Act.put, List.setIfInBounds_toArray, List.set_cons_zero, List.set_cons_succ, i64_w, i32_w]
                rfl
               refine take_ (i := 19) (N := some 83) (v := ?_) (a' := ?_) timeboundlaw11_FactGoesAlong.b20 rfl rfl (take_ofW HT_.out HW_.out (by kernel_rfl)) (fun _ _ _ h => h) (Or.inl ⟨by rfl, ?_⟩) hHeld ?_ ?_
               rotate_left
               ·rintro w' ⟨s0, s1, s2, s3⟩
                go_simp
                with_reducible rfl
               rotate_left
               ·simp only [Act.put, List.setIfInBounds_toArray, List.set_cons_zero, List.set_cons_succ, i64_w, i32_w]
                rfl
               refine pY 20 (some 84) timeboundlaw11_FactGoesAlong.b21 rfl rfl HT_.out (fun _ _ _ h => h) ?_
               refine pY 21 (some 85) timeboundlaw11_FactGoesAlong.b22 rfl rfl HT_.out (fun _ _ _ h => h) ?_
               refine pY 22 (some 86) timeboundlaw11_FactGoesAlong.b23 rfl rfl HT_.out (fun _ _ _ h => h) ?_
               refine pY 24 (some 88) timeboundlaw11_FactGoesAlong.b24 rfl rfl HT_.out (fun _ _ _ h => h) ?_
               refine pY 27 (some 91) timeboundlaw11_FactGoesAlong.b25 rfl rfl HT_.out (fun _ _ _ h => h) ?_
               refine take_ (i := 23) (N := some 87) (v := ?_) (a' := ?_) timeboundlaw11_FactGoesAlong.b26 rfl rfl (take_ofW HT_.out HW_.out (by kernel_rfl)) (fun _ _ _ h => h) (Or.inl ⟨by rfl, ?_⟩) hHeld ?_ ?_
               rotate_left
               ·rintro w' ⟨s0, s1, s2, s3⟩
                go_simp
                with_reducible rfl
               rotate_left
               ·simp only [Act.put, List.setIfInBounds_toArray, List.set_cons_zero, List.set_cons_succ, i64_w, i32_w]
                rfl
               refine take_ (i := 26) (N := some 90) (v := ?_) (a' := ?_) timeboundlaw11_FactGoesAlong.b27 rfl rfl (take_ofW HT_.out HW_.out (by kernel_rfl)) (fun _ _ _ h => h) (Or.inl ⟨by rfl, ?_⟩) hHeld ?_ ?_
               rotate_left
               ·rintro w' ⟨s0, s1, s2, s3⟩
                go_simp
                with_reducible rfl
               rotate_left
               ·simp only [Act.put, List.setIfInBounds_toArray, List.set_cons_zero, List.set_cons_succ, i64_w, i32_w]
                rfl
               refine one_ (i := 25) (N := some 89) timeboundlaw11_FactGoesAlong.b28 rfl rfl (one_of HT_.out (by kernel_rfl)) (by decide) (fun K hK => ?_)
               refine goes_ Try.func17 (by kernel_rfl) rfl #[.agg #[.slice Ao14 t108.length co14, .int .i64 t111], .slice Ao44 t124.length co44] (by rfl) rfl rfl aM ?_
               with_reducible refine (fact_Holds.calls k1 _ _ t108 t111 _ _ t124 t137 _ ?side1 ?side2 ?side3 ?side4 A53.out).mono ?_
               (case side1 => exact cK (Kd.R_reads' HO_118000.out).2.2)
               (case side2 => exact (Kd.R_reads' HO_118000.out).2.1)
               (case side3 => exact cK (Kd.R_reads' HO126.out).2.2)
               (case side4 => exact (Kd.R_reads' HO126.out).2.1)
               rintro e w65 ⟨rfl, hb⟩
               refine ⟨_, rfl, ?_⟩
               have n0_ := Aside0.mk (Kd.S_below (sK HO_6.out) hb)
               have n1_ := Aside0.mk (Kd.R_below (rK HO_7.out) hb)
               have n2_ := Aside0.mk (Kd.R_below (rK HO_118000.out) hb)
               have n3_ := Aside0.mk (Kd.R_below (rK HO126.out) hb)
               have n4_ := Aside0.mk (Kd.R_below (rK HO129.out) hb)
               have n5_ := Aside0.mk (blk_below (g := gb117) (o := .cells #[.slice Ao14 t108.length co14, .int .i64 t111] 30 (0, 0)) (bK BK117.out) hb)
               have n6_ := Aside0.mk (IsS56.below (IsS56.k2 HI105.out NB105_117.out NB105_132.out) hb)
               have n7_ := Aside0.mk (blk_below (g := gb132) (o := .cells #[.slice Ao39 t127.length co39, .int .i64 t130] 30 (0, 0)) (bK BK132.out) hb)
               have n8_ := Aside0.mk (below_step (hB3 HB.out (IsS56.ge HI105.out) GE117.out GE132.out) hb)
               clear HO_6
               clear HO_7
               clear HO_118000
               clear HO126
               clear HO129
               clear BK117
               clear HI105
               clear BK132
               clear HB
               have HO_6 := n0_
               have HO_7 := n1_
               have HO_118000 := n2_
               have HO126 := n3_
               have HO129 := n4_
               have BK117 := n5_
               have HI105 := n6_
               have BK132 := n7_
               have HB := n8_
               clear n0_ n1_ n2_ n3_ n4_ n5_ n6_ n7_ n8_
               (try clear hb)
               (try clear hb2)
               (try clear hk)
               (try clear hi)
               refine hK.out _ _ ⟨(blk_cell BK132.out 0).trans rfl, (blk_cell BK132.out 1).trans rfl, (blk_cell BK117.out 0).trans rfl, (blk_cell BK117.out 1).trans rfl⟩ (fun hHeld => ?_)
               clear hK K
               refine norm_ (a' := ?_) ?_ ?_
               rotate_left
               ·show Act.put _ (some 89) _ = _
                simp only [Act.put, List.setIfInBounds_toArray, List.set_cons_zero, List.set_cons_succ, i64_w, i32_w]
                rfl
               refine one_ (i := 28) (N := some 92) timeboundlaw11_FactGoesAlong.b29 rfl rfl (one_of HT_.out (by kernel_rfl)) (by decide) (fun K hK => ?_)
               refine goes_ Try.func17 (by kernel_rfl) rfl #[.agg #[.slice Ao39 t127.length co39, .int .i64 t130], .slice Ao32 x7_1.length co32] (by rfl) rfl rfl aM ?_
               with_reducible refine (fact_Holds.calls k1 _ _ t127 t130 _ _ x7_1 t138 _ ?side1 ?side2 ?side3 ?side4 A54.out).mono ?_
               (case side1 => exact cK (Kd.R_reads' HO129.out).2.2)
               (case side2 => exact (Kd.R_reads' HO129.out).2.1)
               (case side3 => exact cK (Kd.R_reads' HO_7.out).2.2)
               (case side4 => exact (Kd.R_reads' HO_7.out).2.1)
               rintro e w66 ⟨rfl, hb⟩
               refine ⟨_, rfl, ?_⟩
               have n0_ := Aside0.mk (Kd.S_below (sK HO_6.out) hb)
               have n1_ := Aside0.mk (Kd.R_below (rK HO_7.out) hb)
               have n2_ := Aside0.mk (Kd.R_below (rK HO_118000.out) hb)
               have n3_ := Aside0.mk (Kd.R_below (rK HO126.out) hb)
               have n4_ := Aside0.mk (Kd.R_below (rK HO129.out) hb)
               have n5_ := Aside0.mk (blk_below (g := gb117) (o := .cells #[.slice Ao14 t108.length co14, .int .i64 t111] 30 (0, 0)) (bK BK117.out) hb)
               have n6_ := Aside0.mk (IsS56.below (IsS56.k2 HI105.out NB105_117.out NB105_132.out) hb)
               have n7_ := Aside0.mk (blk_below (g := gb132) (o := .cells #[.slice Ao39 t127.length co39, .int .i64 t130] 30 (0, 0)) (bK BK132.out) hb)
               have n8_ := Aside0.mk (below_step (hB3 HB.out (IsS56.ge HI105.out) GE117.out GE132.out) hb)
               clear HO_6
               clear HO_7
               clear HO_118000
               clear HO126
               clear HO129
               clear BK117
               clear HI105
               clear BK132
               clear HB
               have HO_6 := n0_
               have HO_7 := n1_
               have HO_118000 := n2_
               have HO126 := n3_
               have HO129 := n4_
               have BK117 := n5_
               have HI105 := n6_
               have BK132 := n7_
               have HB := n8_
               clear n0_ n1_ n2_ n3_ n4_ n5_ n6_ n7_ n8_
               (try clear hb)
               (try clear hb2)
               (try clear hk)
               (try clear hi)
               refine hK.out _ _ ⟨(blk_cell BK132.out 0).trans rfl, (blk_cell BK132.out 1).trans rfl, (blk_cell BK117.out 0).trans rfl, (blk_cell BK117.out 1).trans rfl⟩ (fun hHeld => ?_)
               clear hK K
               refine norm_ (a' := ?_) ?_ ?_
               rotate_left
               ·show Act.put _ (some 92) _ = _
                simp only [Act.put, List.setIfInBounds_toArray, List.set_cons_zero, List.set_cons_succ, i64_w, i32_w]
                rfl
               refine pY 29 (some 93) timeboundlaw11_FactGoesAlong.b30 rfl rfl HT_.out (fun _ _ _ h => h) ?_
               refine pY 30 (some 94) timeboundlaw11_FactGoesAlong.b31 rfl rfl HT_.out (fun _ _ _ h => h) ?_
               refine pY 31 (some 95) timeboundlaw11_FactGoesAlong.b32 rfl rfl HT_.out (fun _ _ _ h => h) ?_
               refine take_ (i := 32) (N := some 96) (v := ?_) (a' := ?_) timeboundlaw11_FactGoesAlong.b33 rfl rfl (take_ofW HT_.out HW_.out (by kernel_rfl)) (fun _ _ _ h => h) (Or.inl ⟨by rfl, ?_⟩) hHeld ?_ ?_
               rotate_left
               ·rintro w' ⟨s0, s1, s2, s3⟩
                go_simp
                with_reducible rfl
               rotate_left
               ·simp only [Act.put, List.setIfInBounds_toArray, List.set_cons_zero, List.set_cons_succ, i64_w, i32_w]
                rfl
               refine one_ (i := 33) (N := some 97) timeboundlaw11_FactGoesAlong.b34 rfl rfl (one_of HT_.out (by kernel_rfl)) (by decide) (fun K hK => ?_)
               refine goes_ Try.func18 (by kernel_rfl) rfl #[.agg #[.slice Ao39 t127.length co39, .int .i64 t130]] (by rfl) rfl rfl aM ?_
               with_reducible refine (fact_Check.calls k1 _ _ t127 t130 t139 _ ?side1 ?side2 A56.out).mono ?_
               (case side1 => exact cK (Kd.R_reads' HO129.out).2.2)
               (case side2 => exact (Kd.R_reads' HO129.out).2.1)
               rintro e w67 ⟨rfl, hb⟩
               refine ⟨_, rfl, ?_⟩
               have n0_ := Aside0.mk (Kd.S_below (sK HO_6.out) hb)
               have n1_ := Aside0.mk (Kd.R_below (rK HO_7.out) hb)
               have n2_ := Aside0.mk (Kd.R_below (rK HO_118000.out) hb)
               have n3_ := Aside0.mk (Kd.R_below (rK HO126.out) hb)
               have n4_ := Aside0.mk (Kd.R_below (rK HO129.out) hb)
               have n5_ := Aside0.mk (blk_below (g := gb117) (o := .cells #[.slice Ao14 t108.length co14, .int .i64 t111] 30 (0, 0)) (bK BK117.out) hb)
               have n6_ := Aside0.mk (IsS56.below (IsS56.k2 HI105.out NB105_117.out NB105_132.out) hb)
               have n7_ := Aside0.mk (blk_below (g := gb132) (o := .cells #[.slice Ao39 t127.length co39, .int .i64 t130] 30 (0, 0)) (bK BK132.out) hb)
               have n8_ := Aside0.mk (below_step (hB3 HB.out (IsS56.ge HI105.out) GE117.out GE132.out) hb)
               clear HO_6
               clear HO_7
               clear HO_118000
               clear HO126
               clear HO129
               clear BK117
               clear HI105
               clear BK132
               clear HB
               have HO_6 := n0_
               have HO_7 := n1_
               have HO_118000 := n2_
               have HO126 := n3_
               have HO129 := n4_
               have BK117 := n5_
               have HI105 := n6_
               have BK132 := n7_
               have HB := n8_
               clear n0_ n1_ n2_ n3_ n4_ n5_ n6_ n7_ n8_
               (try clear hb)
               (try clear hb2)
               (try clear hk)
               (try clear hi)
               refine hK.out _ _ ⟨(blk_cell BK132.out 0).trans rfl, (blk_cell BK132.out 1).trans rfl, (blk_cell BK117.out 0).trans rfl, (blk_cell BK117.out 1).trans rfl⟩ (fun hHeld => ?_)
               clear hK K
               refine norm_ (a' := ?_) ?_ ?_
               rotate_left
               ·show Act.put _ (some 97) _ = _
                simp only [Act.put, List.setIfInBounds_toArray, List.set_cons_zero, List.set_cons_succ, i64_w, i32_w]
                rfl
               refine pY 34 (some 98) timeboundlaw11_FactGoesAlong.b35 rfl rfl HT_.out (fun _ _ _ h => h) ?_
               refine pY 35 (some 99) timeboundlaw11_FactGoesAlong.b36 rfl rfl HT_.out (fun _ _ _ h => h) ?_
               refine pY 36 (some 100) timeboundlaw11_FactGoesAlong.b37 rfl rfl HT_.out (fun _ _ _ h => h) ?_
               refine pN 37 (some 101) timeboundlaw11_FactGoesAlong.b38 rfl rfl HT_.out (fun _ _ _ h => h) ?_
               refine pY 38 (some 102) timeboundlaw11_FactGoesAlong.b39 rfl rfl HT_.out (fun _ _ _ h => h) ?_
               refine pY 39 (some 2) timeboundlaw11_FactGoesAlong.b40 rfl rfl HT_.out (fun _ _ _ h => h) ?_
               refine done_ (done_of HT_.out (by kernel_rfl)) ?_
               try go_wp2
               go_meet
               case rel => exact ⟨_, (false), rS, H', ⟨by have := HK1.out; first | omega | exact Nat.le_refl _⟩, ⟨by (with_reducible repeat (first | apply Kd.R_alloc | apply Kd.R_drewN | apply Kd.R_drew)); exact Kd.R_mono HO_118000.out (fun _ hk => hk.2)⟩, ⟨by (with_reducible repeat (first | apply Kd.R_alloc | apply Kd.R_drewN | apply Kd.R_drew)); exact Kd.R_mono HO129.out (fun _ hk => hk.2)⟩, ⟨bK BK117.out⟩, ⟨bK BK132.out⟩, ⟨hB3 HB.out (IsS56.ge HI105.out) GE117.out GE132.out⟩⟩
             ·rw [if_neg c55] at H
              have c55b0 : (t137 == t138) = false := by simpa using c55
              (try (have c55b1 : decide (t137 = t138) = false := by simpa using c55))
              (try (have c55b2 : (t137 == t138) = false := by simpa using c55))
              (try (have c55b3 : ¬ (t137 = t138) := by simpa using c55))
              clear c55
              have H' := Aside0.mk H
              clear H
              try go_wp2
              have n0_ := Aside0.mk (Kd.S_drew HO_6.out)
              have n1_ := Aside0.mk (Kd.R_drew HO_7.out)
              have n2_ := Aside0.mk (Kd.R_drew HO_118000.out)
              have n3_ := Aside0.mk (Kd.R_drew HO126.out)
              have n4_ := Aside0.mk (Kd.R_drew HO129.out)
              have n5_ := Aside0.mk (blk_drew BK117.out)
              have n6_ := Aside0.mk (blk_drew BK132.out)
              have n7_ := Aside0.mk (IsS56.drew HI105.out)
              have n8_ := Aside0.mk (below_drew1 HB.out)
              clear HO_6
              clear HO_7
              clear HO_118000
              clear HO126
              clear HO129
              clear BK117
              clear BK132
              clear HI105
              clear HB
              have HO_6 := n0_
              have HO_7 := n1_
              have HO_118000 := n2_
              have HO126 := n3_
              have HO129 := n4_
              have BK117 := n5_
              have BK132 := n6_
              have HI105 := n7_
              have HB := n8_
              clear n0_ n1_ n2_ n3_ n4_ n5_ n6_ n7_ n8_
              refine start_ (n := 40) (S := fun w' => w'.cell? ⟨gb132, 0, none⟩ = some (.slice Ao39 t127.length co39) ∧ w'.cell? ⟨gb132, 1, none⟩ = some (.int .i64 t130) ∧ w'.cell? ⟨gb117, 0, none⟩ = some (.slice Ao14 t108.length co14) ∧ w'.cell? ⟨gb117, 1, none⟩ = some (.int .i64 t111)) (ds := []) timeboundlaw11_FactGoesAlong.b0 (by kernel_rfl) rfl rfl ⟨(blk_cell BK132.out 0).trans rfl, (blk_cell BK132.out 1).trans rfl, (blk_cell BK117.out 0).trans rfl, (blk_cell BK117.out 1).trans rfl⟩ (fun hHeld => ?_); refine with_tabW timeboundlaw11_FactGoesAlong.tab15 timeboundlaw11_FactGoesAlong.bits15 (fun HT_ HW_ => ?_)
              generalize w47.drew = w68 at HO_6 HO_7 HO_118000 HO126 HO129 BK117 BK132 HI105 HB hHeld ⊢
              refine pY 0 (some 64) timeboundlaw11_FactGoesAlong.b1 rfl rfl HT_.out (fun _ _ _ h => h) ?_
              refine pY 1 (some 65) timeboundlaw11_FactGoesAlong.b2 rfl rfl HT_.out (fun _ _ _ h => h) ?_
              refine pY 2 (some 66) timeboundlaw11_FactGoesAlong.b3 rfl rfl HT_.out (fun _ _ _ h => h) ?_
              refine pY 3 (some 67) timeboundlaw11_FactGoesAlong.b4 rfl rfl HT_.out (fun _ _ _ h => h) ?_
              refine pY 4 (some 68) timeboundlaw11_FactGoesAlong.b5 rfl rfl HT_.out (fun _ _ _ h => h) ?_
              refine pY 5 (some 69) timeboundlaw11_FactGoesAlong.b6 rfl rfl HT_.out (fun _ _ _ h => h) ?_
              refine pY 6 (some 70) timeboundlaw11_FactGoesAlong.b7 rfl rfl HT_.out (fun _ _ _ h => h) ?_
              refine pY 7 (some 71) timeboundlaw11_FactGoesAlong.b8 rfl rfl HT_.out (fun _ _ _ h => h) ?_
              refine pY 8 (some 72) timeboundlaw11_FactGoesAlong.b9 rfl rfl HT_.out (fun _ _ _ h => h) ?_
              refine pY 9 (some 73) timeboundlaw11_FactGoesAlong.b10 rfl rfl HT_.out (fun _ _ _ h => h) ?_
              refine pY 10 (some 74) timeboundlaw11_FactGoesAlong.b11 rfl rfl HT_.out (fun _ _ _ h => h) ?_
              refine pY 11 (some 75) timeboundlaw11_FactGoesAlong.b12 rfl rfl HT_.out (fun _ _ _ h => h) ?_
              refine pY 12 (some 76) timeboundlaw11_FactGoesAlong.b13 rfl rfl HT_.out (fun _ _ _ h => h) ?_
              refine pY 13 (some 77) timeboundlaw11_FactGoesAlong.b14 rfl rfl HT_.out (fun _ _ _ h => h) ?_
              refine pY 14 (some 78) timeboundlaw11_FactGoesAlong.b15 rfl rfl HT_.out (fun _ _ _ h => h) ?_
              refine pY 15 (some 79) timeboundlaw11_FactGoesAlong.b16 rfl rfl HT_.out (fun _ _ _ h => h) ?_
              refine pY 16 (some 80) timeboundlaw11_FactGoesAlong.b17 rfl rfl HT_.out (fun _ _ _ h => h) ?_
              refine pY 18 (some 82) timeboundlaw11_FactGoesAlong.b18 rfl rfl HT_.out (fun _ _ _ h => h) ?_
              refine take_ (i := 17) (N := some 81) (v := ?_) (a' := ?_) timeboundlaw11_FactGoesAlong.b19 rfl rfl (take_ofW HT_.out HW_.out (by kernel_rfl)) (fun _ _ _ h => h) (Or.inl ⟨by rfl, ?_⟩) hHeld ?_ ?_
              rotate_left
              ·rintro w' ⟨s0, s1, s2, s3⟩
               go_simp
               with_reducible rfl
              rotate_left
              ·simp only [Act.put, List.setIfInBounds_toArray, List.set_cons_zero, List.set_cons_succ, i64_w, i32_w]
               rfl
              refine take_ (i := 19) (N := some 83) (v := ?_) (a' := ?_) timeboundlaw11_FactGoesAlong.b20 rfl rfl (take_ofW HT_.out HW_.out (by kernel_rfl)) (fun _ _ _ h => h) (Or.inl ⟨by rfl, ?_⟩) hHeld ?_ ?_
              rotate_left
              ·rintro w' ⟨s0, s1, s2, s3⟩
               go_simp
               with_reducible rfl
              rotate_left
              ·simp only [Act.put, List.setIfInBounds_toArray, List.set_cons_zero, List.set_cons_succ, i64_w, i32_w]
               rfl
              refine pY 20 (some 84) timeboundlaw11_FactGoesAlong.b21 rfl rfl HT_.out (fun _ _ _ h => h) ?_
              refine pY 21 (some 85) timeboundlaw11_FactGoesAlong.b22 rfl rfl HT_.out (fun _ _ _ h => h) ?_
              refine pY 22 (some 86) timeboundlaw11_FactGoesAlong.b23 rfl rfl HT_.out (fun _ _ _ h => h) ?_
              refine pY 24 (some 88) timeboundlaw11_FactGoesAlong.b24 rfl rfl HT_.out (fun _ _ _ h => h) ?_
              refine pY 27 (some 91) timeboundlaw11_FactGoesAlong.b25 rfl rfl HT_.out (fun _ _ _ h => h) ?_
              refine take_ (i := 23) (N := some 87) (v := ?_) (a' := ?_) timeboundlaw11_FactGoesAlong.b26 rfl rfl (take_ofW HT_.out HW_.out (by kernel_rfl)) (fun _ _ _ h => h) (Or.inl ⟨by rfl, ?_⟩) hHeld ?_ ?_
              rotate_left
              ·rintro w' ⟨s0, s1, s2, s3⟩
               go_simp
               with_reducible rfl
              rotate_left
              ·simp only [Act.put, List.setIfInBounds_toArray, List.set_cons_zero, List.set_cons_succ, i64_w, i32_w]
               rfl
              refine take_ (i := 26) (N := some 90) (v := ?_) (a' := ?_) timeboundlaw11_FactGoesAlong.b27 rfl rfl (take_ofW HT_.out HW_.out (by kernel_rfl)) (fun _ _ _ h => h) (Or.inl ⟨by rfl, ?_⟩) hHeld ?_ ?_
              rotate_left
              ·rintro w' ⟨s0, s1, s2, s3⟩
               go_simp
               with_reducible rfl
              rotate_left
              ·simp only [Act.put, List.setIfInBounds_toArray, List.set_cons_zero, List.set_cons_succ, i64_w, i32_w]
               rfl
              refine one_ (i := 25) (N := some 89) timeboundlaw11_FactGoesAlong.b28 rfl rfl (one_of HT_.out (by kernel_rfl)) (by decide) (fun K hK => ?_)
              refine goes_ Try.func17 (by kernel_rfl) rfl #[.agg #[.slice Ao14 t108.length co14, .int .i64 t111], .slice Ao44 t124.length co44] (by rfl) rfl rfl aM ?_
              with_reducible refine (fact_Holds.calls k1 _ _ t108 t111 _ _ t124 t137 _ ?side1 ?side2 ?side3 ?side4 A53.out).mono ?_
              (case side1 => exact cK (Kd.R_reads' HO_118000.out).2.2)
              (case side2 => exact (Kd.R_reads' HO_118000.out).2.1)
              (case side3 => exact cK (Kd.R_reads' HO126.out).2.2)
              (case side4 => exact (Kd.R_reads' HO126.out).2.1)
              rintro e w69 ⟨rfl, hb⟩
              refine ⟨_, rfl, ?_⟩
              have n0_ := Aside0.mk (Kd.S_below (sK HO_6.out) hb)
              have n1_ := Aside0.mk (Kd.R_below (rK HO_7.out) hb)
              have n2_ := Aside0.mk (Kd.R_below (rK HO_118000.out) hb)
              have n3_ := Aside0.mk (Kd.R_below (rK HO126.out) hb)
              have n4_ := Aside0.mk (Kd.R_below (rK HO129.out) hb)
              have n5_ := Aside0.mk (blk_below (g := gb117) (o := .cells #[.slice Ao14 t108.length co14, .int .i64 t111] 30 (0, 0)) (bK BK117.out) hb)
              have n6_ := Aside0.mk (IsS56.below (IsS56.k2 HI105.out NB105_117.out NB105_132.out) hb)
              have n7_ := Aside0.mk (blk_below (g := gb132) (o := .cells #[.slice Ao39 t127.length co39, .int .i64 t130] 30 (0, 0)) (bK BK132.out) hb)
              have n8_ := Aside0.mk (below_step (hB3 HB.out (IsS56.ge HI105.out) GE117.out GE132.out) hb)
              clear HO_6
              clear HO_7
              clear HO_118000
              clear HO126
              clear HO129
              clear BK117
              clear HI105
              clear BK132
              clear HB
              have HO_6 := n0_
              have HO_7 := n1_
              have HO_118000 := n2_
              have HO126 := n3_
              have HO129 := n4_
              have BK117 := n5_
              have HI105 := n6_
              have BK132 := n7_
              have HB := n8_
              clear n0_ n1_ n2_ n3_ n4_ n5_ n6_ n7_ n8_
              (try clear hb)
              (try clear hb2)
              (try clear hk)
              (try clear hi)
              refine hK.out _ _ ⟨(blk_cell BK132.out 0).trans rfl, (blk_cell BK132.out 1).trans rfl, (blk_cell BK117.out 0).trans rfl, (blk_cell BK117.out 1).trans rfl⟩ (fun hHeld => ?_)
              clear hK K
              refine norm_ (a' := ?_) ?_ ?_
              rotate_left
              ·show Act.put _ (some 89) _ = _
               simp only [Act.put, List.setIfInBounds_toArray, List.set_cons_zero, List.set_cons_succ, i64_w, i32_w]
               rfl
              refine one_ (i := 28) (N := some 92) timeboundlaw11_FactGoesAlong.b29 rfl rfl (one_of HT_.out (by kernel_rfl)) (by decide) (fun K hK => ?_)
              refine goes_ Try.func17 (by kernel_rfl) rfl #[.agg #[.slice Ao39 t127.length co39, .int .i64 t130], .slice Ao32 x7_1.length co32] (by rfl) rfl rfl aM ?_
              with_reducible refine (fact_Holds.calls k1 _ _ t127 t130 _ _ x7_1 t138 _ ?side1 ?side2 ?side3 ?side4 A54.out).mono ?_
              (case side1 => exact cK (Kd.R_reads' HO129.out).2.2)
              (case side2 => exact (Kd.R_reads' HO129.out).2.1)
              (case side3 => exact cK (Kd.R_reads' HO_7.out).2.2)
              (case side4 => exact (Kd.R_reads' HO_7.out).2.1)
              rintro e w70 ⟨rfl, hb⟩
              refine ⟨_, rfl, ?_⟩
              have n0_ := Aside0.mk (Kd.S_below (sK HO_6.out) hb)
              have n1_ := Aside0.mk (Kd.R_below (rK HO_7.out) hb)
              have n2_ := Aside0.mk (Kd.R_below (rK HO_118000.out) hb)
              have n3_ := Aside0.mk (Kd.R_below (rK HO126.out) hb)
              have n4_ := Aside0.mk (Kd.R_below (rK HO129.out) hb)
              have n5_ := Aside0.mk (blk_below (g := gb117) (o := .cells #[.slice Ao14 t108.length co14, .int .i64 t111] 30 (0, 0)) (bK BK117.out) hb)
              have n6_ := Aside0.mk (IsS56.below (IsS56.k2 HI105.out NB105_117.out NB105_132.out) hb)
              have n7_ := Aside0.mk (blk_below (g := gb132) (o := .cells #[.slice Ao39 t127.length co39, .int .i64 t130] 30 (0, 0)) (bK BK132.out) hb)
              have n8_ := Aside0.mk (below_step (hB3 HB.out (IsS56.ge HI105.out) GE117.out GE132.out) hb)
              clear HO_6
              clear HO_7
              clear HO_118000
              clear HO126
              clear HO129
              clear BK117
              clear HI105
              clear BK132
              clear HB
              have HO_6 := n0_
              have HO_7 := n1_
              have HO_118000 := n2_
              have HO126 := n3_
              have HO129 := n4_
              have BK117 := n5_
              have HI105 := n6_
              have BK132 := n7_
              have HB := n8_
              clear n0_ n1_ n2_ n3_ n4_ n5_ n6_ n7_ n8_
              (try clear hb)
              (try clear hb2)
              (try clear hk)
              (try clear hi)
              refine hK.out _ _ ⟨(blk_cell BK132.out 0).trans rfl, (blk_cell BK132.out 1).trans rfl, (blk_cell BK117.out 0).trans rfl, (blk_cell BK117.out 1).trans rfl⟩ (fun hHeld => ?_)
              clear hK K
              refine norm_ (a' := ?_) ?_ ?_
              rotate_left
              ·show Act.put _ (some 92) _ = _
               simp only [Act.put, List.setIfInBounds_toArray, List.set_cons_zero, List.set_cons_succ, i64_w, i32_w]
               rfl
              refine pY 29 (some 93) timeboundlaw11_FactGoesAlong.b30 rfl rfl HT_.out (fun _ _ _ h => h) ?_
              refine pY 30 (some 94) timeboundlaw11_FactGoesAlong.b31 rfl rfl HT_.out (fun _ _ _ h => h) ?_
              refine pY 31 (some 95) timeboundlaw11_FactGoesAlong.b32 rfl rfl HT_.out (fun _ _ _ h => h) ?_
              refine pN 32 (some 96) timeboundlaw11_FactGoesAlong.b33 rfl rfl HT_.out (fun _ _ _ h => h) ?_
              refine pN 33 (some 97) timeboundlaw11_FactGoesAlong.b34 rfl rfl HT_.out (fun _ _ _ h => h) ?_
              refine pN 34 (some 98) timeboundlaw11_FactGoesAlong.b35 rfl rfl HT_.out (fun _ _ _ h => h) ?_
              refine pY 35 (some 99) timeboundlaw11_FactGoesAlong.b36 rfl rfl HT_.out (fun _ _ _ h => h) ?_
              refine pY 36 (some 100) timeboundlaw11_FactGoesAlong.b37 rfl rfl HT_.out (fun _ _ _ h => h) ?_
              refine pN 37 (some 101) timeboundlaw11_FactGoesAlong.b38 rfl rfl HT_.out (fun _ _ _ h => h) ?_
              refine pY 38 (some 102) timeboundlaw11_FactGoesAlong.b39 rfl rfl HT_.out (fun _ _ _ h => h) ?_
              refine pY 39 (some 2) timeboundlaw11_FactGoesAlong.b40 rfl rfl HT_.out (fun _ _ _ h => h) ?_
              refine done_ (done_of HT_.out (by kernel_rfl)) ?_
              try go_wp2
              go_meet
              case rel => exact ⟨_, (false), rS, H', ⟨by have := HK1.out; first | omega | exact Nat.le_refl _⟩, ⟨by (with_reducible repeat (first | apply Kd.R_alloc | apply Kd.R_drewN | apply Kd.R_drew)); exact Kd.R_mono HO_118000.out (fun _ hk => hk.2)⟩, ⟨by (with_reducible repeat (first | apply Kd.R_alloc | apply Kd.R_drewN | apply Kd.R_drew)); exact Kd.R_mono HO129.out (fun _ hk => hk.2)⟩, ⟨bK BK117.out⟩, ⟨bK BK132.out⟩, ⟨hB3 HB.out (IsS56.ge HI105.out) GE117.out GE132.out⟩⟩
            ·rw [if_neg c52] at H
             have c52b0 : (t130 == t111) = false := beq_eq_false_iff_ne.mpr c52
             have c52b1 : (t130 != t111) = true := bne_iff_ne.mpr c52
             have H' := Aside0.mk H
             clear H
             try go_wp2
             have n0_ := Aside0.mk (Kd.S_drew HO_6.out)
             have n1_ := Aside0.mk (Kd.R_drew HO_7.out)
             have n2_ := Aside0.mk (Kd.R_drew HO_118000.out)
             have n3_ := Aside0.mk (Kd.R_drew HO126.out)
             have n4_ := Aside0.mk (Kd.R_drew HO129.out)
             have n5_ := Aside0.mk (blk_drew BK117.out)
             have n6_ := Aside0.mk (blk_drew BK132.out)
             have n7_ := Aside0.mk (IsS56.drew HI105.out)
             have n8_ := Aside0.mk (below_drew1 HB.out)
             clear HO_6
             clear HO_7
             clear HO_118000
             clear HO126
             clear HO129
             clear BK117
             clear BK132
             clear HI105
             clear HB
             have HO_6 := n0_
             have HO_7 := n1_
             have HO_118000 := n2_
             have HO126 := n3_
             have HO129 := n4_
             have BK117 := n5_
             have BK132 := n6_
             have HI105 := n7_
             have HB := n8_
             clear n0_ n1_ n2_ n3_ n4_ n5_ n6_ n7_ n8_
             refine start_ (n := 40) (S := fun w' => w'.cell? ⟨gb132, 0, none⟩ = some (.slice Ao39 t127.length co39) ∧ w'.cell? ⟨gb132, 1, none⟩ = some (.int .i64 t130) ∧ w'.cell? ⟨gb117, 0, none⟩ = some (.slice Ao14 t108.length co14) ∧ w'.cell? ⟨gb117, 1, none⟩ = some (.int .i64 t111)) (ds := []) timeboundlaw11_FactGoesAlong.b0 (by kernel_rfl) rfl rfl ⟨(blk_cell BK132.out 0).trans rfl, (blk_cell BK132.out 1).trans rfl, (blk_cell BK117.out 0).trans rfl, (blk_cell BK117.out 1).trans rfl⟩ (fun hHeld => ?_); refine with_tabW timeboundlaw11_FactGoesAlong.tab15 timeboundlaw11_FactGoesAlong.bits15 (fun HT_ HW_ => ?_)
             generalize w47.drew = w71 at HO_6 HO_7 HO_118000 HO126 HO129 BK117 BK132 HI105 HB hHeld ⊢
             refine pY 0 (some 64) timeboundlaw11_FactGoesAlong.b1 rfl rfl HT_.out (fun _ _ _ h => h) ?_
             refine pY 1 (some 65) timeboundlaw11_FactGoesAlong.b2 rfl rfl HT_.out (fun _ _ _ h => h) ?_
             refine pY 2 (some 66) timeboundlaw11_FactGoesAlong.b3 rfl rfl HT_.out (fun _ _ _ h => h) ?_
             refine pY 3 (some 67) timeboundlaw11_FactGoesAlong.b4 rfl rfl HT_.out (fun _ _ _ h => h) ?_
             refine pY 4 (some 68) timeboundlaw11_FactGoesAlong.b5 rfl rfl HT_.out (fun _ _ _ h => h) ?_
             refine pY 5 (some 69) timeboundlaw11_FactGoesAlong.b6 rfl rfl HT_.out (fun _ _ _ h => h) ?_
             refine pY 6 (some 70) timeboundlaw11_FactGoesAlong.b7 rfl rfl HT_.out (fun _ _ _ h => h) ?_
             refine pY 7 (some 71) timeboundlaw11_FactGoesAlong.b8 rfl rfl HT_.out (fun _ _ _ h => h) ?_
             refine pY 8 (some 72) timeboundlaw11_FactGoesAlong.b9 rfl rfl HT_.out (fun _ _ _ h => h) ?_
             refine pY 9 (some 73) timeboundlaw11_FactGoesAlong.b10 rfl rfl HT_.out (fun _ _ _ h => h) ?_
             refine pY 10 (some 74) timeboundlaw11_FactGoesAlong.b11 rfl rfl HT_.out (fun _ _ _ h => h) ?_
             refine pY 11 (some 75) timeboundlaw11_FactGoesAlong.b12 rfl rfl HT_.out (fun _ _ _ h => h) ?_
             refine pY 12 (some 76) timeboundlaw11_FactGoesAlong.b13 rfl rfl HT_.out (fun _ _ _ h => h) ?_
             refine pY 13 (some 77) timeboundlaw11_FactGoesAlong.b14 rfl rfl HT_.out (fun _ _ _ h => h) ?_
             refine pY 14 (some 78) timeboundlaw11_FactGoesAlong.b15 rfl rfl HT_.out (fun _ _ _ h => h) ?_
             refine pY 15 (some 79) timeboundlaw11_FactGoesAlong.b16 rfl rfl HT_.out (fun _ _ _ h => h) ?_
             refine pY 16 (some 80) timeboundlaw11_FactGoesAlong.b17 rfl rfl HT_.out (fun _ _ _ h => h) ?_
             refine pY 18 (some 82) timeboundlaw11_FactGoesAlong.b18 rfl rfl HT_.out (fun _ _ _ h => h) ?_
             refine take_ (i := 17) (N := some 81) (v := ?_) (a' := ?_) timeboundlaw11_FactGoesAlong.b19 rfl rfl (take_ofW HT_.out HW_.out (by kernel_rfl)) (fun _ _ _ h => h) (Or.inl ⟨by rfl, ?_⟩) hHeld ?_ ?_
             rotate_left
             ·rintro w' ⟨s0, s1, s2, s3⟩
              go_simp
              with_reducible rfl
             rotate_left
             ·simp only [Act.put, List.setIfInBounds_toArray, List.set_cons_zero, List.set_cons_succ, i64_w, i32_w]
              rfl
             refine take_ (i := 19) (N := some 83) (v := ?_) (a' := ?_) timeboundlaw11_FactGoesAlong.b20 rfl rfl (take_ofW HT_.out HW_.out (by kernel_rfl)) (fun _ _ _ h => h) (Or.inl ⟨by rfl, ?_⟩) hHeld ?_ ?_
             rotate_left
             ·rintro w' ⟨s0, s1, s2, s3⟩
              go_simp
              with_reducible rfl
             rotate_left
             ·simp only [Act.put, List.setIfInBounds_toArray, List.set_cons_zero, List.set_cons_succ, i64_w, i32_w]
              rfl
             refine pY 20 (some 84) timeboundlaw11_FactGoesAlong.b21 rfl rfl HT_.out (fun _ _ _ h => h) ?_
             refine pY 21 (some 85) timeboundlaw11_FactGoesAlong.b22 rfl rfl HT_.out (fun _ _ _ h => h) ?_
             refine pY 22 (some 86) timeboundlaw11_FactGoesAlong.b23 rfl rfl HT_.out (fun _ _ _ h => h) ?_
             refine pN 23 (some 87) timeboundlaw11_FactGoesAlong.b41 rfl rfl HT_.out (fun _ _ _ h => h) ?_
             refine pN 24 (some 88) timeboundlaw11_FactGoesAlong.b42 rfl rfl HT_.out (fun _ _ _ h => h) ?_
             refine pN 25 (some 89) timeboundlaw11_FactGoesAlong.b43 rfl rfl HT_.out (fun _ _ _ h => h) ?_
             refine pN 26 (some 90) timeboundlaw11_FactGoesAlong.b44 rfl rfl HT_.out (fun _ _ _ h => h) ?_
             refine pN 27 (some 91) timeboundlaw11_FactGoesAlong.b28 rfl rfl HT_.out (fun _ _ _ h => h) ?_
             refine pN 28 (some 92) timeboundlaw11_FactGoesAlong.b29 rfl rfl HT_.out (fun _ _ _ h => h) ?_
             refine pN 29 (some 93) timeboundlaw11_FactGoesAlong.b30 rfl rfl HT_.out (fun _ _ _ h => h) ?_
             refine pY 30 (some 94) timeboundlaw11_FactGoesAlong.b31 rfl rfl HT_.out (fun _ _ _ h => h) ?_
             refine pY 31 (some 95) timeboundlaw11_FactGoesAlong.b32 rfl rfl HT_.out (fun _ _ _ h => h) ?_
             refine pN 32 (some 96) timeboundlaw11_FactGoesAlong.b33 rfl rfl HT_.out (fun _ _ _ h => h) ?_
             refine pN 33 (some 97) timeboundlaw11_FactGoesAlong.b34 rfl rfl HT_.out (fun _ _ _ h => h) ?_
             refine pN 34 (some 98) timeboundlaw11_FactGoesAlong.b35 rfl rfl HT_.out (fun _ _ _ h => h) ?_
             refine pY 35 (some 99) timeboundlaw11_FactGoesAlong.b36 rfl rfl HT_.out (fun _ _ _ h => h) ?_
             refine pY 36 (some 100) timeboundlaw11_FactGoesAlong.b37 rfl rfl HT_.out (fun _ _ _ h => h) ?_
             refine pN 37 (some 101) timeboundlaw11_FactGoesAlong.b38 rfl rfl HT_.out (fun _ _ _ h => h) ?_
             refine pY 38 (some 102) timeboundlaw11_FactGoesAlong.b39 rfl rfl HT_.out (fun _ _ _ h => h) ?_
             refine pY 39 (some 2) timeboundlaw11_FactGoesAlong.b40 rfl rfl HT_.out (fun _ _ _ h => h) ?_
             refine done_ (done_of HT_.out (by kernel_rfl)) ?_
             try go_wp2
             go_meet
             case rel => exact ⟨_, (false), rS, H', ⟨by have := HK1.out; first | omega | exact Nat.le_refl _⟩, ⟨by (with_reducible repeat (first | apply Kd.R_alloc | apply Kd.R_drewN | apply Kd.R_drew)); exact Kd.R_mono HO_118000.out (fun _ hk => hk.2)⟩, ⟨by (with_reducible repeat (first | apply Kd.R_alloc | apply Kd.R_drewN | apply Kd.R_drew)); exact Kd.R_mono HO129.out (fun _ hk => hk.2)⟩, ⟨bK BK117.out⟩, ⟨bK BK132.out⟩, ⟨hB3 HB.out (IsS56.ge HI105.out) GE117.out GE132.out⟩⟩
           ·rw [if_neg c51] at H
            have c51b0 : (t133 == t135) = false := beq_eq_false_iff_ne.mpr c51
            have c51b1 : (t133 != t135) = true := bne_iff_ne.mpr c51
            have H' := Aside0.mk H
            clear H
            try go_wp2
            have n0_ := Aside0.mk (Kd.S_drew HO_6.out)
            have n1_ := Aside0.mk (Kd.R_drew HO_7.out)
            have n2_ := Aside0.mk (Kd.R_drew HO_118000.out)
            have n3_ := Aside0.mk (Kd.R_drew HO126.out)
            have n4_ := Aside0.mk (Kd.R_drew HO129.out)
            have n5_ := Aside0.mk (blk_drew BK117.out)
            have n6_ := Aside0.mk (blk_drew BK132.out)
            have n7_ := Aside0.mk (IsS56.drew HI105.out)
            have n8_ := Aside0.mk (below_drew1 HB.out)
            clear HO_6
            clear HO_7
            clear HO_118000
            clear HO126
            clear HO129
            clear BK117
            clear BK132
            clear HI105
            clear HB
            have HO_6 := n0_
            have HO_7 := n1_
            have HO_118000 := n2_
            have HO126 := n3_
            have HO129 := n4_
            have BK117 := n5_
            have BK132 := n6_
            have HI105 := n7_
            have HB := n8_
            clear n0_ n1_ n2_ n3_ n4_ n5_ n6_ n7_ n8_
            refine start_ (n := 40) (S := fun w' => True) (ds := []) timeboundlaw11_FactGoesAlong.b0 (by kernel_rfl) rfl rfl trivial (fun hHeld => ?_); refine with_tabW timeboundlaw11_FactGoesAlong.tab15 timeboundlaw11_FactGoesAlong.bits15 (fun HT_ HW_ => ?_)
            generalize w47.drew = w72 at HO_6 HO_7 HO_118000 HO126 HO129 BK117 BK132 HI105 HB hHeld ⊢
            refine pY 0 (some 64) timeboundlaw11_FactGoesAlong.b1 rfl rfl HT_.out (fun _ _ _ h => h) ?_
            refine pY 1 (some 65) timeboundlaw11_FactGoesAlong.b2 rfl rfl HT_.out (fun _ _ _ h => h) ?_
            refine pY 2 (some 66) timeboundlaw11_FactGoesAlong.b3 rfl rfl HT_.out (fun _ _ _ h => h) ?_
            refine pY 3 (some 67) timeboundlaw11_FactGoesAlong.b4 rfl rfl HT_.out (fun _ _ _ h => h) ?_
            refine pY 4 (some 68) timeboundlaw11_FactGoesAlong.b5 rfl rfl HT_.out (fun _ _ _ h => h) ?_
            refine pY 5 (some 69) timeboundlaw11_FactGoesAlong.b6 rfl rfl HT_.out (fun _ _ _ h => h) ?_
            refine pY 6 (some 70) timeboundlaw11_FactGoesAlong.b7 rfl rfl HT_.out (fun _ _ _ h => h) ?_
            refine pY 7 (some 71) timeboundlaw11_FactGoesAlong.b8 rfl rfl HT_.out (fun _ _ _ h => h) ?_
            refine pY 8 (some 72) timeboundlaw11_FactGoesAlong.b9 rfl rfl HT_.out (fun _ _ _ h => h) ?_
            refine pY 9 (some 73) timeboundlaw11_FactGoesAlong.b10 rfl rfl HT_.out (fun _ _ _ h => h) ?_
            refine pY 10 (some 74) timeboundlaw11_FactGoesAlong.b11 rfl rfl HT_.out (fun _ _ _ h => h) ?_
            refine pY 11 (some 75) timeboundlaw11_FactGoesAlong.b12 rfl rfl HT_.out (fun _ _ _ h => h) ?_
            refine pY 12 (some 76) timeboundlaw11_FactGoesAlong.b13 rfl rfl HT_.out (fun _ _ _ h => h) ?_
            refine pY 13 (some 77) timeboundlaw11_FactGoesAlong.b14 rfl rfl HT_.out (fun _ _ _ h => h) ?_
            refine pY 14 (some 78) timeboundlaw11_FactGoesAlong.b15 rfl rfl HT_.out (fun _ _ _ h => h) ?_
            refine pY 15 (some 79) timeboundlaw11_FactGoesAlong.b16 rfl rfl HT_.out (fun _ _ _ h => h) ?_
            refine pN 16 (some 80) timeboundlaw11_FactGoesAlong.b17 rfl rfl HT_.out (fun _ _ _ h => h) ?_
            refine pN 17 (some 81) timeboundlaw11_FactGoesAlong.b45 rfl rfl HT_.out (fun _ _ _ h => h) ?_
            refine pN 18 (some 82) timeboundlaw11_FactGoesAlong.b19 rfl rfl HT_.out (fun _ _ _ h => h) ?_
            refine pN 19 (some 83) timeboundlaw11_FactGoesAlong.b20 rfl rfl HT_.out (fun _ _ _ h => h) ?_
            refine pN 20 (some 84) timeboundlaw11_FactGoesAlong.b21 rfl rfl HT_.out (fun _ _ _ h => h) ?_
            refine pY 21 (some 85) timeboundlaw11_FactGoesAlong.b22 rfl rfl HT_.out (fun _ _ _ h => h) ?_
            refine pY 22 (some 86) timeboundlaw11_FactGoesAlong.b23 rfl rfl HT_.out (fun _ _ _ h => h) ?_
            refine pN 23 (some 87) timeboundlaw11_FactGoesAlong.b41 rfl rfl HT_.out (fun _ _ _ h => h) ?_
            refine pN 24 (some 88) timeboundlaw11_FactGoesAlong.b42 rfl rfl HT_.out (fun _ _ _ h => h) ?_
            refine pN 25 (some 89) timeboundlaw11_FactGoesAlong.b43 rfl rfl HT_.out (fun _ _ _ h => h) ?_
            refine pN 26 (some 90) timeboundlaw11_FactGoesAlong.b44 rfl rfl HT_.out (fun _ _ _ h => h) ?_
            refine pN 27 (some 91) timeboundlaw11_FactGoesAlong.b28 rfl rfl HT_.out (fun _ _ _ h => h) ?_
            refine pN 28 (some 92) timeboundlaw11_FactGoesAlong.b29 rfl rfl HT_.out (fun _ _ _ h => h) ?_
            refine pN 29 (some 93) timeboundlaw11_FactGoesAlong.b30 rfl rfl HT_.out (fun _ _ _ h => h) ?_
            refine pY 30 (some 94) timeboundlaw11_FactGoesAlong.b31 rfl rfl HT_.out (fun _ _ _ h => h) ?_
            refine pY 31 (some 95) timeboundlaw11_FactGoesAlong.b32 rfl rfl HT_.out (fun _ _ _ h => h) ?_
            refine pN 32 (some 96) timeboundlaw11_FactGoesAlong.b33 rfl rfl HT_.out (fun _ _ _ h => h) ?_
            refine pN 33 (some 97) timeboundlaw11_FactGoesAlong.b34 rfl rfl HT_.out (fun _ _ _ h => h) ?_
            refine pN 34 (some 98) timeboundlaw11_FactGoesAlong.b35 rfl rfl HT_.out (fun _ _ _ h => h) ?_
            refine pY 35 (some 99) timeboundlaw11_FactGoesAlong.b36 rfl rfl HT_.out (fun _ _ _ h => h) ?_
            refine pY 36 (some 100) timeboundlaw11_FactGoesAlong.b37 rfl rfl HT_.out (fun _ _ _ h => h) ?_
            refine pN 37 (some 101) timeboundlaw11_FactGoesAlong.b38 rfl rfl HT_.out (fun _ _ _ h => h) ?_
            refine pY 38 (some 102) timeboundlaw11_FactGoesAlong.b39 rfl rfl HT_.out (fun _ _ _ h => h) ?_
            refine pY 39 (some 2) timeboundlaw11_FactGoesAlong.b40 rfl rfl HT_.out (fun _ _ _ h => h) ?_
            refine done_ (done_of HT_.out (by kernel_rfl)) ?_
            try go_wp2
            go_meet
            case rel => exact ⟨_, (false), rS, H', ⟨by have := HK1.out; first | omega | exact Nat.le_refl _⟩, ⟨by (with_reducible repeat (first | apply Kd.R_alloc | apply Kd.R_drewN | apply Kd.R_drew)); exact Kd.R_mono HO_118000.out (fun _ hk => hk.2)⟩, ⟨by (with_reducible repeat (first | apply Kd.R_alloc | apply Kd.R_drewN | apply Kd.R_drew)); exact Kd.R_mono HO129.out (fun _ hk => hk.2)⟩, ⟨bK BK117.out⟩, ⟨bK BK132.out⟩, ⟨hB3 HB.out (IsS56.ge HI105.out) GE117.out GE132.out⟩⟩
          ·rw [if_neg c50] at H
           have c50b0 : (t136 == 0) = false := beq_eq_false_iff_ne.mpr c50
           have c50b1 : (t136 != 0) = true := bne_iff_ne.mpr c50
           have H' := Aside0.mk H
           clear H
           try go_wp2
           have n0_ := Aside0.mk (Kd.S_drew HO_6.out)
           have n1_ := Aside0.mk (Kd.R_drew HO_7.out)
           have n2_ := Aside0.mk (Kd.R_drew HO_118000.out)
           have n3_ := Aside0.mk (Kd.R_drew HO126.out)
           have n4_ := Aside0.mk (Kd.R_drew HO129.out)
           have n5_ := Aside0.mk (blk_drew BK117.out)
           have n6_ := Aside0.mk (blk_drew BK132.out)
           have n7_ := Aside0.mk (IsS56.drew HI105.out)
           have n8_ := Aside0.mk (below_drew1 HB.out)
           clear HO_6
           clear HO_7
           clear HO_118000
           clear HO126
           clear HO129
           clear BK117
           clear BK132
           clear HI105
           clear HB
           have HO_6 := n0_
           have HO_7 := n1_
           have HO_118000 := n2_
           have HO126 := n3_
           have HO129 := n4_
           have BK117 := n5_
           have BK132 := n6_
           have HI105 := n7_
           have HB := n8_
           clear n0_ n1_ n2_ n3_ n4_ n5_ n6_ n7_ n8_
           refine start_ (n := 40) (S := fun w' => True) (ds := []) timeboundlaw11_FactGoesAlong.b0 (by kernel_rfl) rfl rfl trivial (fun hHeld => ?_); refine with_tabW timeboundlaw11_FactGoesAlong.tab15 timeboundlaw11_FactGoesAlong.bits15 (fun HT_ HW_ => ?_)
           generalize w47.drew = w73 at HO_6 HO_7 HO_118000 HO126 HO129 BK117 BK132 HI105 HB hHeld ⊢
           refine pY 0 (some 64) timeboundlaw11_FactGoesAlong.b1 rfl rfl HT_.out (fun _ _ _ h => h) ?_
           refine pY 1 (some 65) timeboundlaw11_FactGoesAlong.b2 rfl rfl HT_.out (fun _ _ _ h => h) ?_
           refine pY 2 (some 66) timeboundlaw11_FactGoesAlong.b3 rfl rfl HT_.out (fun _ _ _ h => h) ?_
           refine pY 3 (some 67) timeboundlaw11_FactGoesAlong.b4 rfl rfl HT_.out (fun _ _ _ h => h) ?_
           refine pY 4 (some 68) timeboundlaw11_FactGoesAlong.b5 rfl rfl HT_.out (fun _ _ _ h => h) ?_
           refine pY 5 (some 69) timeboundlaw11_FactGoesAlong.b6 rfl rfl HT_.out (fun _ _ _ h => h) ?_
           refine pY 6 (some 70) timeboundlaw11_FactGoesAlong.b7 rfl rfl HT_.out (fun _ _ _ h => h) ?_
           refine pY 7 (some 71) timeboundlaw11_FactGoesAlong.b8 rfl rfl HT_.out (fun _ _ _ h => h) ?_
           refine pY 8 (some 72) timeboundlaw11_FactGoesAlong.b9 rfl rfl HT_.out (fun _ _ _ h => h) ?_
           refine pY 9 (some 73) timeboundlaw11_FactGoesAlong.b10 rfl rfl HT_.out (fun _ _ _ h => h) ?_
           refine pY 10 (some 74) timeboundlaw11_FactGoesAlong.b11 rfl rfl HT_.out (fun _ _ _ h => h) ?_
           refine pN 11 (some 75) timeboundlaw11_FactGoesAlong.b12 rfl rfl HT_.out (fun _ _ _ h => h) ?_
           refine pN 12 (some 76) timeboundlaw11_FactGoesAlong.b13 rfl rfl HT_.out (fun _ _ _ h => h) ?_
           refine pN 13 (some 77) timeboundlaw11_FactGoesAlong.b14 rfl rfl HT_.out (fun _ _ _ h => h) ?_
           refine pY 14 (some 78) timeboundlaw11_FactGoesAlong.b15 rfl rfl HT_.out (fun _ _ _ h => h) ?_
           refine pY 15 (some 79) timeboundlaw11_FactGoesAlong.b16 rfl rfl HT_.out (fun _ _ _ h => h) ?_
           refine pN 16 (some 80) timeboundlaw11_FactGoesAlong.b17 rfl rfl HT_.out (fun _ _ _ h => h) ?_
           refine pN 17 (some 81) timeboundlaw11_FactGoesAlong.b45 rfl rfl HT_.out (fun _ _ _ h => h) ?_
           refine pN 18 (some 82) timeboundlaw11_FactGoesAlong.b19 rfl rfl HT_.out (fun _ _ _ h => h) ?_
           refine pN 19 (some 83) timeboundlaw11_FactGoesAlong.b20 rfl rfl HT_.out (fun _ _ _ h => h) ?_
           refine pN 20 (some 84) timeboundlaw11_FactGoesAlong.b21 rfl rfl HT_.out (fun _ _ _ h => h) ?_
           refine pY 21 (some 85) timeboundlaw11_FactGoesAlong.b22 rfl rfl HT_.out (fun _ _ _ h => h) ?_
           refine pY 22 (some 86) timeboundlaw11_FactGoesAlong.b23 rfl rfl HT_.out (fun _ _ _ h => h) ?_
           refine pN 23 (some 87) timeboundlaw11_FactGoesAlong.b41 rfl rfl HT_.out (fun _ _ _ h => h) ?_
           refine pN 24 (some 88) timeboundlaw11_FactGoesAlong.b42 rfl rfl HT_.out (fun _ _ _ h => h) ?_
           refine pN 25 (some 89) timeboundlaw11_FactGoesAlong.b43 rfl rfl HT_.out (fun _ _ _ h => h) ?_
           refine pN 26 (some 90) timeboundlaw11_FactGoesAlong.b44 rfl rfl HT_.out (fun _ _ _ h => h) ?_
           refine pN 27 (some 91) timeboundlaw11_FactGoesAlong.b28 rfl rfl HT_.out (fun _ _ _ h => h) ?_
           refine pN 28 (some 92) timeboundlaw11_FactGoesAlong.b29 rfl rfl HT_.out (fun _ _ _ h => h) ?_
           refine pN 29 (some 93) timeboundlaw11_FactGoesAlong.b30 rfl rfl HT_.out (fun _ _ _ h => h) ?_
           refine pY 30 (some 94) timeboundlaw11_FactGoesAlong.b31 rfl rfl HT_.out (fun _ _ _ h => h) ?_
           refine pY 31 (some 95) timeboundlaw11_FactGoesAlong.b32 rfl rfl HT_.out (fun _ _ _ h => h) ?_
           refine pN 32 (some 96) timeboundlaw11_FactGoesAlong.b33 rfl rfl HT_.out (fun _ _ _ h => h) ?_
           refine pN 33 (some 97) timeboundlaw11_FactGoesAlong.b34 rfl rfl HT_.out (fun _ _ _ h => h) ?_
           refine pN 34 (some 98) timeboundlaw11_FactGoesAlong.b35 rfl rfl HT_.out (fun _ _ _ h => h) ?_
           refine pY 35 (some 99) timeboundlaw11_FactGoesAlong.b36 rfl rfl HT_.out (fun _ _ _ h => h) ?_
           refine pY 36 (some 100) timeboundlaw11_FactGoesAlong.b37 rfl rfl HT_.out (fun _ _ _ h => h) ?_
           refine pN 37 (some 101) timeboundlaw11_FactGoesAlong.b38 rfl rfl HT_.out (fun _ _ _ h => h) ?_
           refine pY 38 (some 102) timeboundlaw11_FactGoesAlong.b39 rfl rfl HT_.out (fun _ _ _ h => h) ?_
           refine pY 39 (some 2) timeboundlaw11_FactGoesAlong.b40 rfl rfl HT_.out (fun _ _ _ h => h) ?_
           refine done_ (done_of HT_.out (by kernel_rfl)) ?_
           try go_wp2
           go_meet
           case rel => exact ⟨_, (false), rS, H', ⟨by have := HK1.out; first | omega | exact Nat.le_refl _⟩, ⟨by (with_reducible repeat (first | apply Kd.R_alloc | apply Kd.R_drewN | apply Kd.R_drew)); exact Kd.R_mono HO_118000.out (fun _ hk => hk.2)⟩, ⟨by (with_reducible repeat (first | apply Kd.R_alloc | apply Kd.R_drewN | apply Kd.R_drew)); exact Kd.R_mono HO129.out (fun _ hk => hk.2)⟩, ⟨bK BK117.out⟩, ⟨bK BK132.out⟩, ⟨hB3 HB.out (IsS56.ge HI105.out) GE117.out GE132.out⟩⟩
         ·rw [if_neg c49] at H
          have c49b0 : (t134 == 0) = false := beq_eq_false_iff_ne.mpr c49
          have c49b1 : (t134 != 0) = true := bne_iff_ne.mpr c49
          have H' := Aside0.mk H
          clear H
          try go_wp2
          have n0_ := Aside0.mk (Kd.S_drew HO_6.out)
          have n1_ := Aside0.mk (Kd.R_drew HO_7.out)
          have n2_ := Aside0.mk (Kd.R_drew HO_118000.out)
          have n3_ := Aside0.mk (Kd.R_drew HO126.out)
          have n4_ := Aside0.mk (Kd.R_drew HO129.out)
          have n5_ := Aside0.mk (blk_drew BK117.out)
          have n6_ := Aside0.mk (blk_drew BK132.out)
          have n7_ := Aside0.mk (IsS56.drew HI105.out)
          have n8_ := Aside0.mk (below_drew1 HB.out)
          clear HO_6
          clear HO_7
          clear HO_118000
          clear HO126
          clear HO129
          clear BK117
          clear BK132
          clear HI105
          clear HB
          have HO_6 := n0_
          have HO_7 := n1_
          have HO_118000 := n2_
          have HO126 := n3_
          have HO129 := n4_
          have BK117 := n5_
          have BK132 := n6_
          have HI105 := n7_
          have HB := n8_
          clear n0_ n1_ n2_ n3_ n4_ n5_ n6_ n7_ n8_
          refine start_ (n := 40) (S := fun w' => True) (ds := []) timeboundlaw11_FactGoesAlong.b0 (by kernel_rfl) rfl rfl trivial (fun hHeld => ?_); refine with_tabW timeboundlaw11_FactGoesAlong.tab15 timeboundlaw11_FactGoesAlong.bits15 (fun HT_ HW_ => ?_)
          generalize w47.drew = w74 at HO_6 HO_7 HO_118000 HO126 HO129 BK117 BK132 HI105 HB hHeld ⊢
          refine pY 0 (some 64) timeboundlaw11_FactGoesAlong.b1 rfl rfl HT_.out (fun _ _ _ h => h) ?_
          refine pY 1 (some 65) timeboundlaw11_FactGoesAlong.b2 rfl rfl HT_.out (fun _ _ _ h => h) ?_
          refine pY 2 (some 66) timeboundlaw11_FactGoesAlong.b3 rfl rfl HT_.out (fun _ _ _ h => h) ?_
          refine pY 3 (some 67) timeboundlaw11_FactGoesAlong.b4 rfl rfl HT_.out (fun _ _ _ h => h) ?_
          refine pY 4 (some 68) timeboundlaw11_FactGoesAlong.b5 rfl rfl HT_.out (fun _ _ _ h => h) ?_
          refine pY 5 (some 69) timeboundlaw11_FactGoesAlong.b6 rfl rfl HT_.out (fun _ _ _ h => h) ?_
          refine pY 6 (some 70) timeboundlaw11_FactGoesAlong.b7 rfl rfl HT_.out (fun _ _ _ h => h) ?_
          refine pN 7 (some 71) timeboundlaw11_FactGoesAlong.b8 rfl rfl HT_.out (fun _ _ _ h => h) ?_
          refine pN 8 (some 72) timeboundlaw11_FactGoesAlong.b9 rfl rfl HT_.out (fun _ _ _ h => h) ?_
          refine pY 9 (some 73) timeboundlaw11_FactGoesAlong.b10 rfl rfl HT_.out (fun _ _ _ h => h) ?_
          refine pY 10 (some 74) timeboundlaw11_FactGoesAlong.b11 rfl rfl HT_.out (fun _ _ _ h => h) ?_
          refine pN 11 (some 75) timeboundlaw11_FactGoesAlong.b12 rfl rfl HT_.out (fun _ _ _ h => h) ?_
          refine pN 12 (some 76) timeboundlaw11_FactGoesAlong.b13 rfl rfl HT_.out (fun _ _ _ h => h) ?_
          refine pN 13 (some 77) timeboundlaw11_FactGoesAlong.b14 rfl rfl HT_.out (fun _ _ _ h => h) ?_
          refine pY 14 (some 78) timeboundlaw11_FactGoesAlong.b15 rfl rfl HT_.out (fun _ _ _ h => h) ?_
          refine pY 15 (some 79) timeboundlaw11_FactGoesAlong.b16 rfl rfl HT_.out (fun _ _ _ h => h) ?_
          refine pN 16 (some 80) timeboundlaw11_FactGoesAlong.b17 rfl rfl HT_.out (fun _ _ _ h => h) ?_
          refine pN 17 (some 81) timeboundlaw11_FactGoesAlong.b45 rfl rfl HT_.out (fun _ _ _ h => h) ?_
          refine pN 18 (some 82) timeboundlaw11_FactGoesAlong.b19 rfl rfl HT_.out (fun _ _ _ h => h) ?_
          refine pN 19 (some 83) timeboundlaw11_FactGoesAlong.b20 rfl rfl HT_.out (fun _ _ _ h => h) ?_
          refine pN 20 (some 84) timeboundlaw11_FactGoesAlong.b21 rfl rfl HT_.out (fun _ _ _ h => h) ?_
          refine pY 21 (some 85) timeboundlaw11_FactGoesAlong.b22 rfl rfl HT_.out (fun _ _ _ h => h) ?_
          refine pY 22 (some 86) timeboundlaw11_FactGoesAlong.b23 rfl rfl HT_.out (fun _ _ _ h => h) ?_
          refine pN 23 (some 87) timeboundlaw11_FactGoesAlong.b41 rfl rfl HT_.out (fun _ _ _ h => h) ?_
          refine pN 24 (some 88) timeboundlaw11_FactGoesAlong.b42 rfl rfl HT_.out (fun _ _ _ h => h) ?_
          refine pN 25 (some 89) timeboundlaw11_FactGoesAlong.b43 rfl rfl HT_.out (fun _ _ _ h => h) ?_
          refine pN 26 (some 90) timeboundlaw11_FactGoesAlong.b44 rfl rfl HT_.out (fun _ _ _ h => h) ?_
          refine pN 27 (some 91) timeboundlaw11_FactGoesAlong.b28 rfl rfl HT_.out (fun _ _ _ h => h) ?_
          refine pN 28 (some 92) timeboundlaw11_FactGoesAlong.b29 rfl rfl HT_.out (fun _ _ _ h => h) ?_
          refine pN 29 (some 93) timeboundlaw11_FactGoesAlong.b30 rfl rfl HT_.out (fun _ _ _ h => h) ?_
          refine pY 30 (some 94) timeboundlaw11_FactGoesAlong.b31 rfl rfl HT_.out (fun _ _ _ h => h) ?_
          refine pY 31 (some 95) timeboundlaw11_FactGoesAlong.b32 rfl rfl HT_.out (fun _ _ _ h => h) ?_
          refine pN 32 (some 96) timeboundlaw11_FactGoesAlong.b33 rfl rfl HT_.out (fun _ _ _ h => h) ?_
          refine pN 33 (some 97) timeboundlaw11_FactGoesAlong.b34 rfl rfl HT_.out (fun _ _ _ h => h) ?_
          refine pN 34 (some 98) timeboundlaw11_FactGoesAlong.b35 rfl rfl HT_.out (fun _ _ _ h => h) ?_
          refine pY 35 (some 99) timeboundlaw11_FactGoesAlong.b36 rfl rfl HT_.out (fun _ _ _ h => h) ?_
          refine pY 36 (some 100) timeboundlaw11_FactGoesAlong.b37 rfl rfl HT_.out (fun _ _ _ h => h) ?_
          refine pN 37 (some 101) timeboundlaw11_FactGoesAlong.b38 rfl rfl HT_.out (fun _ _ _ h => h) ?_
          refine pY 38 (some 102) timeboundlaw11_FactGoesAlong.b39 rfl rfl HT_.out (fun _ _ _ h => h) ?_
          refine pY 39 (some 2) timeboundlaw11_FactGoesAlong.b40 rfl rfl HT_.out (fun _ _ _ h => h) ?_
          refine done_ (done_of HT_.out (by kernel_rfl)) ?_
          try go_wp2
          go_meet
          case rel => exact ⟨_, (false), rS, H', ⟨by have := HK1.out; first | omega | exact Nat.le_refl _⟩, ⟨by (with_reducible repeat (first | apply Kd.R_alloc | apply Kd.R_drewN | apply Kd.R_drew)); exact Kd.R_mono HO_118000.out (fun _ hk => hk.2)⟩, ⟨by (with_reducible repeat (first | apply Kd.R_alloc | apply Kd.R_drewN | apply Kd.R_drew)); exact Kd.R_mono HO129.out (fun _ hk => hk.2)⟩, ⟨bK BK117.out⟩, ⟨bK BK132.out⟩, ⟨hB3 HB.out (IsS56.ge HI105.out) GE117.out GE132.out⟩⟩
        ·rw [if_neg c48] at H
         have c48b0 : (t131 == 0) = false := beq_eq_false_iff_ne.mpr c48
         have c48b1 : (t131 != 0) = true := bne_iff_ne.mpr c48
         (first | rw [c48b0] | (simp only [i64_w, i32_w]; rw [c48b0]) | skip)
         have H' := Aside0.mk H
         clear H
         try go_wp2
         have n0_ := Aside0.mk (Kd.S_drew HO_6.out)
         have n1_ := Aside0.mk (Kd.R_drew HO_7.out)
         have n2_ := Aside0.mk (Kd.R_drew HO_118000.out)
         have n3_ := Aside0.mk (Kd.R_drew HO126.out)
         have n4_ := Aside0.mk (Kd.R_drew HO129.out)
         have n5_ := Aside0.mk (blk_drew BK117.out)
         have n6_ := Aside0.mk (blk_drew BK132.out)
         have n7_ := Aside0.mk (IsS56.drew HI105.out)
         have n8_ := Aside0.mk (below_drew1 HB.out)
         clear HO_6
         clear HO_7
         clear HO_118000
         clear HO126
         clear HO129
         clear BK117
         clear BK132
         clear HI105
         clear HB
         have HO_6 := n0_
         have HO_7 := n1_
         have HO_118000 := n2_
         have HO126 := n3_
         have HO129 := n4_
         have BK117 := n5_
         have BK132 := n6_
         have HI105 := n7_
         have HB := n8_
         clear n0_ n1_ n2_ n3_ n4_ n5_ n6_ n7_ n8_
         refine start_ (n := 40) (S := fun w' => True) (ds := []) timeboundlaw11_FactGoesAlong.b0 (by kernel_rfl) rfl rfl trivial (fun hHeld => ?_); refine with_tabW timeboundlaw11_FactGoesAlong.tab15 timeboundlaw11_FactGoesAlong.bits15 (fun HT_ HW_ => ?_)
         generalize w47.drew = w75 at HO_6 HO_7 HO_118000 HO126 HO129 BK117 BK132 HI105 HB hHeld ⊢
         refine pY 0 (some 64) timeboundlaw11_FactGoesAlong.b1 rfl rfl HT_.out (fun _ _ _ h => h) ?_
         refine pY 1 (some 65) timeboundlaw11_FactGoesAlong.b2 rfl rfl HT_.out (fun _ _ _ h => h) ?_
         refine pY 2 (some 66) timeboundlaw11_FactGoesAlong.b3 rfl rfl HT_.out (fun _ _ _ h => h) ?_
         refine pN 3 (some 67) timeboundlaw11_FactGoesAlong.b4 rfl rfl HT_.out (fun _ _ _ h => h) ?_
         refine pN 4 (some 68) timeboundlaw11_FactGoesAlong.b5 rfl rfl HT_.out (fun _ _ _ h => h) ?_
         refine pY 5 (some 69) timeboundlaw11_FactGoesAlong.b6 rfl rfl HT_.out (fun _ _ _ h => h) ?_
         refine pY 6 (some 70) timeboundlaw11_FactGoesAlong.b7 rfl rfl HT_.out (fun _ _ _ h => h) ?_
         refine pN 7 (some 71) timeboundlaw11_FactGoesAlong.b8 rfl rfl HT_.out (fun _ _ _ h => h) ?_
         refine pN 8 (some 72) timeboundlaw11_FactGoesAlong.b9 rfl rfl HT_.out (fun _ _ _ h => h) ?_
         refine pY 9 (some 73) timeboundlaw11_FactGoesAlong.b10 rfl rfl HT_.out (fun _ _ _ h => h) ?_
         refine pY 10 (some 74) timeboundlaw11_FactGoesAlong.b11 rfl rfl HT_.out (fun _ _ _ h => h) ?_
         refine pN 11 (some 75) timeboundlaw11_FactGoesAlong.b12 rfl rfl HT_.out (fun _ _ _ h => h) ?_
         refine pN 12 (some 76) timeboundlaw11_FactGoesAlong.b13 rfl rfl HT_.out (fun _ _ _ h => h) ?_
         refine pN 13 (some 77) timeboundlaw11_FactGoesAlong.b14 rfl rfl HT_.out (fun _ _ _ h => h) ?_
         refine pY 14 (some 78) timeboundlaw11_FactGoesAlong.b15 rfl rfl HT_.out (fun _ _ _ h => h) ?_
         refine pY 15 (some 79) timeboundlaw11_FactGoesAlong.b16 rfl rfl HT_.out (fun _ _ _ h => h) ?_
         refine pN 16 (some 80) timeboundlaw11_FactGoesAlong.b17 rfl rfl HT_.out (fun _ _ _ h => h) ?_
         refine pN 17 (some 81) timeboundlaw11_FactGoesAlong.b45 rfl rfl HT_.out (fun _ _ _ h => h) ?_
         refine pN 18 (some 82) timeboundlaw11_FactGoesAlong.b19 rfl rfl HT_.out (fun _ _ _ h => h) ?_
         refine pN 19 (some 83) timeboundlaw11_FactGoesAlong.b20 rfl rfl HT_.out (fun _ _ _ h => h) ?_
         refine pN 20 (some 84) timeboundlaw11_FactGoesAlong.b21 rfl rfl HT_.out (fun _ _ _ h => h) ?_
         refine pY 21 (some 85) timeboundlaw11_FactGoesAlong.b22 rfl rfl HT_.out (fun _ _ _ h => h) ?_
         refine pY 22 (some 86) timeboundlaw11_FactGoesAlong.b23 rfl rfl HT_.out (fun _ _ _ h => h) ?_
         refine pN 23 (some 87) timeboundlaw11_FactGoesAlong.b41 rfl rfl HT_.out (fun _ _ _ h => h) ?_
         refine pN 24 (some 88) timeboundlaw11_FactGoesAlong.b42 rfl rfl HT_.out (fun _ _ _ h => h) ?_
         refine pN 25 (some 89) timeboundlaw11_FactGoesAlong.b43 rfl rfl HT_.out (fun _ _ _ h => h) ?_
         refine pN 26 (some 90) timeboundlaw11_FactGoesAlong.b44 rfl rfl HT_.out (fun _ _ _ h => h) ?_
         refine pN 27 (some 91) timeboundlaw11_FactGoesAlong.b28 rfl rfl HT_.out (fun _ _ _ h => h) ?_
         refine pN 28 (some 92) timeboundlaw11_FactGoesAlong.b29 rfl rfl HT_.out (fun _ _ _ h => h) ?_
         refine pN 29 (some 93) timeboundlaw11_FactGoesAlong.b30 rfl rfl HT_.out (fun _ _ _ h => h) ?_
         refine pY 30 (some 94) timeboundlaw11_FactGoesAlong.b31 rfl rfl HT_.out (fun _ _ _ h => h) ?_
         refine pY 31 (some 95) timeboundlaw11_FactGoesAlong.b32 rfl rfl HT_.out (fun _ _ _ h => h) ?_
         refine pN 32 (some 96) timeboundlaw11_FactGoesAlong.b33 rfl rfl HT_.out (fun _ _ _ h => h) ?_
         refine pN 33 (some 97) timeboundlaw11_FactGoesAlong.b34 rfl rfl HT_.out (fun _ _ _ h => h) ?_
         refine pN 34 (some 98) timeboundlaw11_FactGoesAlong.b35 rfl rfl HT_.out (fun _ _ _ h => h) ?_
         refine pY 35 (some 99) timeboundlaw11_FactGoesAlong.b36 rfl rfl HT_.out (fun _ _ _ h => h) ?_
         refine pY 36 (some 100) timeboundlaw11_FactGoesAlong.b37 rfl rfl HT_.out (fun _ _ _ h => h) ?_
         refine pN 37 (some 101) timeboundlaw11_FactGoesAlong.b38 rfl rfl HT_.out (fun _ _ _ h => h) ?_
         refine pY 38 (some 102) timeboundlaw11_FactGoesAlong.b39 rfl rfl HT_.out (fun _ _ _ h => h) ?_
         refine pY 39 (some 2) timeboundlaw11_FactGoesAlong.b40 rfl rfl HT_.out (fun _ _ _ h => h) ?_
         refine done_ (done_of HT_.out (by kernel_rfl)) ?_
         try go_wp2
         go_meet
         case rel => exact ⟨_, (false), rS, H', ⟨by have := HK1.out; first | omega | exact Nat.le_refl _⟩, ⟨by (with_reducible repeat (first | apply Kd.R_alloc | apply Kd.R_drewN | apply Kd.R_drew)); exact Kd.R_mono HO_118000.out (fun _ hk => hk.2)⟩, ⟨by (with_reducible repeat (first | apply Kd.R_alloc | apply Kd.R_drewN | apply Kd.R_drew)); exact Kd.R_mono HO129.out (fun _ hk => hk.2)⟩, ⟨bK BK117.out⟩, ⟨bK BK132.out⟩, ⟨hB3 HB.out (IsS56.ge HI105.out) GE117.out GE132.out⟩⟩
       case rest =>
        clear HC31
        obtain ⟨kq, x2_30, rfl, HA, HJ30, HO_118000, HO_133000, BK117, BK132, HB⟩ := hcut
        cases kq with
        | zero => exact absurd HA.out (by simp [timeboundlaw11_FactGoesAlong.j1])
        | succ kj30 =>
         have H := HA.out
         clear HA
         simp only [timeboundlaw11_FactGoesAlong.j1] at H
         obtain rfl := Option.some.inj H
         go_wp2
         go_ret
         exact ⟨eW, hB2 HB.out GE117.out GE132.out⟩
   ·rw [if_neg c8] at H
    exact absurd H (by simp)
  ·replace c3 := Bool.eq_false_iff.mpr c3
   subst c3
   have H1 : ((timeboundlaw11_awake.f k).bind fun t102 => (some t102)) = some r := by rw [if_neg (show ¬ (false = true) by decide)] at H; exact H
   clear H
   have H := H1
   clear H1
   replace H := Option.bind_eq_some_iff.mp H
   obtain ⟨t102, A760, H⟩ := H
   replace H : (some t102) = some r := H
   have A76 := Aside0.mk A760
   clear A760
   obtain rfl := Option.some.inj H
   go_enter Try.func3, Try.ntmps3
   go_wp2_with (first | ((with_reducible refine gate_callee (f := 8) rfl ?_); refine goesL_ (some 17) rfl rfl Try.func8 (by kernel_rfl) rfl #[.slice A0 l0.length c0] rfl aM ?_; (with_reducible refine (timeboundmake_Few.calls _ _ l0 false _ ?side1 ?side2 A2.out).mono ?_); (case side1 => exact cK HR0.out); (case side2 => exact HC0.out); rintro e w' ⟨rfl, ⟨nd, rfl⟩⟩; refine ⟨_, rfl, ?_⟩) | ((with_reducible refine gate_callee (f := 9) rfl ?_); refine goesL_ (some 19) rfl rfl Try.func9 (by kernel_rfl) rfl #[] rfl aM ?_; (with_reducible refine (timeboundlaw11_awake.calls k  t102 _ A76.out).mono ?_); rintro e w77 ⟨rfl, hb⟩; refine ⟨_, rfl, ?_⟩; have n0_ := Aside0.mk (below_step (hB0 HB.out) hb); clear HB; have HB := n0_; clear n0_; (try clear hb)))
   go_ret
   exact ⟨eW, hB0 HB.out⟩
def timeboundlaw11_FactGoesAlong.Pure : Prop := ∀ (l0 : List Int), l0.length ≤ maxLen → l0.length * 8 ≤ 140737488351232 → (∀ x ∈ l0, (Lit.int .i64 x).wf = true) → ∃ k, timeboundlaw11_FactGoesAlong.f k l0 = some true
theorem timeboundlaw11_FactGoesAlong.walk (P : timeboundlaw11_FactGoesAlong.Pure) (a0 : Option Addr) (len0 cap0 : Nat) (z0 : List Int) (w : World) (w0 : (a0 = none ∧ len0 = 0 ∧ cap0 = 0 ∧ z0 = []) ∨ ∃ x, a0 = some x ∧ len0 ≤ cap0 ∧ cap0 ≤ maxLen ∧ z0.length = cap0 ∧ (∀ i, i < z0.length → w.cell? (x.add i) = some (.int .i64 (z0.getD i 0))) ∧ ∀ n ∈ z0, (Lit.int .i64 n).wf = true) (y0 : len0 * 8 ≤ 140737488351232) :
   Calls Try.prog 3 #[.slice a0 len0 cap0] w fun e w' => e = .returned (.bool true) ∧ Below w.heap.size w w' := by
  obtain ⟨l0, rfl, hr0, hm0, hw0, hc0⟩ := ReadsInt.ofRowC w0
  obtain ⟨k, h⟩ := P l0 hm0 y0 hw0
  refine (timeboundlaw11_FactGoesAlong.calls k _ _ l0 true w (Kd.C_of_reads (d := (0 : Int)) (h1 := fun _ => rfl) hr0) hc0 h).mono ?_
  rintro e w' ⟨rfl, hd⟩
  exact ⟨rfl, hd⟩
end Go.Proofs.Ytikpfbfeoifmkaa.X
end
section
namespace Go.Proofs.Ytikpfbfeoifmkaa.Z
open Go.RowKit Go.Proofs.Ytikpfbfeoifmkaa.X Go.Proofs.YtikpfbfeoifmkaaW.PrintWords Go.Proofs.YtikpfbfeoifmkaaW.PrintLast
set_option linter.unusedVariables false
section
variable {α β : Type} {f g : Nat → Option α} {r : α}
theorem evp {c : Prop} [Decidable c] (h : c) (k : Ev f r) : Ev (fun n => if c then f n else g n) r := by
  simpa only [if_pos h] using k
theorem evn {c : Prop} [Decidable c] (h : ¬ c) (k : Ev g r) : Ev (fun n => if c then f n else g n) r := by
  simpa only [if_neg h] using k
theorem evs {a : β} {f : Nat → β → Option α} (k : Ev (fun n => f n a) r) : Ev (fun n => (some a).bind (f n)) r := by
  simpa only [Option.bind_some] using k
theorem evb {g : Nat → Option β} {f : Nat → β → Option α} {a : β} (h : Ev g a) (k : Ev (fun n => f n a) r) : Ev (fun n => (g n).bind (f n)) r := Ev.bind h k
theorem evr (r : α) : Ev (fun _ => some r) r := Ev.now r
theorem evr' {r s : α} (h : s = r) : Ev (fun _ => some s) r := h ▸ Ev.now r
theorem evc {f g : Nat → Option α} (h : ∀ k, g k = f k) (k : Ev f r) : Ev g r := Ev.congr h k
end
theorem w64 {n : Int} (h0 : -9223372036854775808 ≤ n) (h1 : n < 9223372036854775808) : wrap64 n = n := by
  unfold wrap64
  omega
theorem half {i j : Int} (h0 : 0 ≤ i) (h1 : 0 ≤ j) (h2 : i + j < 4611686018427387904) : wrap64 (IntKind.u64.wrap (wrap64 (i + j)) / 2) = (i + j) / 2 := by
  rw [w64 (n := i + j) (by omega) (by omega)]
  have : IntKind.u64.wrap (i + j) = i + j := by
   simp [IntKind.wrap, IntKind.signed, IntKind.bits]
   omega
  rw [this, w64 (by omega) (by omega)]
def gd (l : List S44) (i : Nat) : S44 := l.getD i z44
theorem rd_gd (l : List S44) (i : Nat) : rd_T44 l (i : Int) = gd l i := by simp [rd_T44, gd]
theorem gd_lt {l : List S44} {i : Nat} (h : i < l.length) : gd l i = l[i] := by
  simp [gd, h]
theorem gd_ge {l : List S44} {i : Nat} (h : l.length ≤ i) : gd l i = z44 := by
  simp [gd, List.getD_eq_getElem?_getD, h]
theorem gd_set {l : List S44} {i : Nat} (x : S44) (j : Nat) (h : i < l.length) : gd (l.set i x) j = if i = j then x else gd l j := by
  simp only [gd, List.getD_eq_getElem?_getD, List.getElem?_set]
  split
  ·simp [h]
  ·rfl
def sw (l : List S44) (i j : Nat) : List S44 := (l.set i (gd l j)).set j (gd l i)
theorem sw_length (l : List S44) (i j : Nat) : (sw l i j).length = l.length := by simp [sw]
theorem gd_sw {l : List S44} {i j : Nat} (hi : i < l.length) (hj : j < l.length) (p : Nat) : gd (sw l i j) p = if j = p then gd l i else if i = p then gd l j else gd l p := by
  unfold sw
  rw [gd_set _ _ (by simpa using hj)]
  split
  ·rfl
  ·rw [gd_set _ _ hi]
theorem sw_perm {l : List S44} {i j : Nat} (hi : i < l.length) (hj : j < l.length) : (sw l i j).Perm l := by
  unfold sw
  rw [gd_lt hi, gd_lt hj]
  exact List.set_set_perm hi hj
structure Shuf (a b : Nat) (l l' : List S44) : Prop where
  len : l'.length = l.length
  perm : l'.Perm l
  out : ∀ i, i < a ∨ b ≤ i → gd l' i = gd l i
theorem Shuf.refl (a b : Nat) (l : List S44) : Shuf a b l l := ⟨rfl, List.Perm.refl _, fun _ _ => rfl⟩
theorem Shuf.trans {a b : Nat} {l l1 l2 : List S44} (h : Shuf a b l l1) (k : Shuf a b l1 l2) : Shuf a b l l2 :=
  ⟨k.len.trans h.len, k.perm.trans h.perm, fun i hi => (k.out i hi).trans (h.out i hi)⟩
theorem Shuf.mono {a b a' b' : Nat} {l l1 : List S44} (h : Shuf a b l l1) (ha : a' ≤ a) (hb : b ≤ b') : Shuf a' b' l l1 :=
  ⟨h.len, h.perm, fun i hi => h.out i (by omega)⟩
theorem Shuf.sw {a b i j : Nat} {l : List S44} (hi : a ≤ i ∧ i < b) (hj : a ≤ j ∧ j < b) (hb : b ≤ l.length) : Shuf a b l (sw l i j) :=
  ⟨sw_length _ _ _, sw_perm (by omega) (by omega), fun p hp => by rw [gd_sw (by omega) (by omega), if_neg (by omega), if_neg (by omega)]⟩
theorem take_eq_of {l l' : List S44} (hl : l'.length = l.length) {a : Nat} (h : ∀ i, i < a → gd l' i = gd l i) : l'.take a = l.take a := by
  apply List.ext_getElem (by simp [hl])
  intro i h1 h2
  simp only [List.length_take] at h1 h2
  rw [List.getElem_take, List.getElem_take, ← gd_lt, ← gd_lt, h i (by omega)]
theorem drop_eq_of {l l' : List S44} (hl : l'.length = l.length) {b : Nat} (h : ∀ i, b ≤ i → gd l' i = gd l i) : l'.drop b = l.drop b := by
  apply List.ext_getElem (by simp [hl])
  intro i h1 h2
  simp only [List.length_drop] at h1 h2
  rw [List.getElem_drop, List.getElem_drop, ← gd_lt, ← gd_lt, h (b + i) (by omega)]
theorem Shuf.seg {a b : Nat} {l l' : List S44} (h : Shuf a b l l') (hab : a ≤ b) : ((l'.take b).drop a).Perm ((l.take b).drop a) := by
  have e : ∀ x : List S44, x = (x.take a ++ (x.take b).drop a) ++ x.drop b := by
   intro x
   have : x.take a = (x.take b).take a := by rw [List.take_take, Nat.min_eq_left hab]
   rw [this, List.take_append_drop, List.take_append_drop]
  have hp := h.perm
  rw [e l', e l, take_eq_of h.len (fun i hi => h.out i (Or.inl hi)), drop_eq_of h.len (fun i hi => h.out i (Or.inr hi))] at hp
  rw [List.perm_append_right_iff] at hp
  rw [List.perm_append_left_iff] at hp
  exact hp
theorem mem_seg {l : List S44} {a b : Nat} (hb : b ≤ l.length) {x : S44} : x ∈ (l.take b).drop a ↔ ∃ i, a ≤ i ∧ i < b ∧ gd l i = x := by
  constructor
  ·intro h
   obtain ⟨i, hi, rfl⟩ := List.mem_iff_getElem.1 h
   simp only [List.length_drop, List.length_take] at hi
   refine ⟨a + i, by omega, by omega, ?_⟩
   rw [List.getElem_drop, List.getElem_take, gd_lt (by omega)]
  ·rintro ⟨i, h0, h1, rfl⟩
   rw [List.mem_iff_getElem]
   refine ⟨i - a, by simp only [List.length_drop, List.length_take]; omega, ?_⟩
   rw [List.getElem_drop, List.getElem_take, gd_lt (by omega)]
   congr 1
   omega
theorem Shuf.range {a b : Nat} {l l' : List S44} (h : Shuf a b l l') (hb : b ≤ l.length) {P : S44 → Prop} (hP : ∀ i, a ≤ i → i < b → P (gd l i)) : ∀ i, a ≤ i → i < b → P (gd l' i) := by
  intro i h0 h1
  have hm : gd l' i ∈ (l'.take b).drop a := (mem_seg (by rw [h.len]; exact hb)).2 ⟨i, h0, h1, rfl⟩
  rw [(h.seg (by omega)).mem_iff, mem_seg hb] at hm
  obtain ⟨j, h2, h3, e⟩ := hm
  rw [← e]
  exact hP j h2 h3
def K (l : List S44) (i : Nat) : Int := (gd l i).f0
def Bd (l : List S44) : Prop := ∀ i, 0 ≤ K l i ∧ K l i ≤ 255
theorem Bd.of_mem {l : List S44} (h : ∀ t ∈ l, 0 ≤ t.f0 ∧ t.f0 ≤ 255) : Bd l := by
  intro i
  unfold K
  by_cases hi : i < l.length
  ·rw [gd_lt hi]
   exact h _ (by simp)
  ·rw [gd_ge (by omega)]
   simp [z44]
theorem Bd.mem {l : List S44} (h : Bd l) : ∀ t ∈ l, 0 ≤ t.f0 ∧ t.f0 ≤ 255 := by
  intro t ht
  obtain ⟨i, hi, rfl⟩ := List.mem_iff_getElem.1 ht
  have := h i
  unfold K at this
  rwa [gd_lt hi] at this
theorem Bd.perm {l l' : List S44} (h : Bd l) (hp : l'.Perm l) : Bd l' := Bd.of_mem fun t ht => h.mem t (hp.mem_iff.1 ht)
def Srt (l : List S44) (a b : Nat) : Prop := ∀ i j, a ≤ i → i ≤ j → j < b → K l i ≤ K l j
theorem Srt.mono {l : List S44} {a b a' b' : Nat} (h : Srt l a b) (ha : a ≤ a') (hb : b' ≤ b) : Srt l a' b' := fun i j h0 h1 h2 => h i j (by omega) h1 (by omega)
theorem Srt.small {l : List S44} {a b : Nat} (h : b ≤ a + 1) : Srt l a b := fun i j h0 h1 h2 => by
  obtain rfl : i = j := by omega
  exact Int.le_refl _
theorem Srt.cong {l l' : List S44} {a b : Nat} (h : Srt l a b) (e : ∀ i, a ≤ i → i < b → gd l' i = gd l i) : Srt l' a b := fun i j h0 h1 h2 => by
  unfold K
  rw [e i h0 (by omega), e j (by omega) h2]
  exact h i j h0 h1 h2
theorem Shuf.srt {l l' : List S44} {a b c d : Nat} (h : Shuf a b l l') (k : Srt l c d) (hd : d ≤ a ∨ b ≤ c) : Srt l' c d := k.cong fun i h0 h1 => h.out i (by omega)
theorem cmp_ {l : List S44} (h : Bd l) (i j : Nat) (x y : Int) : fact_gather_1.f (gd l i).f0 x (gd l j).f0 y = some (K l i - K l j) := by
  have h1 := h i
  have h2 := h j
  unfold fact_gather_1.f
  unfold K at *
  rw [w64 (by omega) (by omega)]
end Go.Proofs.Ytikpfbfeoifmkaa.Z
end
section
namespace Go.Proofs.Ytikpfbfeoifmkaa.Z
open Go.RowKit Go.Proofs.Ytikpfbfeoifmkaa.X Go.Proofs.YtikpfbfeoifmkaaW.PrintWords Go.Proofs.YtikpfbfeoifmkaaW.PrintLast
set_option linter.unusedVariables false
set_option linter.unusedSimpArgs false
def cf : List S44 → Int → Int
  | [], _ => 0
  | t :: l, b => (if t.f0 = b then t.f1 else 0) + cf l b
def wsum : List S44 → (Int → Int) → Int
  | [], _ => 0
  | t :: l, w => t.f1 * w t.f0 + wsum l w
theorem cf_append (l l' : List S44) (b : Int) : cf (l ++ l') b = cf l b + cf l' b := by
  induction l with
  | nil => simp [cf]
  | cons t l ih => simp only [List.cons_append, cf, ih]; omega
theorem wsum_append (l l' : List S44) (w : Int → Int) : wsum (l ++ l') w = wsum l w + wsum l' w := by
  induction l with
  | nil => simp [wsum]
  | cons t l ih => simp only [List.cons_append, wsum, ih]; omega
theorem cf_perm {l l' : List S44} (h : l.Perm l') (b : Int) : cf l b = cf l' b := by
  induction h with
  | nil => rfl
  | cons x _ ih => simp only [cf, ih]
  | swap x y l => simp only [cf]; omega
  | trans _ _ ih1 ih2 => exact ih1.trans ih2
theorem cf_single (t : S44) (b : Int) : cf [t] b = if t.f0 = b then t.f1 else 0 := by simp [cf]
theorem cf_none {l : List S44} {b : Int} (h : ∀ t ∈ l, t.f0 ≠ b) : cf l b = 0 := by
  induction l with
  | nil => rfl
  | cons t l ih =>
   have h1 := h t (by simp)
   simp only [cf, if_neg h1, ih (fun x hx => h x (by simp [hx]))]
   rfl
theorem cf_filter_nz (l : List S44) (b : Int) : cf (l.filter fun t => !(t.f1 == 0)) b = cf l b := by
  induction l with
  | nil => rfl
  | cons t l ih =>
   rw [List.filter_cons]
   by_cases h : t.f1 = 0
   ·simp [h, cf, ih]
   ·simp [h, cf, ih]
theorem wsum_split (l : List S44) (w : Int → Int) (b : Int) : wsum l w = cf l b * w b + wsum (l.filter fun t => !(t.f0 == b)) w := by
  induction l with
  | nil => simp [wsum, cf]
  | cons t l ih =>
   rw [List.filter_cons]
   by_cases h : t.f0 = b
   ·simp only [wsum, cf, h, if_true, ih, beq_self_eq_true, Bool.not_true, Bool.false_eq_true, if_false, Int.add_mul]
    omega
   ·have h2 : (!(t.f0 == b)) = true := by simp [h]
    simp only [wsum, cf, if_neg h, h2, if_true, ih, Int.zero_add]
    omega
theorem cf_filter_ne (l : List S44) (b c : Int) : cf (l.filter fun t => !(t.f0 == b)) c = if c = b then 0 else cf l c := by
  induction l with
  | nil => simp [cf]
  | cons t l ih =>
   rw [List.filter_cons]
   by_cases h : t.f0 = b
   ·simp only [h, beq_self_eq_true, Bool.not_true, Bool.false_eq_true, if_false, ih, cf]
    by_cases hc : c = b
    ·rw [if_pos hc, if_pos hc]
    ·rw [if_neg hc, if_neg hc, if_neg (fun e => hc e.symm)]
     omega
   ·have h2 : (!(t.f0 == b)) = true := by simp [h]
    simp only [h2, if_true, cf, ih]
    by_cases hc : c = b
    ·subst hc
     rw [if_neg h, if_pos rfl, if_pos rfl]
     rfl
    ·rw [if_neg hc, if_neg hc]
theorem wsum_zero (w : Int → Int) : ∀ (n : Nat) (l : List S44), l.length ≤ n → (∀ b, cf l b = 0) → wsum l w = 0 := by
  intro n
  induction n with
  | zero =>
   intro l hl _
   obtain rfl : l = [] := List.eq_nil_of_length_eq_zero (by omega)
   rfl
  | succ n ih =>
   intro l hl h
   cases l with
   | nil => rfl
   | cons t l =>
    rw [wsum_split _ w t.f0, h t.f0, ih]
    ·simp
    ·rw [List.filter_cons]
     simp only [beq_self_eq_true, Bool.not_true, Bool.false_eq_true, if_false]
     have := List.length_filter_le (fun x : S44 => !(x.f0 == t.f0)) l
     simp only [List.length_cons] at hl
     omega
    ·intro c
     rw [cf_filter_ne, h c]
     split <;> rfl
def neg (l : List S44) : List S44 := l.map fun t => ⟨t.f0, -t.f1⟩
theorem cf_neg (l : List S44) (b : Int) : cf (neg l) b = - cf l b := by
  induction l with
  | nil => rfl
  | cons t l ih =>
   unfold neg at ih
   simp only [neg, List.map_cons, cf, ih]
   split <;> omega
theorem wsum_neg (l : List S44) (w : Int → Int) : wsum (neg l) w = - wsum l w := by
  induction l with
  | nil => rfl
  | cons t l ih =>
   unfold neg at ih
   simp only [neg, List.map_cons, wsum, ih, Int.neg_mul]
   omega
theorem wsum_of_cf {l l' : List S44} (h : ∀ b, cf l b = cf l' b) (w : Int → Int) : wsum l w = wsum l' w := by
  have := wsum_zero w _ (l ++ neg l') (Nat.le_refl _) (fun b => by rw [cf_append, cf_neg, h b]; omega)
  rw [wsum_append, wsum_neg] at this
  omega
structure Canon (r : List S44) (c : Int → Int) : Prop where
  inc : r.Pairwise fun x y => x.f0 < y.f0
  nz : ∀ t ∈ r, t.f1 ≠ 0
  sums : ∀ b, cf r b = c b
theorem cf_head {t : S44} {l : List S44} (h : (t :: l).Pairwise fun x y => x.f0 < y.f0) : cf (t :: l) t.f0 = t.f1 := by
  rw [List.pairwise_cons] at h
  simp only [cf, if_true]
  rw [cf_none (fun x hx => by have := h.1 x hx; omega)]
  omega
theorem cf_below {t : S44} {l : List S44} (h : (t :: l).Pairwise fun x y => x.f0 < y.f0) {b : Int} (hb : b < t.f0) : cf (t :: l) b = 0 := by
  rw [List.pairwise_cons] at h
  refine cf_none fun x hx => ?_
  rcases List.mem_cons.1 hx with rfl | hx
  ·omega
  ·have := h.1 x hx
   omega
theorem Canon.unique : ∀ {r r' : List S44} {c : Int → Int}, Canon r c → Canon r' c → r = r'
  | [], [], _, _, _ => rfl
  | [], t :: l, c, h, k => by
   have h1 := h.sums t.f0
   have h2 := k.sums t.f0
   rw [cf_head k.inc] at h2
   have h3 : cf [] t.f0 = 0 := rfl
   exact absurd (by omega : t.f1 = 0) (k.nz t (by simp))
  | t :: l, [], c, h, k => by
   have h1 := h.sums t.f0
   have h2 := k.sums t.f0
   rw [cf_head h.inc] at h1
   have h3 : cf [] t.f0 = 0 := rfl
   exact absurd (by omega : t.f1 = 0) (h.nz t (by simp))
  | t :: l, t' :: l', c, h, k => by
   have e0 : t.f0 = t'.f0 := by
    rcases Int.lt_trichotomy t.f0 t'.f0 with h1 | h1 | h1
    ·have g1 := h.sums t.f0
     have g2 := k.sums t.f0
     rw [cf_head h.inc] at g1
     rw [cf_below k.inc h1] at g2
     exact absurd (by omega : t.f1 = 0) (h.nz t (by simp))
    ·exact h1
    ·have g1 := h.sums t'.f0
     have g2 := k.sums t'.f0
     rw [cf_head k.inc] at g2
     rw [cf_below h.inc h1] at g1
     exact absurd (by omega : t'.f1 = 0) (k.nz t' (by simp))
   have e1 : t.f1 = t'.f1 := by
    have g1 := h.sums t.f0
    have g2 := k.sums t.f0
    rw [cf_head h.inc] at g1
    rw [e0, cf_head k.inc] at g2
    rw [e0] at g1
    omega
   obtain rfl : t = t' := by
    cases t; cases t'
    simp_all
   have hl : Canon l (cf l) := ⟨(List.pairwise_cons.1 h.inc).2, fun x hx => h.nz x (by simp [hx]), fun _ => rfl⟩
   have hl' : Canon l' (cf l) := ⟨(List.pairwise_cons.1 k.inc).2, fun x hx => k.nz x (by simp [hx]), fun b => by
    have g1 := h.sums b
    have g2 := k.sums b
    simp only [cf] at g1 g2
    omega⟩
   rw [Canon.unique hl hl']
theorem Canon.filter {r : List S44} {c : Int → Int} (h : r.Pairwise fun x y => x.f0 < y.f0) (hc : ∀ b, cf r b = c b) : Canon (r.filter fun t => !(t.f1 == 0)) c :=
  ⟨h.filter _, fun t ht => by simpa using (List.mem_filter.1 ht).2, fun b => by rw [cf_filter_nz, hc]⟩
end Go.Proofs.Ytikpfbfeoifmkaa.Z
end
section
namespace Go.Proofs.Ytikpfbfeoifmkaa.Z
open Go.RowKit Go.Proofs.Ytikpfbfeoifmkaa.X Go.Proofs.YtikpfbfeoifmkaaW.PrintWords Go.Proofs.YtikpfbfeoifmkaaW.PrintLast
set_option linter.unusedVariables false
set_option linter.unusedSimpArgs false
theorem K_sw {l : List S44} {i j : Nat} (hi : i < l.length) (hj : j < l.length) (p : Nat) : K (sw l i j) p = if j = p then K l i else if i = p then K l j else K l p := by
  unfold K
  rw [gd_sw hi hj]
  split
  ·rfl
  ·split <;> rfl
theorem ins_l1 (a b i n : Nat) (hib : i < b) (hbn : b ≤ n) (hn : n < 1152921504606846976)
   (next : ∀ l : List S44, l.length = n → Bd l → Srt l a (i + 1) → ∃ r, Ev (fun k => api_Term_59_at52.l0 k l a b ((i + 1 : Nat) : Int)) r ∧ Shuf a b l r ∧ Srt r a b) :
   ∀ (j : Nat) (l : List S44), l.length = n → Bd l → a ≤ j → j ≤ i → (∀ p q, a ≤ p → p ≤ q → q ≤ i → q ≠ j → K l p ≤ K l q) →
    ∃ r, Ev (fun k => api_Term_59_at52.l1 k l a b (i : Int) (j : Int)) r ∧ Shuf a b l r ∧ Srt r a b := by
  have hw1 : wrap64 ((i : Int) + 1) = ((i + 1 : Nat) : Int) := by rw [w64] <;> omega
  intro j
  induction j with
  | zero =>
   intro l hl hB ha hj hs
   have hS : Srt l a (i + 1) := by
    intro p q h0 h1 h2
    by_cases hq : q = 0
    ·have : p = q := by omega
     rw [this]
     exact Int.le_refl _
    ·exact hs p q h0 h1 (by omega) hq
   obtain ⟨r, hr, h1, h2⟩ := next l hl hB hS
   refine ⟨r, ?_, h1, h2⟩
   refine Ev.step (fun k => by rw [api_Term_59_at52.l1]) ?_
   refine evn (by omega) ?_
   rw [hw1]
   exact hr
  | succ j ih =>
   intro l hl hB ha hj hs
   by_cases haj : a = j + 1
   ·have hS : Srt l a (i + 1) := by
     intro p q h0 h1 h2
     by_cases hq : q = j + 1
     ·have : p = q := by omega
      rw [this]
      exact Int.le_refl _
     ·exact hs p q h0 h1 (by omega) hq
    obtain ⟨r, hr, h1, h2⟩ := next l hl hB hS
    refine ⟨r, ?_, h1, h2⟩
    refine Ev.step (fun k => by rw [api_Term_59_at52.l1]) ?_
    refine evn (by omega) ?_
    rw [hw1]
    exact hr
   ·have hw2 : wrap64 (((j + 1 : Nat) : Int) - 1) = (j : Int) := by rw [w64] <;> omega
    have hc := cmp_ hB (j + 1) j (gd l (j + 1)).f1 (gd l j).f1
    by_cases hlt : K l (j + 1) - K l j < 0
    ·have hj1 : j + 1 < l.length := by omega
     have hj0 : j < l.length := by omega
     obtain ⟨r, hr, h1, h2⟩ := ih (sw l (j + 1) j) (by rw [sw_length]; exact hl) (hB.perm (sw_perm hj1 hj0)) (by omega) (by omega) (by
      intro p q h0 h1 h2 h3
      rw [K_sw hj1 hj0, K_sw hj1 hj0]
      by_cases e1 : j + 1 = q
      ·subst e1
       rw [if_neg (show ¬ j = j + 1 by omega), if_pos rfl]
       by_cases e2 : j = p
       ·rw [if_pos e2]; omega
       ·rw [if_neg e2]
        by_cases e3 : j + 1 = p
        ·rw [if_pos e3]; exact Int.le_refl _
        ·rw [if_neg e3]; exact hs p j h0 (by omega) (by omega) (by omega)
      ·rw [if_neg (show ¬ j = q by omega), if_neg e1]
       by_cases e2 : j = p
       ·rw [if_pos e2]; exact hs (j + 1) q (by omega) (by omega) h2 (by omega)
       ·rw [if_neg e2]
        by_cases e3 : j + 1 = p
        ·rw [if_pos e3]; exact hs j q (by omega) (by omega) h2 (by omega)
        ·rw [if_neg e3]; exact hs p q h0 h1 h2 (by omega))
     refine ⟨r, ?_, (Shuf.sw (by omega) (by omega) (by omega)).trans h1, h2⟩
     refine Ev.step (fun k => by rw [api_Term_59_at52.l1]) ?_
     refine evp (by omega) (evp (by omega) (evp (by omega) ?_))
     rw [hw2]
     refine evp (by omega) (evp (by omega) ?_)
     rw [rd_gd, rd_gd, hc]
     refine evs (evp hlt ?_)
     exact hr
    ·have hS : Srt l a (i + 1) := by
      intro p q h0 h1 h2
      by_cases hq : q = j + 1
      ·subst hq
       by_cases hp : p = j + 1
       ·rw [hp]; exact Int.le_refl _
       ·have := hs p j h0 (by omega) (by omega) (by omega)
        omega
      ·exact hs p q h0 h1 (by omega) hq
     obtain ⟨r, hr, h1, h2⟩ := next l hl hB hS
     refine ⟨r, ?_, h1, h2⟩
     refine Ev.step (fun k => by rw [api_Term_59_at52.l1]) ?_
     refine evp (by omega) (evp (by omega) (evp (by omega) ?_))
     rw [hw2]
     refine evp (by omega) (evp (by omega) ?_)
     rw [rd_gd, rd_gd, hc]
     refine evs (evn hlt ?_)
     rw [hw1]
     exact hr
theorem ins_l0 (a b n : Nat) (hbn : b ≤ n) (hn : n < 1152921504606846976) (d : Nat) : ∀ (i : Nat) (l : List S44), b - i = d → a < i → l.length = n → Bd l → Srt l a (min i b) →
   ∃ r, Ev (fun k => api_Term_59_at52.l0 k l a b (i : Int)) r ∧ Shuf a b l r ∧ Srt r a b := by
  induction d with
  | zero =>
   intro i l hd hai hl hB hs
   refine ⟨l, Ev.step (fun k => by rw [api_Term_59_at52.l0]) (evn (by omega) (evr _)), Shuf.refl _ _ _, ?_⟩
   rwa [Nat.min_eq_right (by omega)] at hs
  | succ d ih =>
   intro i l hd hai hl hB hs
   rw [Nat.min_eq_left (by omega)] at hs
   obtain ⟨r, hr, h1, h2⟩ := ins_l1 a b i n (by omega) hbn hn (fun l hl hB hs => ih (i + 1) l (by omega) (by omega) hl hB (hs.mono (Nat.le_refl _) (by omega))) i l hl hB (by omega) (Nat.le_refl _)
    (fun p q h0 h1 h2 h3 => hs p q h0 h1 (by omega))
   exact ⟨r, Ev.step (fun k => by rw [api_Term_59_at52.l0]) (evp (by omega) hr), h1, h2⟩
theorem ins_sorts (a b n : Nat) (l : List S44) (hab : a ≤ b) (hbn : b ≤ n) (hn : n < 1152921504606846976) (hl : l.length = n) (hB : Bd l) :
   ∃ r, Ev (fun k => api_Term_59_at52.f k l a b) r ∧ Shuf a b l r ∧ Srt r a b := by
  have hw1 : wrap64 ((a : Int) + 1) = ((a + 1 : Nat) : Int) := by rw [w64] <;> omega
  obtain ⟨r, hr, h⟩ := ins_l0 a b n hbn hn _ (a + 1) l rfl (by omega) hl hB (Srt.small (by omega))
  refine ⟨r, ?_, h⟩
  unfold api_Term_59_at52.f
  rw [hw1]
  exact hr
end Go.Proofs.Ytikpfbfeoifmkaa.Z
end
section
namespace Go.Proofs.Ytikpfbfeoifmkaa.Z
open Go.RowKit Go.Proofs.Ytikpfbfeoifmkaa.X Go.Proofs.YtikpfbfeoifmkaaW.PrintWords Go.Proofs.YtikpfbfeoifmkaaW.PrintLast
set_option linter.unusedVariables false
set_option linter.unusedSimpArgs false
theorem swr_l0 (a b m N : Nat) (hab : a + m ≤ b) (hb : b + m ≤ N) (hN : N < 1152921504606846976) (d : Nat) : ∀ (i : Nat) (l : List S44), m - i = d → i ≤ m → l.length = N →
   ∃ r, Ev (fun k => api_Term_62_at52.l0 k l a b m (i : Int)) r ∧ r.length = N ∧ r.Perm l ∧
    ∀ p, gd r p = if a + i ≤ p ∧ p < a + m then gd l (p - a + b) else if b + i ≤ p ∧ p < b + m then gd l (p - b + a) else gd l p := by
  induction d with
  | zero =>
   intro i l hd hi hl
   refine ⟨l, ?_, hl, List.Perm.refl _, fun p => ?_⟩
   ·refine Ev.step (fun k => by rw [api_Term_62_at52.l0]) ?_
    exact evn (by omega) (evr _)
   ·rw [if_neg (by omega), if_neg (by omega)]
  | succ d ih =>
   intro i l hd hi hl
   have h1 : a + i < l.length := by omega
   have h2 : b + i < l.length := by omega
   obtain ⟨r, hr, hrl, hp, hg⟩ := ih (i + 1) (sw l (a + i) (b + i)) (by omega) (by omega) (by rw [sw_length]; exact hl)
   refine ⟨r, ?_, hrl, hp.trans (sw_perm h1 h2), fun p => ?_⟩
   ·refine Ev.step (fun k => by rw [api_Term_62_at52.l0]) ?_
    refine evp (by omega) ?_
    rw [show wrap64 ((b : Int) + (i : Int)) = ((b + i : Nat) : Int) from by rw [w64] <;> omega, show wrap64 ((a : Int) + (i : Int)) = ((a + i : Nat) : Int) from by rw [w64] <;> omega, show wrap64 ((i : Int) + 1) = ((i + 1 : Nat) : Int) from by rw [w64] <;> omega]
    refine evp (by omega) (evp (by omega) (evp (by omega) (evp (by omega) ?_)))
    exact hr
   ·rw [hg p, gd_sw h1 h2, gd_sw h1 h2, gd_sw h1 h2]
    repeat' split
    all_goals first | rfl | (exfalso; omega) | (congr 1; omega)
theorem swr (a b m N : Nat) (l : List S44) (hab : a + m ≤ b) (hb : b + m ≤ N) (hN : N < 1152921504606846976) (hl : l.length = N) :
   ∃ r, Ev (fun k => api_Term_62_at52.f k l a b m) r ∧ r.length = N ∧ r.Perm l ∧
    ∀ p, gd r p = if a ≤ p ∧ p < a + m then gd l (p - a + b) else if b ≤ p ∧ p < b + m then gd l (p - b + a) else gd l p := by
  obtain ⟨r, hr, h1, h2, h3⟩ := swr_l0 a b m N hab hb hN _ 0 l rfl (by omega) hl
  exact ⟨r, hr, h1, h2, by simpa using h3⟩
theorem rot_l0 (N m : Nat) (hN : N < 1152921504606846976) (d : Nat) : ∀ (i j : Nat) (l : List S44), i + j ≤ d → 0 < i → 0 < j → i ≤ m → m + j ≤ N → l.length = N →
   ∃ r, Ev (fun k => api_Term_61_at52.l0 k l (m : Int) (i : Int) (j : Int)) r ∧ r.length = N ∧ r.Perm l ∧
    ∀ p, gd r p = if m - i ≤ p ∧ p < m - i + j then gd l (p + i) else if m - i + j ≤ p ∧ p < m + j then gd l (p - j) else gd l p := by
  induction d with
  | zero => intro i j l h h1; omega
  | succ d ih =>
   intro i j l hd hi hj him hmj hl
   have hw1 : wrap64 ((m : Int) - (i : Int)) = ((m - i : Nat) : Int) := by rw [w64] <;> omega
   by_cases hij : i = j
   ·subst hij
    obtain ⟨r, hr, h1, h2, h3⟩ := swr (m - i) m i N l (by omega) (by omega) hN hl
    refine ⟨r, ?_, h1, h2, fun p => ?_⟩
    ·refine Ev.step (fun k => by rw [api_Term_61_at52.l0]) ?_
     refine evp rfl ?_
     rw [hw1]
     exact evb hr (evr _)
    ·rw [h3 p]
     repeat' split
     all_goals first | rfl | (exfalso; omega) | (congr 1; omega)
   ·by_cases hgt : j < i
    ·obtain ⟨l1, hr1, g1, g2, g3⟩ := swr (m - i) m j N l (by omega) (by omega) hN hl
     have hw2 : wrap64 ((i : Int) - (j : Int)) = ((i - j : Nat) : Int) := by rw [w64] <;> omega
     obtain ⟨r, hr, h1, h2, h3⟩ := ih (i - j) j l1 (by omega) (by omega) hj (by omega) hmj g1
     refine ⟨r, ?_, h1, h2.trans g2, fun p => ?_⟩
     ·refine Ev.step (fun k => by rw [api_Term_61_at52.l0]) ?_
      refine evn (by omega) (evp (by omega) ?_)
      rw [hw1, hw2]
      exact evb hr1 hr
     ·rw [h3 p, g3, g3, g3]
      repeat' split
      all_goals first | rfl | (exfalso; omega) | (congr 1; omega)
    ·have hw3 : wrap64 (wrap64 ((m : Int) + (j : Int)) - (i : Int)) = ((m + j - i : Nat) : Int) := by
      rw [w64 (n := (m : Int) + (j : Int)) (by omega) (by omega), w64] <;> omega
     obtain ⟨l1, hr1, g1, g2, g3⟩ := swr (m - i) (m + j - i) i N l (by omega) (by omega) hN hl
     have hw2 : wrap64 ((j : Int) - (i : Int)) = ((j - i : Nat) : Int) := by rw [w64] <;> omega
     obtain ⟨r, hr, h1, h2, h3⟩ := ih i (j - i) l1 (by omega) hi (by omega) him (by omega) g1
     refine ⟨r, ?_, h1, h2.trans g2, fun p => ?_⟩
     ·refine Ev.step (fun k => by rw [api_Term_61_at52.l0]) ?_
      refine evn (by omega) (evn (by omega) ?_)
      rw [hw1, hw2, hw3]
      exact evb hr1 hr
     ·rw [h3 p, g3, g3, g3]
      repeat' split
      all_goals first | rfl | (exfalso; omega) | (congr 1; omega)
theorem rot (a m b N : Nat) (l : List S44) (ham : a < m) (hmb : m < b) (hb : b ≤ N) (hN : N < 1152921504606846976) (hl : l.length = N) :
   ∃ r, Ev (fun k => api_Term_61_at52.f k l a m b) r ∧ Shuf a b l r ∧
    (∀ p, a ≤ p → p < a + (b - m) → gd r p = gd l (p + (m - a))) ∧ (∀ p, a + (b - m) ≤ p → p < b → gd r p = gd l (p - (b - m))) := by
  have hw1 : wrap64 ((m : Int) - (a : Int)) = ((m - a : Nat) : Int) := by rw [w64] <;> omega
  have hw2 : wrap64 ((b : Int) - (m : Int)) = ((b - m : Nat) : Int) := by rw [w64] <;> omega
  obtain ⟨r, hr, h1, h2, h3⟩ := rot_l0 N m hN _ (m - a) (b - m) l (Nat.le_refl _) (by omega) (by omega) (by omega) (by omega) hl
  refine ⟨r, ?_, ⟨by omega, h2, fun i hi => ?_⟩, fun p h4 h5 => ?_, fun p h4 h5 => ?_⟩
  ·unfold api_Term_61_at52.f
   rw [hw1, hw2]
   exact hr
  ·rw [h3, if_neg (by omega), if_neg (by omega)]
  ·rw [h3, if_pos (by omega)]
  ·rw [h3, if_neg (by omega), if_pos (by omega)]
end Go.Proofs.Ytikpfbfeoifmkaa.Z
end
section
namespace Go.Proofs.Ytikpfbfeoifmkaa.Z
open Go.RowKit Go.Proofs.Ytikpfbfeoifmkaa.X Go.Proofs.YtikpfbfeoifmkaaW.PrintWords Go.Proofs.YtikpfbfeoifmkaaW.PrintLast
set_option linter.unusedVariables false
set_option linter.unusedSimpArgs false
theorem halfN {i j N : Nat} (h : i + j ≤ 2 * N) (hN : N < 1152921504606846976) : wrap64 (IntKind.u64.wrap (wrap64 ((i : Int) + (j : Int))) / 2) = (((i + j) / 2 : Nat) : Int) := by
  rw [half] <;> omega
theorem sm_l1 (a b i N : Nat) (hN : N < 1152921504606846976) (hbN : b ≤ N) (hib : i ≤ b) (d : Nat) : ∀ (c : Nat) (l : List S44), i - 1 - c = d → a ≤ c → c + 1 ≤ i → l.length = N → Bd l →
   Srt l a c → Srt l (c + 1) b → (∀ p q, a ≤ p → p < c → c ≤ q → q < b → K l p ≤ K l q) → (∀ p, c + 1 ≤ p → p < i → K l p < K l c) → (∀ p, i ≤ p → p < b → K l c ≤ K l p) →
   ∃ r, Ev (fun k => api_Term_60_at52.l1 k l (i : Int) (c : Int)) r ∧ Shuf a b l r ∧ Srt r a b := by
  induction d with
  | zero =>
   intro c l hd hac hci hl hB h1 h2 h3 h4 h5
   refine ⟨l, ?_, Shuf.refl _ _ _, ?_⟩
   ·refine Ev.step (fun k => by rw [api_Term_60_at52.l1]) ?_
    rw [show wrap64 ((i : Int) - 1) = ((i - 1 : Nat) : Int) from by rw [w64] <;> omega]
    exact evn (by omega) (evr _)
   ·intro p q g0 g1 g2
    by_cases hpq : p = q
    ·rw [hpq]; exact Int.le_refl _
    ·by_cases hqc : q < c
     ·exact h1 p q g0 g1 hqc
     ·by_cases hpc : p < c
      ·exact h3 p q g0 hpc (by omega) g2
      ·by_cases hpc2 : p = c
       ·subst hpc2
        exact h5 q (by omega) g2
       ·exact h2 p q (by omega) g1 g2
  | succ d ih =>
   intro c l hd hac hci hl hB h1 h2 h3 h4 h5
   have g1 : c < l.length := by omega
   have g2 : c + 1 < l.length := by omega
   have hlt := h4 (c + 1) (by omega) (by omega)
   obtain ⟨r, hr, k1, k2⟩ := ih (c + 1) (sw l c (c + 1)) (by omega) (by omega) (by omega) (by rw [sw_length]; exact hl) (hB.perm (sw_perm g1 g2))
    (by
     intro p q e0 e1 e2
     rw [K_sw g1 g2, K_sw g1 g2, if_neg (by omega), if_neg (show ¬ c + 1 = q by omega)]
     by_cases hq : c = q
     ·rw [if_pos hq]
      by_cases hp : c = p
      ·rw [if_pos hp]; exact Int.le_refl _
      ·rw [if_neg hp]; exact h3 p (c + 1) e0 (by omega) (by omega) (by omega)
     ·rw [if_neg hq, if_neg (by omega)]
      exact h1 p q e0 e1 (by omega))
    (by
     intro p q e0 e1 e2
     rw [K_sw g1 g2, K_sw g1 g2, if_neg (by omega), if_neg (by omega), if_neg (by omega), if_neg (by omega)]
     exact h2 p q (by omega) e1 e2)
    (by
     intro p q e0 e1 e2 e3
     rw [K_sw g1 g2, K_sw g1 g2, if_neg (by omega)]
     by_cases hp : c = p
     ·rw [if_pos hp]
      by_cases hq : c + 1 = q
      ·rw [if_pos hq]; omega
      ·rw [if_neg hq, if_neg (by omega)]
       exact h2 (c + 1) q (by omega) (by omega) e3
     ·rw [if_neg hp]
      by_cases hq : c + 1 = q
      ·rw [if_pos hq]; exact h3 p c e0 (by omega) (by omega) (by omega)
      ·rw [if_neg hq, if_neg (by omega)]
       exact h3 p q e0 (by omega) (by omega) e3)
    (by
     intro p e0 e1
     rw [K_sw g1 g2, K_sw g1 g2, if_neg (by omega), if_neg (by omega), if_pos rfl]
     exact h4 p (by omega) e1)
    (by
     intro p e0 e1
     rw [K_sw g1 g2, K_sw g1 g2, if_pos rfl, if_neg (by omega), if_neg (by omega)]
     exact h5 p e0 e1)
   refine ⟨r, ?_, (Shuf.sw (by omega) (by omega) (by omega)).trans k1, k2⟩
   refine Ev.step (fun k => by rw [api_Term_60_at52.l1]) ?_
   rw [show wrap64 ((i : Int) - 1) = ((i - 1 : Nat) : Int) from by rw [w64] <;> omega]
   refine evp (by omega) ?_
   rw [show wrap64 ((c : Int) + 1) = ((c + 1 : Nat) : Int) from by rw [w64] <;> omega]
   refine evp (by omega) (evp (by omega) (evp (by omega) (evp (by omega) ?_)))
   exact hr
theorem sm_l0 (a m b N : Nat) (hN : N < 1152921504606846976) (hbN : b ≤ N) (ham : m = a + 1) (hmb : m < b) (l : List S44) (hl : l.length = N) (hB : Bd l) (hs : Srt l m b) (d : Nat) :
   ∀ (i j : Nat), j - i ≤ d → m ≤ i → i ≤ j → j ≤ b → (∀ p, m ≤ p → p < i → K l p < K l a) → (∀ p, j ≤ p → p < b → K l a ≤ K l p) →
   ∃ r, Ev (fun k => api_Term_60_at52.l0 k l (a : Int) (i : Int) (j : Int)) r ∧ Shuf a b l r ∧ Srt r a b := by
  induction d with
  | zero =>
   intro i j hd hmi hij hjb h1 h2
   obtain ⟨r, hr, k⟩ := sm_l1 a b i N hN hbN (by omega) _ a l rfl (Nat.le_refl _) (by omega) hl hB (Srt.small (by omega)) (by rw [← ham]; exact hs) (fun p q g0 g1 => by omega) (fun p g0 g1 => h1 p (by omega) g1) (fun p g0 g1 => h2 p (by omega) g1)
   refine ⟨r, ?_, k⟩
   refine Ev.step (fun k => by rw [api_Term_60_at52.l0]) ?_
   exact evn (by omega) hr
  | succ d ih =>
   intro i j hd hmi hij hjb h1 h2
   by_cases hlt : i < j
   ·have hc := cmp_ hB ((i + j) / 2) a (gd l ((i + j) / 2)).f1 (gd l a).f1
    by_cases hk : K l ((i + j) / 2) - K l a < 0
    ·obtain ⟨r, hr, k⟩ := ih ((i + j) / 2 + 1) j (by omega) (by omega) (by omega) hjb (fun p g0 g1 => by
      have := hs p ((i + j) / 2) g0 (by omega) (by omega)
      omega) h2
     refine ⟨r, ?_, k⟩
     refine Ev.step (fun k => by rw [api_Term_60_at52.l0]) ?_
     refine evp (by omega) ?_
     rw [halfN (N := N) (by omega) hN]
     refine evp (by omega) (evp (by omega) (evp (by omega) (evp (by omega) ?_)))
     rw [rd_gd, rd_gd, hc, show wrap64 ((((i + j) / 2 : Nat) : Int) + 1) = (((i + j) / 2 + 1 : Nat) : Int) from by rw [w64] <;> omega]
     exact evs (evp hk hr)
    ·obtain ⟨r, hr, k⟩ := ih i ((i + j) / 2) (by omega) hmi (by omega) (by omega) h1 (fun p g0 g1 => by
      have := hs ((i + j) / 2) p (by omega) g0 g1
      omega)
     refine ⟨r, ?_, k⟩
     refine Ev.step (fun k => by rw [api_Term_60_at52.l0]) ?_
     refine evp (by omega) ?_
     rw [halfN (N := N) (by omega) hN]
     refine evp (by omega) (evp (by omega) (evp (by omega) (evp (by omega) ?_)))
     rw [rd_gd, rd_gd, hc]
     exact evs (evn hk hr)
   ·exact ih i j (by omega) hmi hij hjb h1 h2
theorem sm_l3 (a b i N : Nat) (hN : N < 1152921504606846976) (hbN : b ≤ N) (hai : a ≤ i) (d : Nat) : ∀ (c : Nat) (l : List S44), c - i = d → i ≤ c → c < b → l.length = N → Bd l →
   Srt l a c → Srt l (c + 1) b → (∀ p q, a ≤ p → p ≤ c → c < q → q < b → K l p ≤ K l q) → (∀ p, i ≤ p → p < c → K l c < K l p) → (∀ p, a ≤ p → p < i → K l p ≤ K l c) →
   ∃ r, Ev (fun k => api_Term_60_at52.l3 k l (i : Int) (c : Int)) r ∧ Shuf a b l r ∧ Srt r a b := by
  induction d with
  | zero =>
   intro c l hd hic hcb hl hB h1 h2 h3 h4 h5
   refine ⟨l, ?_, Shuf.refl _ _ _, ?_⟩
   ·refine Ev.step (fun k => by rw [api_Term_60_at52.l3]) ?_
    exact evn (by omega) (evr _)
   ·intro p q g0 g1 g2
    by_cases hpq : p = q
    ·rw [hpq]; exact Int.le_refl _
    ·by_cases hqc : q < c
     ·exact h1 p q g0 g1 hqc
     ·by_cases hqc2 : q = c
      ·subst hqc2
       exact h5 p g0 (by omega)
      ·by_cases hpc : p ≤ c
       ·exact h3 p q g0 hpc (by omega) g2
       ·exact h2 p q (by omega) g1 g2
  | succ d ih =>
   intro c l hd hic hcb hl hB h1 h2 h3 h4 h5
   obtain ⟨c, rfl⟩ : ∃ c', c = c' + 1 := ⟨c - 1, by omega⟩
   have g1 : c < l.length := by omega
   have g2 : c + 1 < l.length := by omega
   have hlt := h4 c (by omega) (by omega)
   obtain ⟨r, hr, k1, k2⟩ := ih c (sw l (c + 1) c) (by omega) (by omega) (by omega) (by rw [sw_length]; exact hl) (hB.perm (sw_perm g2 g1))
    (by
     intro p q e0 e1 e2
     rw [K_sw g2 g1, K_sw g2 g1, if_neg (by omega), if_neg (by omega), if_neg (by omega), if_neg (by omega)]
     exact h1 p q e0 e1 (by omega))
    (by
     intro p q e0 e1 e2
     rw [K_sw g2 g1, K_sw g2 g1, if_neg (by omega), if_neg (show ¬ c = q by omega)]
     by_cases hp : c + 1 = p
     ·rw [if_pos hp]
      by_cases hq : c + 1 = q
      ·rw [if_pos hq]; exact Int.le_refl _
      ·rw [if_neg hq]; exact h3 c q (by omega) (by omega) (by omega) e2
     ·rw [if_neg hp, if_neg (by omega)]
      exact h2 p q (by omega) e1 e2)
    (by
     intro p q e0 e1 e2 e3
     rw [K_sw g2 g1, K_sw g2 g1, if_neg (show ¬ c = q by omega)]
     by_cases hp : c = p
     ·rw [if_pos hp]
      by_cases hq : c + 1 = q
      ·rw [if_pos hq]; omega
      ·rw [if_neg hq]
       exact h3 (c + 1) q (by omega) (by omega) (by omega) e3
     ·rw [if_neg hp, if_neg (by omega)]
      by_cases hq : c + 1 = q
      ·rw [if_pos hq]; exact h1 p c e0 (by omega) (by omega)
      ·rw [if_neg hq]
       exact h3 p q e0 (by omega) (by omega) e3)
    (by
     intro p e0 e1
     rw [K_sw g2 g1, K_sw g2 g1, if_pos rfl, if_neg (by omega), if_neg (by omega)]
     exact h4 p e0 (by omega))
    (by
     intro p e0 e1
     rw [K_sw g2 g1, K_sw g2 g1, if_pos rfl, if_neg (by omega), if_neg (by omega)]
     exact h5 p e0 e1)
   refine ⟨r, ?_, (Shuf.sw (by omega) (by omega) (by omega)).trans k1, k2⟩
   refine Ev.step (fun k => by rw [api_Term_60_at52.l3]) ?_
   refine evp (by omega) ?_
   rw [show wrap64 (((c + 1 : Nat) : Int) - 1) = (c : Int) from by rw [w64] <;> omega]
   refine evp (by omega) (evp (by omega) (evp (by omega) (evp (by omega) ?_)))
   exact hr
theorem sm_l2 (a m b N : Nat) (hN : N < 1152921504606846976) (hbN : b ≤ N) (hmb : b = m + 1) (ham : a < m) (l : List S44) (hl : l.length = N) (hB : Bd l) (hs : Srt l a m) (d : Nat) :
   ∀ (i j : Nat), j - i ≤ d → a ≤ i → i ≤ j → j ≤ m → (∀ p, a ≤ p → p < i → K l p ≤ K l m) → (∀ p, j ≤ p → p < m → K l m < K l p) →
   ∃ r, Ev (fun k => api_Term_60_at52.l2 k l (m : Int) (i : Int) (j : Int)) r ∧ Shuf a b l r ∧ Srt r a b := by
  induction d with
  | zero =>
   intro i j hd hmi hij hjb h1 h2
   obtain ⟨r, hr, k⟩ := sm_l3 a b i N hN hbN (by omega) _ m l rfl (by omega) (by omega) hl hB hs (Srt.small (by omega)) (fun p q g0 g1 g2 g3 => by omega) (fun p g0 g1 => h2 p (by omega) g1) (fun p g0 g1 => h1 p (by omega) g1)
   refine ⟨r, ?_, k⟩
   refine Ev.step (fun k => by rw [api_Term_60_at52.l2]) ?_
   exact evn (by omega) hr
  | succ d ih =>
   intro i j hd hmi hij hjb h1 h2
   by_cases hlt : i < j
   ·have hc := cmp_ hB m ((i + j) / 2) (gd l m).f1 (gd l ((i + j) / 2)).f1
    by_cases hk : K l m - K l ((i + j) / 2) < 0
    ·obtain ⟨r, hr, k⟩ := ih i ((i + j) / 2) (by omega) hmi (by omega) (by omega) h1 (fun p g0 g1 => by
      have := hs ((i + j) / 2) p (by omega) g0 g1
      omega)
     refine ⟨r, ?_, k⟩
     refine Ev.step (fun k => by rw [api_Term_60_at52.l2]) ?_
     refine evp (by omega) ?_
     rw [halfN (N := N) (by omega) hN]
     refine evp (by omega) (evp (by omega) (evp (by omega) (evp (by omega) ?_)))
     rw [rd_gd, rd_gd, hc]
     exact evs (evp hk hr)
    ·obtain ⟨r, hr, k⟩ := ih ((i + j) / 2 + 1) j (by omega) (by omega) (by omega) hjb (fun p g0 g1 => by
      have := hs p ((i + j) / 2) g0 (by omega) (by omega)
      omega) h2
     refine ⟨r, ?_, k⟩
     refine Ev.step (fun k => by rw [api_Term_60_at52.l2]) ?_
     refine evp (by omega) ?_
     rw [halfN (N := N) (by omega) hN]
     refine evp (by omega) (evp (by omega) (evp (by omega) (evp (by omega) ?_)))
     rw [rd_gd, rd_gd, hc, show wrap64 ((((i + j) / 2 : Nat) : Int) + 1) = (((i + j) / 2 + 1 : Nat) : Int) from by rw [w64] <;> omega]
     exact evs (evn hk hr)
   ·exact ih i j (by omega) hmi hij hjb h1 h2
end Go.Proofs.Ytikpfbfeoifmkaa.Z
end
section
namespace Go.Proofs.Ytikpfbfeoifmkaa.Z
open Go.RowKit Go.Proofs.Ytikpfbfeoifmkaa.X Go.Proofs.YtikpfbfeoifmkaaW.PrintWords Go.Proofs.YtikpfbfeoifmkaaW.PrintLast
set_option linter.unusedVariables false
set_option linter.unusedSimpArgs false
def Merges (N d : Nat) : Prop := ∀ (a m b : Nat) (l : List S44), b - a ≤ d → a < m → m < b → b ≤ N → l.length = N → Bd l → Srt l a m → Srt l m b →
  ∃ r, Ev (fun k => api_Term_60_at52.f k l (a : Int) (m : Int) (b : Int)) r ∧ Shuf a b l r ∧ Srt r a b
theorem sm_two (N d a mid b : Nat) (hd : Merges N d) (ha : a ≤ mid) (hb : mid ≤ b) (hbN : b ≤ N) (hda : mid - a ≤ d) (hdb : b - mid ≤ d) (l : List S44) (hl : l.length = N) (hB : Bd l) (s e : Nat)
   (has : a ≤ s) (hsm : s ≤ mid) (hme : mid ≤ e) (heb : e ≤ b) (h1 : Srt l a s) (h2 : Srt l s mid) (h3 : Srt l mid e) (h4 : Srt l e b) (hx : ∀ p q, a ≤ p → p < mid → mid ≤ q → q < b → K l p ≤ K l q) :
   ∃ r, Ev (fun k => api_Term_60_at52.j7 k l (a : Int) (b : Int) (mid : Int) (s : Int) (e : Int)) r ∧ Shuf a b l r ∧ Srt r a b := by
  have left : ∃ l1, Shuf a mid l l1 ∧ Srt l1 a mid ∧ ((a < s ∧ s < mid) → Ev (fun k => api_Term_60_at52.f k l (a : Int) (s : Int) (mid : Int)) l1) ∧ (¬ (a < s ∧ s < mid) → l1 = l) := by
   by_cases h : a < s ∧ s < mid
   ·obtain ⟨l1, hr, k1, k2⟩ := hd a s mid l hda h.1 h.2 (by omega) hl hB h1 h2
    exact ⟨l1, k1, k2, fun _ => hr, fun hn => absurd h hn⟩
   ·refine ⟨l, Shuf.refl _ _ _, ?_, fun hn => absurd hn h, fun _ => rfl⟩
    by_cases h5 : a = s
    ·rw [h5]; exact h2
    ·have : s = mid := by omega
     rw [← this]; exact h1
  obtain ⟨l1, k1, k2, k3, k4⟩ := left
  have hl1 : l1.length = N := by rw [k1.len]; exact hl
  have hB1 : Bd l1 := hB.perm k1.perm
  have right : ∃ r, Shuf mid b l1 r ∧ Srt r mid b ∧ ((mid < e ∧ e < b) → Ev (fun k => api_Term_60_at52.f k l1 (mid : Int) (e : Int) (b : Int)) r) ∧ (¬ (mid < e ∧ e < b) → r = l1) := by
   have g3 := k1.srt h3 (Or.inr (Nat.le_refl _))
   have g4 := k1.srt h4 (Or.inr (by omega))
   by_cases h : mid < e ∧ e < b
   ·obtain ⟨r, hr, j1, j2⟩ := hd mid e b l1 hdb h.1 h.2 hbN hl1 hB1 g3 g4
    exact ⟨r, j1, j2, fun _ => hr, fun hn => absurd h hn⟩
   ·refine ⟨l1, Shuf.refl _ _ _, ?_, fun hn => absurd hn h, fun _ => rfl⟩
    by_cases h5 : mid = e
    ·rw [h5]; exact g4
    ·have : e = b := by omega
     rw [← this]; exact g3
  obtain ⟨r, j1, j2, j3, j4⟩ := right
  refine ⟨r, ?_, (k1.mono (Nat.le_refl _) hb).trans (j1.mono ha (Nat.le_refl _)), ?_⟩
  ·have tail1 : ∀ x, x = l1 → Ev (fun k => if (mid : Int) < (e : Int) then (if (e : Int) < (b : Int) then ((api_Term_60_at52.f k x (mid : Int) (e : Int) (b : Int)).bind fun t123 => (some t123)) else (some x)) else (some x)) r := by
    rintro x rfl
    by_cases h5 : mid < e
    ·by_cases h6 : e < b
     ·exact evp (by omega) (evp (by omega) (evb (j3 ⟨h5, h6⟩) (evr _)))
     ·exact evp (by omega) (evn (by omega) (evr' (j4 (by omega)).symm))
    ·exact evn (by omega) (evr' (j4 (by omega)).symm)
   refine Ev.step (fun k => by rw [api_Term_60_at52.j7]) ?_
   by_cases h5 : a < s
   ·refine evp (by omega) ?_
    refine Ev.step (fun k => by rw [api_Term_60_at52.j8]) ?_
    by_cases h6 : s < mid
    ·refine evp (by simpa using h6) ?_
     exact evb (k3 ⟨h5, h6⟩) (tail1 l1 rfl)
    ·refine evn (by simpa using h6) ?_
     exact tail1 l (k4 (by omega)).symm
   ·refine evn (by omega) ?_
    refine Ev.step (fun k => by rw [api_Term_60_at52.j8]) ?_
    refine evn (by simp) ?_
    exact tail1 l (k4 (by omega)).symm
  ·have c1 : Srt r a mid := j1.srt k2 (Or.inl (Nat.le_refl _))
   have cx : ∀ p q, a ≤ p → p < mid → mid ≤ q → q < b → K r p ≤ K r q := by
    intro p q e0 e1 e2 e3
    have s1 : ∀ q', mid ≤ q' → q' < b → ∀ p', a ≤ p' → p' < mid → (gd l1 p').f0 ≤ (gd l q').f0 := by
     intro q' f0 f1
     exact k1.range (by omega) (P := fun t => t.f0 ≤ (gd l q').f0) (fun p' f2 f3 => hx p' q' f2 f3 f0 f1)
    have s2 : ∀ q', mid ≤ q' → q' < b → (gd l1 p).f0 ≤ (gd r q').f0 :=
     j1.range (by omega) (P := fun t => (gd l1 p).f0 ≤ t.f0) (fun q' f0 f1 => by rw [k1.out q' (Or.inr f0)]; exact s1 q' f0 f1 p e0 e1)
    have := s2 q e2 e3
    unfold K
    rw [j1.out p (Or.inl e1)]
    exact this
   intro p q e0 e1 e2
   by_cases h5 : q < mid
   ·exact c1 p q e0 e1 h5
   ·by_cases h6 : p < mid
    ·exact cx p q e0 h6 (by omega) e2
    ·exact j2 p q (by omega) e1 e2
theorem sm_rest (N d a m b : Nat) (hN : N < 576460752303423488) (hd : Merges N d) (ham : a < m) (hmb : m < b) (hbN : b ≤ N) (hdd : b - a ≤ d + 1) (hm2 : 2 ≤ m - a) (hb2 : 2 ≤ b - m) (l : List S44) (hl : l.length = N) (hB : Bd l)
   (h1 : Srt l a m) (h2 : Srt l m b) (s : Nat) (has : a ≤ s) (hsm : s ≤ m) (hs2 : s ≤ (a + b) / 2) (hse : (a + b) / 2 + m ≤ s + b)
   (hlo : ∀ q, a < s → (a + b) / 2 + m - s ≤ q → q < b → K l (s - 1) ≤ K l q) (hhi : ∀ p, m ≤ p → p < (a + b) / 2 + m - s → s < m → K l p ≤ K l s) :
   ∃ r, Ev (fun k => if (s : Int) < (m : Int) then (api_Term_60_at52.j6 k l (a : Int) (m : Int) (b : Int) (((a + b) / 2 : Nat) : Int) (s : Int) (((a + b) / 2 + m - s : Nat) : Int) (decide ((m : Int) < (((a + b) / 2 + m - s : Nat) : Int)))) else (api_Term_60_at52.j6 k l (a : Int) (m : Int) (b : Int) (((a + b) / 2 : Nat) : Int) (s : Int) (((a + b) / 2 + m - s : Nat) : Int) false)) r ∧ Shuf a b l r ∧ Srt r a b := by
  obtain ⟨mid, hmid⟩ : ∃ mid, (a + b) / 2 = mid := ⟨_, rfl⟩
  have hm0 : 2 * mid ≤ a + b ∧ a + b ≤ 2 * mid + 1 := by omega
  rw [hmid] at hs2 hse hlo hhi ⊢
  clear hmid
  obtain ⟨e, he⟩ : ∃ e, mid + m - s = e := ⟨_, rfl⟩
  have he0 : e + s = mid + m := by omega
  rw [he] at hlo hhi ⊢
  clear he
  by_cases hrot : s < m ∧ m < e
  ·obtain ⟨l1, hr1, k1, k2, k3⟩ := rot s m e N l hrot.1 hrot.2 (by omega) (by omega) hl
   have e1 : s + (e - m) = mid := by omega
   rw [e1] at k2 k3
   have sh : Shuf a b l l1 := k1.mono has (by omega)
   obtain ⟨r, hr, j1, j2⟩ := sm_two N d a mid b hd (by omega) (by omega) hbN (by omega) (by omega) l1 (by rw [k1.len]; exact hl) (hB.perm k1.perm) s e has hs2 (by omega) (by omega)
    (k1.srt (h1.mono (Nat.le_refl _) hsm) (Or.inl (Nat.le_refl _)))
    (by
     intro p q f0 f1 f2
     unfold K
     rw [k2 p f0 (by omega), k2 q (by omega) f2]
     exact h2 _ _ (by omega) (by omega) (by omega))
    (by
     intro p q f0 f1 f2
     unfold K
     rw [k3 p f0 (by omega), k3 q (by omega) f2]
     exact h1 _ _ (by omega) (by omega) (by omega))
    (k1.srt (h2.mono (by omega) (Nat.le_refl _)) (Or.inr (Nat.le_refl _)))
    (by
     intro p q f0 f1 f2 f3
     unfold K
     by_cases hp : p < s
     ·rw [k1.out p (Or.inl hp)]
      by_cases hq : q < e
      ·rw [k3 q f2 hq]
       exact h1 _ _ f0 (by omega) (by omega)
      ·rw [k1.out q (Or.inr (by omega))]
       have g1 := h1 p (s - 1) f0 (by omega) (by omega)
       have g2 := hlo q (by omega) (by omega) f3
       unfold K at g1 g2
       omega
     ·rw [k2 p (by omega) f1]
      by_cases hq : q < e
      ·rw [k3 q f2 hq]
       have g1 := hhi (p + (m - s)) (by omega) (by omega) hrot.1
       have g2 := h1 s (q - (e - m)) (by omega) (by omega) (by omega)
       unfold K at g1 g2
       omega
      ·rw [k1.out q (Or.inr (by omega))]
       exact h2 _ _ (by omega) (by omega) f3)
   refine ⟨r, ?_, sh.trans j1, j2⟩
   refine evp (by omega) ?_
   refine Ev.step (fun k => by rw [api_Term_60_at52.j6]) ?_
   refine evp (by simp; omega) ?_
   exact evb hr1 hr
  ·have hcase : s = m ∨ m = e := by omega
   obtain ⟨r, hr, j1, j2⟩ := sm_two N d a mid b hd (by omega) (by omega) hbN (by omega) (by omega) l hl hB s e has hs2 (by omega) (by omega)
    (h1.mono (Nat.le_refl _) hsm)
    (by
     intro p q f0 f1 f2
     rcases hcase with h | h
     ·exact h2 p q (by omega) f1 (by omega)
     ·exact h1 p q (by omega) f1 (by omega))
    (by
     intro p q f0 f1 f2
     rcases hcase with h | h
     ·exact h2 p q (by omega) f1 (by omega)
     ·exact h1 p q (by omega) f1 (by omega))
    (h2.mono (by omega) (Nat.le_refl _))
    (by
     intro p q f0 f1 f2 f3
     rcases hcase with h | h
     ·
      by_cases hp : p < m
      ·have g1 := h1 p (s - 1) f0 (by omega) (by omega)
       have g2 := hlo q (by omega) (by omega) f3
       omega
      ·exact h2 p q (by omega) (by omega) f3
     ·
      by_cases hq : q < m
      ·exact h1 p q f0 (by omega) hq
      ·have g1 := h1 p (s - 1) f0 (by omega) (by omega)
       have g2 := hlo q (by omega) (by omega) f3
       omega)
   refine ⟨r, ?_, j1, j2⟩
   by_cases hsm2 : s < m
   ·refine evp (by omega) ?_
    refine Ev.step (fun k => by rw [api_Term_60_at52.j6]) ?_
    exact evn (by simp; omega) hr
   ·refine evn (by omega) ?_
    refine Ev.step (fun k => by rw [api_Term_60_at52.j6]) ?_
    exact evn (by simp) hr
end Go.Proofs.Ytikpfbfeoifmkaa.Z
end
section
namespace Go.Proofs.Ytikpfbfeoifmkaa.Z
open Go.RowKit Go.Proofs.Ytikpfbfeoifmkaa.X Go.Proofs.YtikpfbfeoifmkaaW.PrintWords Go.Proofs.YtikpfbfeoifmkaaW.PrintLast
set_option linter.unusedVariables false
set_option linter.unusedSimpArgs false
theorem sm_l4 (N d a m b mid : Nat) (hN : N < 576460752303423488) (hd : Merges N d) (ham : a < m) (hmb : m < b) (hbN : b ≤ N) (hdd : b - a ≤ d + 1) (hm2 : 2 ≤ m - a) (hb2 : 2 ≤ b - m) (l : List S44) (hl : l.length = N) (hB : Bd l)
   (h1 : Srt l a m) (h2 : Srt l m b) (hmid : mid = (a + b) / 2) (s0 r0 : Nat) (hc : (s0 + b = mid + m ∧ r0 = mid ∧ mid < m) ∨ (s0 = a ∧ r0 = m ∧ m ≤ mid)) (dd : Nat) :
   ∀ (x y : Nat), y - x ≤ dd → s0 ≤ x → x ≤ y → y ≤ r0 → (∀ c, s0 ≤ c → c < x → K l c ≤ K l (mid + m - 1 - c)) → (∀ c, y ≤ c → c < r0 → K l (mid + m - 1 - c) < K l c) →
   ∃ r, Ev (fun k => api_Term_60_at52.l4 k l (a : Int) (m : Int) (b : Int) (mid : Int) ((mid + m : Nat) : Int) (x : Int) (y : Int) ((mid + m - 1 : Nat) : Int)) r ∧ Shuf a b l r ∧ Srt r a b := by
  have hm0 : 2 * mid ≤ a + b ∧ a + b ≤ 2 * mid + 1 := by omega
  induction dd with
  | zero =>
   intro x y hxy hsx hxy2 hyr hlo hhi
   obtain ⟨r, hr, k⟩ := sm_rest N d a m b hN hd ham hmb hbN hdd hm2 hb2 l hl hB h1 h2 x (by omega) (by omega) (by omega) (by omega)
    (by
     intro q f0 f1 f2
     rw [← hmid] at f1
     have g := hlo (x - 1) (by omega) (by omega)
     have e1 : mid + m - 1 - (x - 1) = mid + m - x := by omega
     rw [e1] at g
     have g2 := h2 (mid + m - x) q (by omega) f1 f2
     omega)
    (by
     intro p f0 f1 f2
     rw [← hmid] at f1
     have g := hhi x (by omega) (by omega)
     have g2 := h2 p (mid + m - 1 - x) f0 (by omega) (by omega)
     omega)
   rw [← hmid] at hr
   refine ⟨r, ?_, k⟩
   refine Ev.step (fun k => by rw [api_Term_60_at52.l4]) ?_
   refine evn (by omega) ?_
   rw [show wrap64 (((mid + m : Nat) : Int) - (x : Int)) = ((mid + m - x : Nat) : Int) from by rw [w64] <;> omega]
   exact hr
  | succ dd ih =>
   intro x y hxy hsx hxy2 hyr hlo hhi
   by_cases hlt : x < y
   ·obtain ⟨c, hcd⟩ : ∃ c, (x + y) / 2 = c := ⟨_, rfl⟩
    have hc1 : x ≤ c ∧ c < y := by omega
    have hcm := cmp_ hB (mid + m - 1 - c) c (gd l (mid + m - 1 - c)).f1 (gd l c).f1
    have hw : wrap64 (((mid + m - 1 : Nat) : Int) - (c : Int)) = ((mid + m - 1 - c : Nat) : Int) := by rw [w64] <;> omega
    by_cases hk : K l (mid + m - 1 - c) - K l c < 0
    ·obtain ⟨r, hr, k⟩ := ih x c (by omega) hsx (by omega) (by omega) hlo (fun c' f0 f1 => by
      have g1 := h1 c c' (by omega) f0 (by omega)
      have g2 := h2 (mid + m - 1 - c') (mid + m - 1 - c) (by omega) (by omega) (by omega)
      omega)
     refine ⟨r, ?_, k⟩
     refine Ev.step (fun k => by rw [api_Term_60_at52.l4]) ?_
     refine evp (by omega) ?_
     rw [halfN (N := N) (by omega) (by omega), hcd, hw]
     refine evp (by omega) (evp (by omega) (evp (by omega) (evp (by omega) ?_)))
     rw [rd_gd, rd_gd, hcm]
     exact evs (evp hk hr)
    ·obtain ⟨r, hr, k⟩ := ih (c + 1) y (by omega) (by omega) (by omega) hyr (fun c' f0 f1 => by
      have g1 := h1 c' c (by omega) (by omega) (by omega)
      have g2 := h2 (mid + m - 1 - c) (mid + m - 1 - c') (by omega) (by omega) (by omega)
      omega) hhi
     refine ⟨r, ?_, k⟩
     refine Ev.step (fun k => by rw [api_Term_60_at52.l4]) ?_
     refine evp (by omega) ?_
     rw [halfN (N := N) (by omega) (by omega), hcd, hw]
     refine evp (by omega) (evp (by omega) (evp (by omega) (evp (by omega) ?_)))
     rw [rd_gd, rd_gd, hcm, show wrap64 ((c : Int) + 1) = ((c + 1 : Nat) : Int) from by rw [w64] <;> omega]
     exact evs (evn hk hr)
   ·exact ih x y (by omega) hsx hxy2 hyr hlo hhi
theorem merges (N : Nat) (hN : N < 576460752303423488) : ∀ d, Merges N d := by
  intro d
  induction d with
  | zero => intro a m b l h0 h1 h2; omega
  | succ d ih =>
   intro a m b l hdd ham hmb hbN hl hB h1 h2
   have hw1 : wrap64 ((m : Int) - (a : Int)) = ((m - a : Nat) : Int) := by rw [w64] <;> omega
   have hw2 : wrap64 ((b : Int) - (m : Int)) = ((b - m : Nat) : Int) := by rw [w64] <;> omega
   by_cases hc1 : m = a + 1
   ·obtain ⟨r, hr, k⟩ := sm_l0 a m b N (by omega) hbN hc1 hmb l hl hB h2 _ m b (Nat.le_refl _) (Nat.le_refl _) (by omega) (Nat.le_refl _) (fun p f0 f1 => by omega) (fun p f0 f1 => by omega)
    refine ⟨r, ?_, k⟩
    refine Ev.step (fun k => by rw [api_Term_60_at52.f]) ?_
    rw [hw1]
    exact evp (by omega) hr
   ·by_cases hc2 : b = m + 1
    ·obtain ⟨r, hr, k⟩ := sm_l2 a m b N (by omega) hbN hc2 ham l hl hB h1 _ a m (Nat.le_refl _) (Nat.le_refl _) (by omega) (Nat.le_refl _) (fun p f0 f1 => by omega) (fun p f0 f1 => by omega)
     refine ⟨r, ?_, k⟩
     refine Ev.step (fun k => by rw [api_Term_60_at52.f]) ?_
     rw [hw1, hw2]
     exact evn (by omega) (evp (by omega) hr)
    ·obtain ⟨mid, hmid⟩ : ∃ mid, mid = (a + b) / 2 := ⟨_, rfl⟩
     have hm0 : 2 * mid ≤ a + b ∧ a + b ≤ 2 * mid + 1 := by omega
     by_cases hgt : mid < m
     ·obtain ⟨r, hr, k⟩ := sm_l4 N d a m b mid hN ih ham hmb hbN hdd (by omega) (by omega) l hl hB h1 h2 hmid (mid + m - b) mid (Or.inl ⟨by omega, rfl, hgt⟩) _ (mid + m - b) mid (Nat.le_refl _) (Nat.le_refl _) (by omega) (Nat.le_refl _) (fun c f0 f1 => by omega) (fun c f0 f1 => by omega)
      refine ⟨r, ?_, k⟩
      refine Ev.step (fun k => by rw [api_Term_60_at52.f]) ?_
      rw [hw1, hw2, halfN (N := N) (by omega) (by omega), ← hmid]
      refine evn (by omega) (evn (by omega) (evp (by omega) ?_))
      rw [show wrap64 ((mid : Int) + (m : Int)) = ((mid + m : Nat) : Int) from by rw [w64] <;> omega, show wrap64 (((mid + m : Nat) : Int) - (b : Int)) = ((mid + m - b : Nat) : Int) from by rw [w64] <;> omega]
      refine Ev.step (fun k => by rw [api_Term_60_at52.j4]) ?_
      rw [show wrap64 (((mid + m : Nat) : Int) - 1) = ((mid + m - 1 : Nat) : Int) from by rw [w64] <;> omega]
      exact hr
     ·obtain ⟨r, hr, k⟩ := sm_l4 N d a m b mid hN ih ham hmb hbN hdd (by omega) (by omega) l hl hB h1 h2 hmid a m (Or.inr ⟨rfl, rfl, by omega⟩) _ a m (Nat.le_refl _) (Nat.le_refl _) (by omega) (Nat.le_refl _) (fun c f0 f1 => by omega) (fun c f0 f1 => by omega)
      refine ⟨r, ?_, k⟩
      refine Ev.step (fun k => by rw [api_Term_60_at52.f]) ?_
      rw [hw1, hw2, halfN (N := N) (by omega) (by omega), ← hmid]
      refine evn (by omega) (evn (by omega) (evn (by omega) ?_))
      rw [show wrap64 ((mid : Int) + (m : Int)) = ((mid + m : Nat) : Int) from by rw [w64] <;> omega]
      refine Ev.step (fun k => by rw [api_Term_60_at52.j4]) ?_
      rw [show wrap64 (((mid + m : Nat) : Int) - 1) = ((mid + m - 1 : Nat) : Int) from by rw [w64] <;> omega]
      exact hr
def Blks (l : List S44) (s c n : Nat) : Prop := ∀ q, c ≤ q → Srt l (q * s) (min ((q + 1) * s) n)
theorem st_l0 (n : Nat) (hn : n < 288230376151711744) (rest : ∀ l : List S44, l.length = n → Bd l → Blks l 20 0 n → ∃ r, Ev (fun k => api_Term_58_at52.l1 k l (n : Int) 20) r ∧ r.Perm l ∧ Srt r 0 n) (d : Nat) :
   ∀ (c : Nat) (l : List S44), n - c * 20 ≤ d → c * 20 ≤ n → l.length = n → Bd l → (∀ q, q < c → Srt l (q * 20) (min ((q + 1) * 20) n)) →
   ∃ r, Ev (fun k => api_Term_58_at52.l0 k l (n : Int) 20 ((c * 20 : Nat) : Int) ((c * 20 + 20 : Nat) : Int)) r ∧ r.Perm l ∧ Srt r 0 n := by
  induction d with
  | zero =>
   intro c l hd hcn hl hB hs
   obtain ⟨l1, hr1, k1, k2⟩ := ins_sorts (c * 20) n n l hcn (Nat.le_refl _) (by omega) hl hB
   obtain ⟨r, hr, h1, h2⟩ := rest l1 (by rw [k1.len]; exact hl) (hB.perm k1.perm) (by
    intro q _
    by_cases hq : q < c
    ·exact k1.srt (hs q hq) (Or.inl (by omega))
    ·by_cases hq2 : q = c
     ·subst hq2
      exact k2.mono (Nat.le_refl _) (by omega)
     ·exact Srt.small (by omega))
   refine ⟨r, ?_, h1.trans k1.perm, h2⟩
   refine Ev.step (fun k => by rw [api_Term_58_at52.l0]) ?_
   exact evn (by omega) (evb hr1 hr)
  | succ d ih =>
   intro c l hd hcn hl hB hs
   by_cases hlt : c * 20 + 20 ≤ n
   ·obtain ⟨l1, hr1, k1, k2⟩ := ins_sorts (c * 20) (c * 20 + 20) n l (by omega) hlt (by omega) hl hB
    obtain ⟨r, hr, h1, h2⟩ := ih (c + 1) l1 (by omega) (by omega) (by rw [k1.len]; exact hl) (hB.perm k1.perm) (by
     intro q hq
     by_cases hq2 : q = c
     ·subst hq2
      exact k2.mono (Nat.le_refl _) (by omega)
     ·exact k1.srt (hs q (by omega)) (Or.inl (by omega)))
    refine ⟨r, ?_, h1.trans k1.perm, h2⟩
    refine Ev.step (fun k => by rw [api_Term_58_at52.l0]) ?_
    refine evp (by omega) (evb hr1 ?_)
    rw [show wrap64 (((c * 20 + 20 : Nat) : Int) + 20) = (((c + 1) * 20 + 20 : Nat) : Int) from by rw [w64] <;> omega]
    rw [show ((c * 20 + 20 : Nat) : Int) = (((c + 1) * 20 : Nat) : Int) from by omega]
    exact hr
   ·obtain ⟨l1, hr1, k1, k2⟩ := ins_sorts (c * 20) n n l hcn (Nat.le_refl _) (by omega) hl hB
    obtain ⟨r, hr, h1, h2⟩ := rest l1 (by rw [k1.len]; exact hl) (hB.perm k1.perm) (by
     intro q _
     by_cases hq : q < c
     ·exact k1.srt (hs q hq) (Or.inl (by omega))
     ·by_cases hq2 : q = c
      ·subst hq2
       exact k2.mono (Nat.le_refl _) (by omega)
      ·exact Srt.small (by omega))
    refine ⟨r, ?_, h1.trans k1.perm, h2⟩
    refine Ev.step (fun k => by rw [api_Term_58_at52.l0]) ?_
    exact evn (by omega) (evb hr1 hr)
theorem st_l2 (n s : Nat) (hn : n < 288230376151711744) (hs0 : 0 < s) (hsn : s < n) (rest : ∀ l : List S44, l.length = n → Bd l → Blks l (s * 2) 0 n → ∃ r, Ev (fun k => api_Term_58_at52.l1 k l (n : Int) ((s * 2 : Nat) : Int)) r ∧ r.Perm l ∧ Srt r 0 n) (d : Nat) :
   ∀ (c a : Nat) (l : List S44), a = c * (s * 2) → n + 1 - a ≤ d → a ≤ n → l.length = n → Bd l → (∀ q, q < c → Srt l (q * (s * 2)) (min ((q + 1) * (s * 2)) n)) → Blks l s (c * 2) n →
   ∃ r, Ev (fun k => api_Term_58_at52.l2 k l (n : Int) (s : Int) (a : Int) ((a + 2 * s : Nat) : Int)) r ∧ r.Perm l ∧ Srt r 0 n := by
  induction d with
  | zero => intro c a l ha hd hcn; omega
  | succ d ih =>
   intro c a l ha hd hcn hl hB hs hb
   have hcs : (c + 1) * (s * 2) = a + 2 * s := by rw [Nat.add_mul, ← ha, Nat.one_mul, Nat.mul_comm s 2]
   have e1 : c * 2 * s = a := by rw [ha, Nat.mul_assoc, Nat.mul_comm 2 s]
   have e2 : (c * 2 + 1) * s = a + s := by rw [Nat.add_mul, e1, Nat.one_mul]
   have e3 : (c * 2 + 1 + 1) * s = a + s + s := by rw [Nat.add_mul, e2, Nat.one_mul]
   have b1 := hb (c * 2) (Nat.le_refl _)
   have b2 := hb (c * 2 + 1) (by omega)
   rw [e1, e2] at b1
   rw [e2, e3] at b2
   have le_a : ∀ q, q < c → (q + 1) * (s * 2) ≤ a := fun q hq => by rw [ha]; exact Nat.mul_le_mul_right _ hq
   by_cases hlt : a + 2 * s ≤ n
   ·obtain ⟨l1, hr1, k1, k2⟩ := merges n (by omega) _ a (a + s) (a + 2 * s) l (Nat.le_refl _) (by omega) (by omega) hlt hl hB (b1.mono (Nat.le_refl _) (by omega)) (b2.mono (Nat.le_refl _) (by omega))
    obtain ⟨r, hr, h1, h2⟩ := ih (c + 1) (a + 2 * s) l1 hcs.symm (by omega) hlt (by rw [k1.len]; exact hl) (hB.perm k1.perm) (by
     intro q hq
     by_cases hq2 : q = c
     ·subst hq2
      rw [hcs, ← ha]
      exact k2.mono (Nat.le_refl _) (by omega)
     ·have := le_a q (by omega)
      exact k1.srt (hs q (by omega)) (Or.inl (by omega)))
     (by
      intro q hq
      have : a + 2 * s ≤ q * s := by
       have h3 : (c + 1) * 2 * s ≤ q * s := Nat.mul_le_mul_right _ hq
       have h4 : (c + 1) * 2 * s = a + 2 * s := by rw [← hcs, Nat.mul_assoc, Nat.mul_comm 2 s]
       omega
      exact k1.srt (hb q (by omega)) (Or.inr this))
    refine ⟨r, ?_, h1.trans k1.perm, h2⟩
    refine Ev.step (fun k => by rw [api_Term_58_at52.l2]) ?_
    refine evp (by omega) ?_
    rw [show wrap64 ((a : Int) + (s : Int)) = ((a + s : Nat) : Int) from by rw [w64] <;> omega]
    refine evb hr1 ?_
    rw [show wrap64 (2 * (s : Int)) = ((2 * s : Nat) : Int) from by rw [w64] <;> omega, show wrap64 (((a + 2 * s : Nat) : Int) + ((2 * s : Nat) : Int)) = ((a + 2 * s + 2 * s : Nat) : Int) from by rw [w64] <;> omega]
    exact hr
   ·by_cases hlast : a + s < n
    ·obtain ⟨l1, hr1, k1, k2⟩ := merges n (by omega) _ a (a + s) n l (Nat.le_refl _) (by omega) hlast (Nat.le_refl _) hl hB (b1.mono (Nat.le_refl _) (by omega)) (b2.mono (Nat.le_refl _) (by omega))
     obtain ⟨r, hr, h1, h2⟩ := rest l1 (by rw [k1.len]; exact hl) (hB.perm k1.perm) (by
      intro q _
      by_cases hq : q < c
      ·have := le_a q hq
       exact k1.srt (hs q hq) (Or.inl (by omega))
      ·by_cases hq2 : q = c
       ·subst hq2
        rw [hcs, ← ha]
        exact k2.mono (Nat.le_refl _) (by omega)
       ·have h3 : (c + 1) * (s * 2) ≤ q * (s * 2) := Nat.mul_le_mul_right _ (by omega)
        exact Srt.small (by omega))
     refine ⟨r, ?_, h1.trans k1.perm, h2⟩
     refine Ev.step (fun k => by rw [api_Term_58_at52.l2]) ?_
     refine evn (by omega) ?_
     rw [show wrap64 ((a : Int) + (s : Int)) = ((a + s : Nat) : Int) from by rw [w64] <;> omega, show wrap64 ((s : Int) * 2) = ((s * 2 : Nat) : Int) from by rw [w64] <;> omega]
     exact evp (by omega) (evb hr1 hr)
    ·obtain ⟨r, hr, h1, h2⟩ := rest l hl hB (by
      intro q _
      by_cases hq : q < c
      ·exact hs q hq
      ·by_cases hq2 : q = c
       ·subst hq2
        rw [hcs, ← ha]
        exact b1.mono (Nat.le_refl _) (by omega)
       ·have h3 : (c + 1) * (s * 2) ≤ q * (s * 2) := Nat.mul_le_mul_right _ (by omega)
        exact Srt.small (by omega))
     refine ⟨r, ?_, h1, h2⟩
     refine Ev.step (fun k => by rw [api_Term_58_at52.l2]) ?_
     refine evn (by omega) ?_
     rw [show wrap64 ((a : Int) + (s : Int)) = ((a + s : Nat) : Int) from by rw [w64] <;> omega, show wrap64 ((s : Int) * 2) = ((s * 2 : Nat) : Int) from by rw [w64] <;> omega]
     exact evn (by omega) hr
theorem st_l1 (n : Nat) (hn : n < 288230376151711744) (d : Nat) : ∀ (s : Nat) (l : List S44), n - s ≤ d → 0 < s → s ≤ 2 * n + 20 → l.length = n → Bd l → Blks l s 0 n →
   ∃ r, Ev (fun k => api_Term_58_at52.l1 k l (n : Int) (s : Int)) r ∧ r.Perm l ∧ Srt r 0 n := by
  induction d with
  | zero =>
   intro s l hd hs0 hs2 hl hB hb
   refine ⟨l, ?_, List.Perm.refl _, ?_⟩
   ·refine Ev.step (fun k => by rw [api_Term_58_at52.l1]) ?_
    exact evn (by omega) (evr _)
   ·have := hb 0 (Nat.le_refl _)
    rw [Nat.zero_mul, Nat.zero_add, Nat.one_mul] at this
    exact this.mono (Nat.le_refl _) (by omega)
  | succ d ih =>
   intro s l hd hs0 hs2 hl hB hb
   by_cases hlt : s < n
   ·obtain ⟨r, hr, h1, h2⟩ := st_l2 n s hn hs0 hlt (fun l hl hB hb => ih (s * 2) l (by omega) (by omega) (by omega) hl hB hb) _ 0 0 l (by omega) (Nat.le_refl _) (by omega) hl hB (fun q hq => by omega) hb
    refine ⟨r, ?_, h1, h2⟩
    refine Ev.step (fun k => by rw [api_Term_58_at52.l1]) ?_
    refine evp (by omega) ?_
    rw [show wrap64 (2 * (s : Int)) = ((0 + 2 * s : Nat) : Int) from by rw [w64] <;> omega]
    exact hr
   ·exact ih s l (by omega) hs0 hs2 hl hB hb
theorem sort_terms (l : List S44) (hn : l.length < 288230376151711744) (hB : Bd l) :
   ∃ r, Ev (fun k => api_Term_51_at52.f k l) r ∧ r.Perm l ∧ Srt r 0 l.length := by
  obtain ⟨r, hr, h1, h2⟩ := st_l0 l.length hn (fun l' hl hB hb => by
   by_cases h0 : l.length = 0
   ·exact st_l1 l.length hn _ 20 l' (Nat.le_refl _) (by omega) (by omega) hl hB hb
   ·exact st_l1 l.length hn _ 20 l' (Nat.le_refl _) (by omega) (by omega) hl hB hb) _ 0 l (Nat.le_refl _) (by omega) rfl hB (fun q hq => by omega)
  refine ⟨r, ?_, h1, h2⟩
  unfold api_Term_51_at52.f api_Term_58_at52.f
  exact evb hr (evr _)
end Go.Proofs.Ytikpfbfeoifmkaa.Z
end
section
namespace Go.Proofs.Ytikpfbfeoifmkaa.Z
open Go.RowKit Go.Proofs.Ytikpfbfeoifmkaa.X Go.Proofs.YtikpfbfeoifmkaaW.PrintWords Go.Proofs.YtikpfbfeoifmkaaW.PrintLast
set_option linter.unusedVariables false
set_option linter.unusedSimpArgs false
def nz (t : S44) : Bool := !(t.f1 == 0)
theorem take_succ_gd {l : List S44} {j : Nat} (h : j < l.length) : l.take (j + 1) = l.take j ++ [gd l j] := by
  rw [List.take_succ_eq_append_getElem h, gd_lt h]
theorem ix54_l0 (l : List S44) (hl : l.length < 1152921504606846976) (d : Nat) : ∀ (i : Nat), l.length - i = d → i ≤ l.length → (∀ p, p < i → nz (gd l p) = true) →
   ∃ r : Int, Ev (fun k => api_Term_49_at54.l0 k l (l.length : Int) (i : Int)) r ∧ ((r = -1 ∧ ∀ p, p < l.length → nz (gd l p) = true) ∨ ∃ q : Nat, r = q ∧ q < l.length ∧ nz (gd l q) = false ∧ ∀ p, p < q → nz (gd l p) = true) := by
  induction d with
  | zero =>
   intro i hd hi h
   refine ⟨-1, ?_, Or.inl ⟨rfl, fun p hp => h p (by omega)⟩⟩
   refine Ev.step (fun k => by rw [api_Term_49_at54.l0]) ?_
   exact evn (by omega) (evr _)
  | succ d ih =>
   intro i hd hi h
   have hf : ∀ x y, fact_gather_2.f x y = some (y == 0) := fun x y => rfl
   by_cases hz : nz (gd l i) = true
   ·obtain ⟨r, hr, k⟩ := ih (i + 1) (by omega) (by omega) (fun p hp => by
     by_cases e : p = i
     ·rw [e]; exact hz
     ·exact h p (by omega))
    refine ⟨r, ?_, k⟩
    refine Ev.step (fun k => by rw [api_Term_49_at54.l0]) ?_
    refine evp (by omega) (evp (by omega) (evp (by omega) ?_))
    rw [rd_gd, hf]
    refine evs (evn (by unfold nz at hz; simpa using hz) ?_)
    rw [show wrap64 ((i : Int) + 1) = ((i + 1 : Nat) : Int) from by rw [w64] <;> omega]
    exact hr
   ·refine ⟨i, ?_, Or.inr ⟨i, rfl, by omega, by simpa using hz, h⟩⟩
    refine Ev.step (fun k => by rw [api_Term_49_at54.l0]) ?_
    refine evp (by omega) (evp (by omega) (evp (by omega) ?_))
    rw [rd_gd, hf]
    exact evs (evp (by unfold nz at hz; simpa using hz) (evr _))
theorem filter_all {l : List S44} (h : ∀ p, p < l.length → nz (gd l p) = true) : l.filter nz = l := by
  rw [List.filter_eq_self]
  intro t ht
  obtain ⟨i, hi, rfl⟩ := List.mem_iff_getElem.1 ht
  have := h i hi
  rwa [gd_lt hi] at this
theorem del_l0 (l : List S44) (hl : l.length < 1152921504606846976) (d : Nat) : ∀ (i j : Nat) (x : List S44), l.length - j = d → i < j → j ≤ l.length → x.length = l.length → x.take i = (l.take j).filter nz → x.drop j = l.drop j →
   Ev (fun k => api_Term_53_at54.l0 k x (i : Int) (j : Int)) (l.filter nz) := by
  induction d with
  | zero =>
   intro i j x hd hij hj hx h1 h2
   refine Ev.step (fun k => by rw [api_Term_53_at54.l0]) ?_
   refine evn (by omega) (evp (by omega) (evp (by omega) (evr' ?_)))
   rw [List.take_of_length_le (l := l) (i := j) (by omega)] at h1
   rw [Int.toNat_natCast, List.take_append_of_le_length (by rw [List.length_take]; omega), List.take_take, Nat.min_self, h1]
  | succ d ih =>
   intro i j x hd hij hj hx h1 h2
   have hf : ∀ x y, fact_gather_2.f x y = some (y == 0) := fun x y => rfl
   have hxj : gd x j = gd l j := by
    have : (x.drop j)[0]? = (l.drop j)[0]? := by rw [h2]
    rw [List.getElem?_drop, List.getElem?_drop, Nat.add_zero] at this
    simp only [gd, List.getD_eq_getElem?_getD, this]
   have hj1 : j < l.length := by omega
   by_cases hz : nz (gd l j) = true
   ·have g := ih (i + 1) (j + 1) (x.set i (gd x j)) (by omega) (by omega) (by omega) (by rw [List.length_set]; exact hx)
     (by
      rw [take_succ_gd hj1, List.filter_append, ← h1, take_succ_gd (by rw [List.length_set]; omega), gd_set _ _ (by omega), if_pos rfl, List.take_set_of_le (Nat.le_refl _)]
      rw [hxj, List.filter_cons, if_pos hz, List.filter_nil])
     (by
      rw [List.drop_set_of_lt (by omega)]
      have : (x.drop j).drop 1 = (l.drop j).drop 1 := by rw [h2]
      rwa [List.drop_drop, List.drop_drop] at this)
    refine Ev.step (fun k => by rw [api_Term_53_at54.l0]) ?_
    refine evp (by omega) (evp (by omega) ?_)
    rw [rd_gd, hf]
    refine evs (evn (by unfold nz at hz; rw [hxj]; simpa using hz) (evp (by omega) (evp (by omega) ?_)))
    rw [show wrap64 ((i : Int) + 1) = ((i + 1 : Nat) : Int) from by rw [w64] <;> omega, show wrap64 ((j : Int) + 1) = ((j + 1 : Nat) : Int) from by rw [w64] <;> omega]
    exact g
   ·have g := ih i (j + 1) x (by omega) (by omega) (by omega) hx
     (by
      rw [take_succ_gd hj1, List.filter_append, ← h1, List.filter_cons, if_neg hz, List.filter_nil, List.append_nil])
     (by
      have : (x.drop j).drop 1 = (l.drop j).drop 1 := by rw [h2]
      rwa [List.drop_drop, List.drop_drop] at this)
    refine Ev.step (fun k => by rw [api_Term_53_at54.l0]) ?_
    refine evp (by omega) (evp (by omega) ?_)
    rw [rd_gd, hf]
    refine evs (evp (by unfold nz at hz; rw [hxj]; simpa using hz) ?_)
    rw [show wrap64 ((j : Int) + 1) = ((j + 1 : Nat) : Int) from by rw [w64] <;> omega]
    exact g
theorem delete_zeros (l : List S44) (hl : l.length < 1152921504606846976) : Ev (fun k => api_Term_53_at54.f k l) (l.filter nz) := by
  unfold api_Term_53_at54.f api_Term_49_at54.f
  obtain ⟨r, hr, k⟩ := ix54_l0 l hl _ 0 rfl (Nat.zero_le _) (fun p hp => by omega)
  refine evb hr ?_
  rcases k with ⟨rfl, k⟩ | ⟨q, rfl, hq, k1, k2⟩
  ·exact evp rfl (evr' (filter_all k).symm)
  ·refine evn (by omega) ?_
   rw [show wrap64 ((q : Int) + 1) = ((q + 1 : Nat) : Int) from by rw [w64] <;> omega]
   refine del_l0 l hl _ q (q + 1) l rfl (by omega) (by omega) rfl ?_ rfl
   rw [take_succ_gd hq, List.filter_append, List.filter_cons, if_neg (by simp [k1]), List.filter_nil, List.append_nil]
   have := filter_all (l := l.take q) (fun p hp => by
    rw [List.length_take] at hp
    have h1 := k2 p (by omega)
    rw [gd_lt (by omega)] at h1
    rw [gd_lt (by rw [List.length_take]; omega), List.getElem_take]
    exact h1)
   exact this.symm
def Sm (l : List S44) : Prop := ∀ t ∈ l, -1048576 ≤ t.f1 ∧ t.f1 ≤ 1048576
theorem Sm.gd {l : List S44} (h : Sm l) (i : Nat) : -1048576 ≤ (gd l i).f1 ∧ (gd l i).f1 ≤ 1048576 := by
  by_cases hi : i < l.length
  ·rw [gd_lt hi]
   exact h _ (by simp)
  ·rw [gd_ge (by omega)]
   simp [z44]
def Last (L o : List S44) (t : Nat) : Prop := 0 < t → ∃ o' x, o = o' ++ [x] ∧ x.f0 = K L (t - 1)
theorem ga_l0 (L : List S44) (hL : L.length ≤ 1024) (hs : Srt L 0 L.length) (hSm : Sm L) (d : Nat) : ∀ (t : Nat) (o : List S44), L.length - t = d → t ≤ L.length → o.length ≤ t →
   (o.Pairwise fun x y => x.f0 < y.f0) → (∀ b, cf o b = cf (L.take t) b) → (∀ x ∈ o, -(t * 1048576 : Int) ≤ x.f1 ∧ x.f1 ≤ t * 1048576) → (∀ x ∈ o, ∃ p, p < t ∧ x.f0 = K L p) → Last L o t →
   ∃ r, Ev (fun k => fact_gather.l0 k L o L (L.length : Int) (t : Int)) r ∧ Canon r (cf L) ∧ (∀ x ∈ r, ∃ p, p < L.length ∧ x.f0 = K L p) ∧ r.length ≤ L.length ∧ (∀ x ∈ r, -1073741824 ≤ x.f1 ∧ x.f1 ≤ 1073741824) := by
  induction d with
  | zero =>
   intro t o hd ht hol hinc hcf hb hk hlast
   rw [List.take_of_length_le (by omega)] at hcf
   refine ⟨o.filter nz, ?_, Canon.filter hinc hcf, fun x hx => ?_, Nat.le_trans (List.length_filter_le _ _) (by omega), fun x hx => ?_⟩
   ·refine Ev.step (fun k => by rw [fact_gather.l0]) ?_
    refine evn (by omega) ?_
    exact evb (delete_zeros o (by omega)) (evr _)
   ·obtain ⟨p, h1, h2⟩ := hk x (List.mem_filter.1 hx).1
    exact ⟨p, by omega, h2⟩
   ·have := hb x (List.mem_filter.1 hx).1
    omega
  | succ d ih =>
   intro t o hd ht hol hinc hcf hb hk hlast
   have ht1 : t < L.length := by omega
   have htake : ∀ b, cf (L.take (t + 1)) b = cf (L.take t) b + (if (gd L t).f0 = b then (gd L t).f1 else 0) := fun b => by
    rw [take_succ_gd ht1, cf_append, cf_single]
   have hsm := hSm.gd t
   have hnew : (∀ x ∈ o, x.f0 < (gd L t).f0) → ∃ r, Ev (fun k => fact_gather.l0 k L (o ++ [gd L t]) L (L.length : Int) ((t + 1 : Nat) : Int)) r ∧ Canon r (cf L) ∧ (∀ x ∈ r, ∃ p, p < L.length ∧ x.f0 = K L p) ∧ r.length ≤ L.length ∧ (∀ x ∈ r, -1073741824 ≤ x.f1 ∧ x.f1 ≤ 1073741824) := by
    intro hlt
    refine ih (t + 1) (o ++ [gd L t]) (by omega) (by omega) (by simp; omega) ?_ (fun b => ?_) (fun x hx => ?_) (fun x hx => ?_) (fun _ => ⟨o, gd L t, rfl, rfl⟩)
    ·rw [List.pairwise_append]
     exact ⟨hinc, List.pairwise_singleton _ _, fun x hx y hy => by rw [List.mem_singleton.1 hy]; exact hlt x hx⟩
    ·rw [cf_append, cf_single, hcf, htake]
    ·rcases List.mem_append.1 hx with hx | hx
     ·have := hb x hx
      omega
     ·rw [List.mem_singleton.1 hx]
      omega
    ·rcases List.mem_append.1 hx with hx | hx
     ·obtain ⟨p, h1, h2⟩ := hk x hx
      exact ⟨p, by omega, h2⟩
     ·rw [List.mem_singleton.1 hx]
      exact ⟨t, by omega, rfl⟩
   by_cases h0 : t = 0
   ·subst h0
    have ho : o = [] := List.eq_nil_of_length_eq_zero (by omega)
    subst ho
    obtain ⟨r, hr, k⟩ := hnew (by simp)
    refine ⟨r, ?_, k⟩
    refine Ev.step (fun k => by rw [fact_gather.l0]) ?_
    refine evp (by omega) (evp (by omega) (evp (by omega) (evn (by omega) (evp (by simp) ?_))))
    rw [show wrap64 (((0 : Nat) : Int) + 1) = ((0 + 1 : Nat) : Int) from by rw [w64] <;> omega]
    exact hr
   ·obtain ⟨o', x, ho, hx⟩ := hlast (by omega)
    have hKt : K L (t - 1) ≤ K L t := hs (t - 1) t (by omega) (by omega) ht1
    have hpre : Ev (fun k => if (gd L (t - 1)).f0 = (gd L t).f0 then (if 0 ≤ (wrap64 ((o.length : Int) - 1)) then (if (wrap64 ((o.length : Int) - 1)) < (o.length : Int) then (fact_gather.l0 k L (o.set ((wrap64 ((o.length : Int) - 1)) : Int).toNat (⟨(rd_T44 o (wrap64 ((o.length : Int) - 1))).f0, wrap64 (((rd_T44 o (wrap64 ((o.length : Int) - 1))).f1) + ((gd L t).f1))⟩ : S44)) L (L.length : Int) ((t + 1 : Nat) : Int)) else (none)) else (none)) else (if o.length < 8796093022208 then (fact_gather.l0 k L (o ++ [(⟨(gd L t).f0, (gd L t).f1⟩ : S44)]) L (L.length : Int) ((t + 1 : Nat) : Int)) else (none))) = Ev (fun k => if (gd L (t - 1)).f0 = (gd L t).f0 then (if 0 ≤ (wrap64 ((o.length : Int) - 1)) then (if (wrap64 ((o.length : Int) - 1)) < (o.length : Int) then (fact_gather.l0 k L (o.set ((wrap64 ((o.length : Int) - 1)) : Int).toNat (⟨(rd_T44 o (wrap64 ((o.length : Int) - 1))).f0, wrap64 (((rd_T44 o (wrap64 ((o.length : Int) - 1))).f1) + ((gd L t).f1))⟩ : S44)) L (L.length : Int) ((t + 1 : Nat) : Int)) else (none)) else (none)) else (if o.length < 8796093022208 then (fact_gather.l0 k L (o ++ [gd L t]) L (L.length : Int) ((t + 1 : Nat) : Int)) else (none))) := rfl
    have key : ∃ r, Ev (fun k => if (gd L (t - 1)).f0 = (gd L t).f0 then (if 0 ≤ (wrap64 ((o.length : Int) - 1)) then (if (wrap64 ((o.length : Int) - 1)) < (o.length : Int) then (fact_gather.l0 k L (o.set ((wrap64 ((o.length : Int) - 1)) : Int).toNat (⟨(rd_T44 o (wrap64 ((o.length : Int) - 1))).f0, wrap64 (((rd_T44 o (wrap64 ((o.length : Int) - 1))).f1) + ((gd L t).f1))⟩ : S44)) L (L.length : Int) ((t + 1 : Nat) : Int)) else (none)) else (none)) else (if o.length < 8796093022208 then (fact_gather.l0 k L (o ++ [gd L t]) L (L.length : Int) ((t + 1 : Nat) : Int)) else (none))) r ∧ Canon r (cf L) ∧ (∀ x ∈ r, ∃ p, p < L.length ∧ x.f0 = K L p) ∧ r.length ≤ L.length ∧ (∀ x ∈ r, -1073741824 ≤ x.f1 ∧ x.f1 ≤ 1073741824) := by
     by_cases he : (gd L (t - 1)).f0 = (gd L t).f0
     ·have hol1 : o.length = o'.length + 1 := by rw [ho]; simp
      have hw : wrap64 ((o.length : Int) - 1) = ((o'.length : Nat) : Int) := by rw [w64] <;> omega
      have hgx : gd o o'.length = x := by
       rw [gd_lt (by omega)]
       simp [ho]
      have hbx := hb x (by rw [ho]; simp)
      have hw2 : wrap64 (x.f1 + (gd L t).f1) = x.f1 + (gd L t).f1 := by rw [w64] <;> omega
      have hset : o.set o'.length (⟨x.f0, x.f1 + (gd L t).f1⟩ : S44) = o' ++ [⟨x.f0, x.f1 + (gd L t).f1⟩] := by
       rw [ho, List.set_append_right _ _ (Nat.le_refl _), Nat.sub_self]
       rfl
      have hKx : x.f0 = (gd L t).f0 := by rw [hx]; exact he
      have hinc' := hinc
      rw [ho, List.pairwise_append] at hinc'
      obtain ⟨r, hr, k⟩ := ih (t + 1) (o' ++ [⟨x.f0, x.f1 + (gd L t).f1⟩]) (by omega) (by omega) (by simp; omega)
       (by
        rw [List.pairwise_append]
        exact ⟨hinc'.1, List.pairwise_singleton _ _, fun y hy z hz => by rw [List.mem_singleton.1 hz]; exact hinc'.2.2 y hy x (by simp)⟩)
       (fun b => by
        have h1 := hcf b
        rw [ho, cf_append, cf_single] at h1
        rw [cf_append, cf_single, htake, ← h1]
        show _ + (if x.f0 = b then x.f1 + (gd L t).f1 else 0) = _
        rw [hKx]
        split <;> omega)
       (fun y hy => by
        rcases List.mem_append.1 hy with hy | hy
        ·have := hb y (by rw [ho]; simp [hy])
         omega
        ·rw [List.mem_singleton.1 hy]
         show _ ≤ x.f1 + (gd L t).f1 ∧ x.f1 + (gd L t).f1 ≤ _
         omega)
       (fun y hy => by
        rcases List.mem_append.1 hy with hy | hy
        ·obtain ⟨p, h1, h2⟩ := hk y (by rw [ho]; simp [hy])
         exact ⟨p, by omega, h2⟩
        ·rw [List.mem_singleton.1 hy]
         exact ⟨t, by omega, hKx⟩)
       (fun _ => ⟨o', _, rfl, hKx⟩)
      refine ⟨r, evp he ?_, k⟩
      rw [hw]
      refine evp (by omega) (evp (by omega) ?_)
      rw [rd_gd, hgx, hw2, Int.toNat_natCast, hset]
      exact hr
     ·obtain ⟨r, hr, k⟩ := hnew (by
       intro y hy
       rw [ho] at hy hinc
       have hlt : K L (t - 1) < (gd L t).f0 := by
        unfold K at hKt
        unfold K
        omega
       rcases List.mem_append.1 hy with hy | hy
       ·have := (List.pairwise_append.1 hinc).2.2 y hy x (by simp)
        omega
       ·rw [List.mem_singleton.1 hy]
        omega)
      exact ⟨r, evn he (evp (by omega) hr), k⟩
    obtain ⟨r, hr, k⟩ := key
    refine ⟨r, ?_, k⟩
    refine Ev.step (fun k => by rw [fact_gather.l0]) ?_
    refine evp (by omega) (evp (by omega) (evp (by omega) (evp (by omega) ?_)))
    rw [show wrap64 ((t : Int) - 1) = ((t - 1 : Nat) : Int) from by rw [w64] <;> omega]
    refine evp (by omega) (evp (by omega) ?_)
    rw [rd_gd, rd_gd, show wrap64 ((t : Int) + 1) = ((t + 1 : Nat) : Int) from by rw [w64] <;> omega]
    exact hr
theorem gathers (l : List S44) (hl : l.length ≤ 1024) (hB : Bd l) (hS : Sm l) :
   ∃ r, Ev (fun k => fact_gather.f k l) r ∧ Canon r (cf l) ∧ Bd r ∧ r.length ≤ l.length ∧ (∀ x ∈ r, -1073741824 ≤ x.f1 ∧ x.f1 ≤ 1073741824) := by
  obtain ⟨s, hs, h1, h2⟩ := sort_terms l (by omega) hB
  have hsl := h1.length_eq
  obtain ⟨r, hr, k1, k2, k3, k4⟩ := ga_l0 s (by omega) (by rw [hsl]; exact h2) (fun t ht => hS t (h1.mem_iff.1 ht)) _ 0 [] rfl (Nat.zero_le _) (Nat.zero_le _) List.Pairwise.nil (fun b => rfl) (by simp) (by simp) (fun h => absurd h (by decide))
  refine ⟨r, ?_, ⟨k1.inc, k1.nz, fun b => (k1.sums b).trans (cf_perm h1 b)⟩, Bd.of_mem fun t ht => ?_, by omega, k4⟩
  ·unfold fact_gather.f api_Term_50.f
   rw [if_pos (by omega)]
   refine evs (evb hs ?_)
   rw [← hsl]
   exact hr
  ·obtain ⟨p, hp, e⟩ := k2 t ht
   rw [e]
   exact (hB.perm h1) p
end Go.Proofs.Ytikpfbfeoifmkaa.Z
end
section
namespace Go.Proofs.Ytikpfbfeoifmkaa.Z
open Go.RowKit Go.Proofs.Ytikpfbfeoifmkaa.X Go.Proofs.YtikpfbfeoifmkaaW.PrintWords Go.Proofs.YtikpfbfeoifmkaaW.PrintLast
set_option linter.unusedVariables false
set_option linter.unusedSimpArgs false
def blk (x : Int) : Bool := decide (0 ≤ x) && decide (x ≤ 255)
def sml (x : Int) : Bool := decide (-1048576 ≤ x) && decide (x ≤ 1048576)
theorem blk_iff {x : Int} : blk x = true ↔ 0 ≤ x ∧ x ≤ 255 := by simp [blk]
theorem sml_iff {x : Int} : sml x = true ↔ -1048576 ≤ x ∧ x ≤ 1048576 := by simp [sml]
theorem block_f (x : Int) : fact_block.f x = some (blk x) := by
  unfold fact_block.f blk
  by_cases h : 0 ≤ x
  ·rw [if_pos h]
   congr 1
   rw [decide_eq_true h, Bool.true_and]
   exact decide_eq_decide.2 (by omega)
  ·rw [if_neg h, decide_eq_false h, Bool.false_and]
theorem small_f (x : Int) : fact_small.f x = some (sml x) := by
  unfold fact_small.f sml
  by_cases h : -1048576 ≤ x
  ·rw [if_pos h, decide_eq_true h, Bool.true_and]
  ·rw [if_neg h, decide_eq_false h, Bool.false_and]
theorem in_f (x : Int) : timeboundref11_in.f x = some (sml x) := small_f x
theorem find_loop {α : Type} (F : Nat → List α → Int → Int → Option Int) (G : Nat → List α → Int → Option Bool) (p : Nat → Bool) (x : List α) (hx : x.length < 1152921504606846976)
   (step : ∀ k (i : Int), F (k + 1) x x.length i = if i < (x.length : Int) then (if 0 ≤ i then (if i < (x.length : Int) then ((G k x i).bind fun t => (if t = true then (some i) else (F k x x.length (wrap64 (i + 1))))) else (none)) else (none)) else (some (-1)))
   (hG : ∀ i : Nat, i < x.length → Ev (fun k => G k x i) (p i)) (d : Nat) : ∀ i : Nat, x.length - i = d → i ≤ x.length → (∀ q, q < i → p q = false) →
   ∃ r : Int, Ev (fun k => F k x x.length i) r ∧ ((r = -1 ∧ ∀ q, q < x.length → p q = false) ∨ (0 ≤ r ∧ ∃ q, q < x.length ∧ p q = true)) := by
  induction d with
  | zero =>
   intro i hd hi h
   exact ⟨-1, Ev.step (fun k => step k i) (evn (by omega) (evr _)), Or.inl ⟨rfl, fun q hq => h q (by omega)⟩⟩
  | succ d ih =>
   intro i hd hi h
   cases hp : p i with
   | true =>
    refine ⟨i, Ev.step (fun k => step k i) (evp (by omega) (evp (by omega) (evp (by omega) ?_))), Or.inr ⟨by omega, i, by omega, hp⟩⟩
    have := hG i (by omega)
    rw [hp] at this
    exact evb this (evp rfl (evr _))
   | false =>
    obtain ⟨r, hr, k⟩ := ih (i + 1) (by omega) (by omega) (fun q hq => by
     by_cases e : q = i
     ·rw [e]; exact hp
     ·exact h q (by omega))
    refine ⟨r, Ev.step (fun k => step k i) (evp (by omega) (evp (by omega) (evp (by omega) ?_))), k⟩
    have := hG i (by omega)
    rw [hp] at this
    refine evb this (evn (by simp) ?_)
    rw [show wrap64 ((i : Int) + 1) = ((i + 1 : Nat) : Int) from by rw [w64] <;> omega]
    exact hr
theorem has_loop {α : Type} (F : Nat → List α → Int → Int → Option Int) (G : Nat → List α → Int → Option Bool) (p : Nat → Bool) (x : List α) (hx : x.length < 1152921504606846976)
   (step : ∀ k (i : Int), F (k + 1) x x.length i = if i < (x.length : Int) then (if 0 ≤ i then (if i < (x.length : Int) then ((G k x i).bind fun t => (if t = true then (some i) else (F k x x.length (wrap64 (i + 1))))) else (none)) else (none)) else (some (-1)))
   (hG : ∀ i : Nat, i < x.length → Ev (fun k => G k x i) (p i)) :
   ∃ b : Bool, Ev (fun k => (F k x x.length 0).bind fun t => some (decide (t ≥ 0))) b ∧ (b = true ↔ ∃ q, q < x.length ∧ p q = true) := by
  obtain ⟨r, hr, k⟩ := find_loop F G p x hx step hG _ 0 rfl (Nat.zero_le _) (fun q hq => by omega)
  refine ⟨decide (r ≥ 0), evb hr (evr _), ?_⟩
  rcases k with ⟨rfl, k⟩ | ⟨h0, k⟩
  ·constructor
   ·intro h; simp at h
   ·rintro ⟨q, h1, h2⟩
    rw [k q h1] at h2
    cases h2
  ·constructor
   ·intro _; exact k
   ·intro _; simpa using h0
def okT (t : S44) : Bool := blk t.f0 && sml t.f1
theorem has33 (l : List S44) (hl : l.length < 1152921504606846976) : ∃ b, Ev (fun k => api_Term_32_at33.f k l) b ∧ (b = true ↔ ¬ ∀ t ∈ l, okT t = true) := by
  obtain ⟨b, hb, k⟩ := has_loop api_Term_49_at33.l0 (fun _ x i => fact_Of_1.f (rd_T44 x i).f0 (rd_T44 x i).f1) (fun i => !okT (gd l i)) l hl (fun k i => by rw [api_Term_49_at33.l0])
   (fun i hi => evc (fun k => by
    rw [rd_gd]
    unfold fact_Of_1.f okT
    rw [block_f, Option.bind_some]
    cases blk (gd l i).f0 with
    | true => rw [if_pos rfl, small_f, Option.bind_some, Bool.true_and]
    | false => rw [if_neg (by simp), Bool.false_and]; rfl) (evr _))
  refine ⟨b, hb, k.trans ⟨?_, ?_⟩⟩
  ·rintro ⟨q, h1, h2⟩ h
   rw [gd_lt h1, h _ (by simp)] at h2
   cases h2
  ·intro h
   refine Classical.byContradiction fun hn => h fun t ht => ?_
   obtain ⟨i, hi, rfl⟩ := List.mem_iff_getElem.1 ht
   cases e : okT l[i] with
   | true => rfl
   | false => exact absurd ⟨i, hi, by rw [gd_lt hi, e]; rfl⟩ hn
theorem has35 (l : List S44) (hl : l.length < 1152921504606846976) : ∃ b, Ev (fun k => api_Term_32_at35.f k l) b ∧ (b = true ↔ ¬ ∀ t ∈ l, sml t.f1 = true) := by
  obtain ⟨b, hb, k⟩ := has_loop api_Term_49_at35.l0 (fun _ x i => fact_Of_2.f (rd_T44 x i).f0 (rd_T44 x i).f1) (fun i => !sml (gd l i).f1) l hl (fun k i => by rw [api_Term_49_at35.l0])
   (fun i hi => evc (fun k => by
    rw [rd_gd]
    unfold fact_Of_2.f
    rw [small_f, Option.bind_some]) (evr _))
  refine ⟨b, hb, k.trans ⟨?_, ?_⟩⟩
  ·rintro ⟨q, h1, h2⟩ h
   rw [gd_lt h1, h _ (by simp)] at h2
   cases h2
  ·intro h
   refine Classical.byContradiction fun hn => h fun t ht => ?_
   obtain ⟨i, hi, rfl⟩ := List.mem_iff_getElem.1 ht
   cases e : sml l[i].f1 with
   | true => rfl
   | false => exact absurd ⟨i, hi, by rw [gd_lt hi, e]; rfl⟩ hn
def Fine (l : List S44) (m : Int) : Prop := sml m = true ∧ ∀ t ∈ l, okT t = true
theorem Fine.bd {l : List S44} {m : Int} (h : Fine l m) : Bd l := Bd.of_mem fun t ht => by
  have := h.2 t ht
  unfold okT at this
  rw [Bool.and_eq_true, blk_iff] at this
  exact this.1
theorem Fine.sm {l : List S44} {m : Int} (h : Fine l m) : Sm l := fun t ht => by
  have := h.2 t ht
  unfold okT at this
  rw [Bool.and_eq_true, sml_iff] at this
  exact this.2
def OfRes (r : List S44) (m : Int) (x : List S44 × Int × Int) : Prop :=
  (64 < r.length ∧ x = ([], 0, 4)) ∨ (r.length ≤ 64 ∧ (∀ t ∈ r, sml t.f1 = true) ∧ x = (r, m, 0)) ∨ (r.length ≤ 64 ∧ (¬ ∀ t ∈ r, sml t.f1 = true) ∧ x = ([], 0, 3))
theorem OfRes.unique {r : List S44} {m : Int} {x y : List S44 × Int × Int} (h : OfRes r m x) (k : OfRes r m y) : x = y := by
  rcases h with ⟨a, rfl⟩ | ⟨a, b, rfl⟩ | ⟨a, b, rfl⟩ <;> rcases k with ⟨c, rfl⟩ | ⟨c, d, rfl⟩ | ⟨c, d, rfl⟩ <;> first | rfl | omega | contradiction
def OfIs (l : List S44) (m : Int) (x : List S44 × Int × Int) : Prop :=
  (1024 < l.length ∧ x = ([], 0, 4)) ∨ (l.length ≤ 1024 ∧ ¬ Fine l m ∧ x = ([], 0, 3)) ∨ (l.length ≤ 1024 ∧ Fine l m ∧ ∃ r, Canon r (cf l) ∧ Bd r ∧ r.length ≤ l.length ∧ OfRes r m x)
theorem OfIs.unique {l : List S44} {m : Int} {x y : List S44 × Int × Int} (h : OfIs l m x) (k : OfIs l m y) : x = y := by
  rcases h with ⟨a, rfl⟩ | ⟨a, b, rfl⟩ | ⟨a, b, r, c1, c2, c4, c3⟩ <;> rcases k with ⟨c, rfl⟩ | ⟨c, d, rfl⟩ | ⟨c, d, r', d1, d2, d4, d3⟩ <;> first | rfl | omega | contradiction | skip
  obtain rfl := c1.unique d1
  exact c3.unique d3
theorem of_fact (l : List S44) (m : Int) (hl : l.length < 1152921504606846976) : ∃ x, Ev (fun k => fact_Of.f k l m) x ∧ OfIs l m x := by
  unfold fact_Of.f
  by_cases h1 : 1024 < l.length
  ·exact ⟨_, evp (by omega) (evr _), Or.inl ⟨h1, rfl⟩⟩
  ·have bad : ¬ Fine l m → ∃ x, Ev (fun k => fact_Of.j0 k l m true) x ∧ OfIs l m x := fun hn =>
    ⟨_, Ev.step (fun k => by rw [fact_Of.j0]) (evp rfl (evr _)), Or.inr (Or.inl ⟨by omega, hn, rfl⟩)⟩
   by_cases h2 : sml m = true
   ·obtain ⟨b, hb, k⟩ := has33 l hl
    by_cases h3 : ∀ t ∈ l, okT t = true
    ·have hb0 : b = false := by
      cases b with
      | true => exact absurd h3 (k.1 rfl)
      | false => rfl
     subst hb0
     have hF : Fine l m := ⟨h2, h3⟩
     obtain ⟨r, hr, k1, k2, k3, k4⟩ := gathers l (by omega) hF.bd hF.sm
     have key : ∃ x, Ev (fun k => if (r.length : Int) > 64 then (some (([] : List (S44)), (0 : Int), (4 : Int))) else ((api_Term_32_at35.f k r).bind fun t112 => (if t112 = true then (some (([] : List (S44)), 0, 3)) else (some (r, m, 0))))) x ∧ OfRes r m x := by
      by_cases h4 : 64 < r.length
      ·exact ⟨_, evp (by omega) (evr _), Or.inl ⟨h4, rfl⟩⟩
      ·obtain ⟨c, hc, kc⟩ := has35 r (by omega)
       cases c with
       | true => exact ⟨_, evn (by omega) (evb hc (evp rfl (evr _))), Or.inr (Or.inr ⟨by omega, kc.1 rfl, rfl⟩)⟩
       | false => exact ⟨_, evn (by omega) (evb hc (evn (by simp) (evr _))), Or.inr (Or.inl ⟨by omega, Classical.byContradiction (fun hn => by have := kc.2 hn; cases this), rfl⟩)⟩
     obtain ⟨x, hx, kx⟩ := key
     refine ⟨x, evn (by omega) ?_, Or.inr (Or.inr ⟨by omega, hF, r, k1, k2, k3, kx⟩)⟩
     refine evc (fun k => by rw [small_f, Option.bind_some, if_pos h2]) (evb hb ?_)
     refine Ev.step (fun k => by rw [fact_Of.j0]) (evn (by simp) (evb hr hx))
    ·have hb0 : b = true := k.2 h3
     subst hb0
     obtain ⟨x, hx, kx⟩ := bad (fun h => h3 h.2)
     exact ⟨x, evn (by omega) (evc (fun k => by rw [small_f, Option.bind_some, if_pos h2]) (evb hb hx)), kx⟩
   ·obtain ⟨x, hx, kx⟩ := bad (fun h => h2 h.1)
    exact ⟨x, evn (by omega) (evc (fun k => by rw [small_f, Option.bind_some, if_neg h2]) hx), kx⟩
theorem rd_set {xs : List Int} {i : Nat} (x : Int) (j : Nat) (h : i < xs.length) : rd (xs.set i x) (j : Int) = if i = j then x else rd xs (j : Int) := by
  simp only [rd, Int.toNat_natCast, List.getD_eq_getElem?_getD, List.getElem?_set]
  split
  ·simp [h]
  ·rfl
theorem ro_l1 (S : List Int) (hS : S.length = 256) (m : Int) (c : Int → Int) (hc : ∀ b : Nat, b < 256 → rd S b = c b) (hc0 : ∀ b : Int, b < 0 ∨ 255 < b → c b = 0) (d : Nat) : ∀ (i : Nat) (o : List S44) (right : Bool), 256 - i = d → i ≤ 256 → o.length ≤ i →
   (o.Pairwise fun x y => x.f0 < y.f0) → (∀ t ∈ o, t.f1 ≠ 0) → (∀ t ∈ o, 0 ≤ t.f0 ∧ t.f0 < i) → (∀ b, cf o b = if b < i then c b else 0) → (right = true ↔ ∀ t ∈ o, sml t.f1 = true) →
   ∃ r x, Ev (fun k => timeboundref11_Of.l1 k S right (i : Int) o m) x ∧ Canon r c ∧ Bd r ∧ OfRes r m x := by
  induction d with
  | zero =>
   intro i o right hd hi hol h1 h2 h3 h4 h5
   have hC : Canon o c := ⟨h1, h2, fun b => by
    rw [h4]
    by_cases hb : b < (i : Int)
    ·rw [if_pos hb]
    ·rw [if_neg hb, hc0 b (by omega)]⟩
   have hB : Bd o := Bd.of_mem fun t ht => by have := h3 t ht; omega
   by_cases h6 : 64 < o.length
   ·refine ⟨o, _, ?_, hC, hB, Or.inl ⟨h6, rfl⟩⟩
    refine Ev.step (fun k => by rw [timeboundref11_Of.l1]) ?_
    exact evn (by omega) (evp (by omega) (evr _))
   ·cases right with
    | true =>
     refine ⟨o, _, ?_, hC, hB, Or.inr (Or.inl ⟨by omega, h5.1 rfl, rfl⟩)⟩
     refine Ev.step (fun k => by rw [timeboundref11_Of.l1]) ?_
     exact evn (by omega) (evn (by omega) (evp rfl (evr _)))
    | false =>
     refine ⟨o, _, ?_, hC, hB, Or.inr (Or.inr ⟨by omega, (fun h => by have := h5.2 h; cases this), rfl⟩)⟩
     refine Ev.step (fun k => by rw [timeboundref11_Of.l1]) ?_
     exact evn (by omega) (evn (by omega) (evn (by simp) (evr _)))
  | succ d ih =>
   intro i o right hd hi hol h1 h2 h3 h4 h5
   have hci := hc i (by omega)
   by_cases hz : rd S (i : Int) = 0
   ·obtain ⟨r, x, hx, k⟩ := ih (i + 1) o right (by omega) (by omega) (by omega) h1 h2 (fun t ht => by have := h3 t ht; omega) (fun b => by
     rw [h4]
     by_cases hb : b = (i : Int)
     ·subst hb
      rw [if_neg (by omega), if_pos (by omega), ← hci, hz]
     ·by_cases hb2 : b < (i : Int)
      ·rw [if_pos hb2, if_pos (by omega)]
      ·rw [if_neg hb2, if_neg (by omega)]) h5
    refine ⟨r, x, ?_, k⟩
    refine Ev.step (fun k => by rw [timeboundref11_Of.l1]) ?_
    refine evp (by omega) (evp (by omega) (evp (by omega) (evp hz ?_)))
    rw [show wrap64 ((i : Int) + 1) = ((i + 1 : Nat) : Int) from by rw [w64] <;> omega]
    exact hx
   ·obtain ⟨r, x, hx, k⟩ := ih (i + 1) (o ++ [⟨i, rd S i⟩]) (right && sml (rd S i)) (by omega) (by omega) (by simp; omega)
     (by
      rw [List.pairwise_append]
      exact ⟨h1, List.pairwise_singleton _ _, fun a ha b hb => by rw [List.mem_singleton.1 hb]; have := h3 a ha; exact this.2⟩)
     (fun t ht => by
      rcases List.mem_append.1 ht with ht | ht
      ·exact h2 t ht
      ·rw [List.mem_singleton.1 ht]; exact hz)
     (fun t ht => by
      rcases List.mem_append.1 ht with ht | ht
      ·have := h3 t ht; omega
      ·rw [List.mem_singleton.1 ht]
       show 0 ≤ (i : Int) ∧ (i : Int) < _
       omega)
     (fun b => by
      rw [cf_append, cf_single, h4]
      show _ + (if (i : Int) = b then rd S i else 0) = _
      by_cases hb : b = (i : Int)
      ·subst hb
       rw [if_neg (by omega), if_pos rfl, if_pos (by omega), ← hci]
       omega
      ·by_cases hb2 : b < (i : Int)
       ·rw [if_pos hb2, if_neg (by omega), if_pos (by omega)]
        omega
       ·rw [if_neg hb2, if_neg (by omega), if_neg (by omega)]
        rfl)
     (by
      rw [Bool.and_eq_true, h5]
      constructor
      ·rintro ⟨g1, g2⟩ t ht
       rcases List.mem_append.1 ht with ht | ht
       ·exact g1 t ht
       ·rw [List.mem_singleton.1 ht]; exact g2
      ·intro g
       exact ⟨fun t ht => g t (by simp [ht]), g ⟨i, rd S i⟩ (by simp)⟩)
    refine ⟨r, x, ?_, k⟩
    refine Ev.step (fun k => by rw [timeboundref11_Of.l1]) ?_
    refine evp (by omega) (evp (by omega) (evp (by omega) (evn hz (evp (by omega) (evs ?_)))))
    rw [show wrap64 ((i : Int) + 1) = ((i + 1 : Nat) : Int) from by rw [w64] <;> omega]
    cases right with
    | true => exact evp rfl (evc (fun k => by rw [in_f, Option.bind_some]) (by simpa using hx))
    | false => exact evn (by simp) (by simpa using hx)
theorem ro_l0 (l : List S44) (hl : l.length ≤ 1024) (m : Int) (hm : sml m = true) (d : Nat) : ∀ (i : Nat) (S : List Int), l.length - i = d → i ≤ l.length → S.length = 256 → (∀ t ∈ l.take i, okT t = true) → (∀ b : Nat, b < 256 → rd S b = cf (l.take i) b) → (∀ b : Nat, b < 256 → -(i * 1048576 : Int) ≤ rd S b ∧ rd S b ≤ i * 1048576) →
   ∃ x, Ev (fun k => timeboundref11_Of.l0 k l m S (i : Int)) x ∧ OfIs l m x := by
  induction d with
  | zero =>
   intro i S hd hi hS h1 h2 h3
   rw [List.take_of_length_le (by omega)] at h1 h2
   have hF : Fine l m := ⟨hm, h1⟩
   obtain ⟨r, x, hx, k1, k2, k3⟩ := ro_l1 S hS m (cf l) h2 (fun b hb => cf_none fun t ht => by have := hF.bd.mem t ht; omega) _ 0 [] true rfl (by omega) (Nat.le_refl _) List.Pairwise.nil (by simp) (by simp) (fun b => by
     show 0 = _
     split
     ·exact (cf_none fun t ht => by have := hF.bd.mem t ht; omega).symm
     ·rfl) (by simp)
   obtain ⟨r', hr', c1, c2, c3, c4⟩ := gathers l hl hF.bd hF.sm
   obtain rfl := k1.unique c1
   refine ⟨x, ?_, Or.inr (Or.inr ⟨hl, hF, r, k1, k2, c3, k3⟩)⟩
   refine Ev.step (fun k => by rw [timeboundref11_Of.l0]) ?_
   exact evn (by omega) hx
  | succ d ih =>
   intro i S hd hi hS h1 h2 h3
   have hi1 : i < l.length := by omega
   have bad : ¬ okT (gd l i) = true → OfIs l m ([], 0, 3) := fun hn => Or.inr (Or.inl ⟨hl, fun hF => hn (by rw [gd_lt hi1]; exact hF.2 _ (by simp)), rfl⟩)
   have step : Ev (fun k => timeboundref11_Of.l0 k l m S (i : Int)) = Ev (fun k => timeboundref11_Of.l0 k l m S (i : Int)) := rfl
   by_cases hb0 : (gd l i).f0 < 0
   ·refine ⟨([], 0, 3), ?_, bad (fun h => by unfold okT at h; rw [Bool.and_eq_true, blk_iff] at h; omega)⟩
    refine Ev.step (fun k => by rw [timeboundref11_Of.l0]) ?_
    refine evp (by omega) (evp (by omega) ?_)
    rw [rd_gd]
    exact evp hb0 (evr _)
   ·by_cases hb1 : (gd l i).f0 > 255
    ·refine ⟨([], 0, 3), ?_, bad (fun h => by unfold okT at h; rw [Bool.and_eq_true, blk_iff] at h; omega)⟩
     refine Ev.step (fun k => by rw [timeboundref11_Of.l0]) ?_
     refine evp (by omega) (evp (by omega) ?_)
     rw [rd_gd]
     exact evn hb0 (evp hb1 (evr _))
    ·by_cases hs : sml (gd l i).f1 = true
     ·obtain ⟨b, hb⟩ : ∃ b : Nat, (gd l i).f0 = b := ⟨(gd l i).f0.toNat, by omega⟩
      have hbl : b < S.length := by omega
      have hs' := sml_iff.1 hs
      have g3 := h3 b (by omega)
      have hw : wrap64 (rd S (b : Int) + (gd l i).f1) = rd S (b : Int) + (gd l i).f1 := by rw [w64] <;> omega
      obtain ⟨x, hx, k⟩ := ih (i + 1) (S.set b (rd S (b : Int) + (gd l i).f1)) (by omega) (by omega) (by rw [List.length_set]; exact hS)
       (fun t ht => by
        rw [take_succ_gd hi1] at ht
        rcases List.mem_append.1 ht with ht | ht
        ·exact h1 t ht
        ·rw [List.mem_singleton.1 ht]
         unfold okT
         rw [Bool.and_eq_true, blk_iff]
         exact ⟨by omega, hs⟩)
       (fun c hc => by
        rw [rd_set _ _ hbl, take_succ_gd hi1, cf_append, cf_single, hb]
        by_cases e : b = c
        ·subst e
         rw [if_pos rfl, if_pos rfl, h2 b (by omega)]
        ·rw [if_neg e, if_neg (by omega), h2 c hc]
         omega)
       (fun c hc => by
        rw [rd_set _ _ hbl]
        have g4 := h3 c hc
        by_cases e : b = c
        ·rw [if_pos e]; omega
        ·rw [if_neg e]; omega)
      refine ⟨x, ?_, k⟩
      refine Ev.step (fun k => by rw [timeboundref11_Of.l0]) ?_
      refine evp (by omega) (evp (by omega) ?_)
      rw [rd_gd]
      refine evn hb0 (evn hb1 (evc (fun k => by rw [in_f, Option.bind_some, if_pos hs]) (evp (by omega) (evp (by omega) (evp (by omega) ?_)))))
      rw [hb, hw, Int.toNat_natCast, show wrap64 ((i : Int) + 1) = ((i + 1 : Nat) : Int) from by rw [w64] <;> omega]
      exact hx
     ·refine ⟨([], 0, 3), ?_, bad (fun h => by unfold okT at h; rw [Bool.and_eq_true] at h; exact hs h.2)⟩
      refine Ev.step (fun k => by rw [timeboundref11_Of.l0]) ?_
      refine evp (by omega) (evp (by omega) ?_)
      rw [rd_gd]
      exact evn hb0 (evn hb1 (evc (fun k => by rw [in_f, Option.bind_some, if_neg hs]) (evr _)))
theorem rd_rep (n : Nat) (i : Int) : rd (List.replicate n 0) i = 0 := by
  simp only [rd, List.getD_eq_getElem?_getD, List.getElem?_replicate]
  split <;> rfl
theorem of_ref (l : List S44) (m : Int) : ∃ x, Ev (fun k => timeboundref11_Of.f k l m) x ∧ OfIs l m x := by
  unfold timeboundref11_Of.f
  by_cases h1 : 1024 < l.length
  ·exact ⟨_, evp (by omega) (evr _), Or.inl ⟨h1, rfl⟩⟩
  ·by_cases h2 : sml m = true
   ·obtain ⟨x, hx, k⟩ := ro_l0 l (by omega) m h2 _ 0 (List.replicate 256 0) rfl (Nat.zero_le _) List.length_replicate (by simp) (fun b hb => by rw [rd_rep]; rfl) (fun b hb => by rw [rd_rep]; simp)
    exact ⟨x, evn (by omega) (evc (fun k => by rw [in_f, Option.bind_some, if_pos h2, if_pos (by decide), show ((0 : Nat) : Int) = 0 from rfl]) hx), k⟩
   ·exact ⟨_, evn (by omega) (evc (fun k => by rw [in_f, Option.bind_some, if_neg h2]) (evr _)), Or.inr (Or.inl ⟨by omega, fun h => h2 h.1, rfl⟩)⟩
end Go.Proofs.Ytikpfbfeoifmkaa.Z
end
section
namespace Go.Proofs.Ytikpfbfeoifmkaa.X
open Go.RowKit Go.Proofs.YtikpfbfeoifmkaaW.PrintWords Go.Proofs.YtikpfbfeoifmkaaW.PrintLast Go.Proofs.YtikpfbfeoifmkaaW.PrintMore
attribute [local go_sem] max2_int min2_int max_two min_two max_three min_three max_four min_four
set_option linter.unusedVariables false
set_option linter.unusedSimpArgs false
mutual
def timeboundref11_Check.l0 : Nat → Int → List (S44) → Int → Option (Int)
  | 0, _, _, _ => none
  | k + 1, x3, x102000, x102001 => if x3 < (x102000.length : Int) then (if 0 ≤ x3 then (if ((rd_T44 x102000 x3).f0) < 0 then (timeboundref11_Check.j1 k x3 true x102000 x102001) else (if ((rd_T44 x102000 x3).f0) > 255 then (timeboundref11_Check.j1 k x3 true x102000 x102001) else (if ((rd_T44 x102000 x3).f1) = 0 then (timeboundref11_Check.j1 k x3 true x102000 x102001) else ((timeboundref11_in.f ((rd_T44 x102000 x3).f1)).bind fun t105 => (if t105 = true then (if x3 > 0 then (if 0 ≤ (wrap64 (x3 - 1)) then (if (wrap64 (x3 - 1)) < (x102000.length : Int) then (timeboundref11_Check.j1 k x3 (decide (((rd_T44 x102000 x3).f0) ≤ ((rd_T44 x102000 (wrap64 (x3 - 1))).f0))) x102000 x102001) else (none)) else (none)) else (timeboundref11_Check.j1 k x3 false x102000 x102001)) else (timeboundref11_Check.j1 k x3 true x102000 x102001)))))) else (none)) else (some 0)
def timeboundref11_Check.j1 : Nat → Int → Bool → List (S44) → Int → Option (Int)
  | 0, _, _, _, _ => none
  | k + 1, x3, x59, x102000, x102001 => if x59 = true then (some 10) else (timeboundref11_Check.l0 k (wrap64 (x3 + 1)) x102000 x102001)
end
def timeboundref11_Check.f (k : Nat) (l0_0 : List (S44)) (a0_1 : Int) : Option (Int) := if (l0_0.length : Int) > 64 then (some 4) else ((timeboundref11_in.f a0_1).bind fun t102 => (if t102 = true then (timeboundref11_Check.l0 k 0 l0_0 a0_1) else (some 10)))
end Go.Proofs.Ytikpfbfeoifmkaa.X
end
section
namespace Go.Proofs.Ytikpfbfeoifmkaa.Z
open Go.RowKit Go.Proofs.Ytikpfbfeoifmkaa.X Go.Proofs.YtikpfbfeoifmkaaW.PrintWords Go.Proofs.YtikpfbfeoifmkaaW.PrintLast
set_option linter.unusedVariables false
set_option linter.unusedSimpArgs false
theorem okT_iff {t : S44} : okT t = true ↔ blk t.f0 = true ∧ sml t.f1 = true := by unfold okT; rw [Bool.and_eq_true]
def Rw (l : List S44) (i : Nat) : Prop := okT (gd l i) = true ∧ (gd l i).f1 ≠ 0 ∧ (0 < i → (gd l (i - 1)).f0 < (gd l i).f0)
def Good (l : List S44) (m : Int) : Prop := sml m = true ∧ ∀ i, i < l.length → Rw l i
def ChkIs (l : List S44) (m : Int) (e : Int) : Prop :=
  (64 < l.length ∧ e = 4) ∨ (l.length ≤ 64 ∧ ¬ Good l m ∧ e = 10) ∨ (l.length ≤ 64 ∧ Good l m ∧ e = 0)
theorem ChkIs.unique {l : List S44} {m x y : Int} (h : ChkIs l m x) (k : ChkIs l m y) : x = y := by
  rcases h with ⟨a, rfl⟩ | ⟨a, b, rfl⟩ | ⟨a, b, rfl⟩ <;> rcases k with ⟨c, rfl⟩ | ⟨c, d, rfl⟩ | ⟨c, d, rfl⟩ <;> first | rfl | omega | contradiction
theorem ChkIs.zero {l : List S44} {m e : Int} (h : ChkIs l m e) (he : e = 0) : l.length ≤ 64 ∧ Good l m := by
  rcases h with ⟨a, rfl⟩ | ⟨a, b, rfl⟩ | ⟨a, b, rfl⟩
  ·cases he
  ·cases he
  ·exact ⟨a, b⟩
theorem Good.fine {l : List S44} {m : Int} (h : Good l m) : Fine l m := ⟨h.1, fun t ht => by
  obtain ⟨i, hi, rfl⟩ := List.mem_iff_getElem.1 ht
  have := (h.2 i hi).1
  rwa [gd_lt hi] at this⟩
theorem Good.nz {l : List S44} {m : Int} (h : Good l m) : ∀ t ∈ l, t.f1 ≠ 0 := fun t ht => by
  obtain ⟨i, hi, rfl⟩ := List.mem_iff_getElem.1 ht
  have := (h.2 i hi).2.1
  rwa [gd_lt hi] at this
theorem Good.mk {l : List S44} {m : Int} (hm : sml m = true) (h1 : l.Pairwise fun x y => x.f0 < y.f0) (h2 : ∀ t ∈ l, t.f1 ≠ 0) (h3 : ∀ t ∈ l, okT t = true) : Good l m := ⟨hm, fun i hi => by
  refine ⟨by rw [gd_lt hi]; exact h3 _ (List.getElem_mem _), by rw [gd_lt hi]; exact h2 _ (List.getElem_mem _), fun h0 => ?_⟩
  rw [gd_lt hi, gd_lt (show i - 1 < l.length by omega)]
  exact List.pairwise_iff_getElem.1 h1 _ _ _ _ (by omega)⟩
theorem chk_bad (l : List S44) (m : Int) (hl : l.length ≤ 64) (i : Nat) (hi : i < l.length) (hn : ¬ Rw l i) :
   Ev (fun k => fact_Check.l0 k l l.length i l m) 10 := by
  have j1 : Ev (fun k => fact_Check.j1 k l l.length i true l m) 10 := Ev.step (fun k => by rw [fact_Check.j1]) (evp rfl (evr _))
  refine Ev.step (fun k => by rw [fact_Check.l0]) ?_
  refine evp (by omega) (evp (by omega) (evp (by omega) ?_))
  rw [rd_gd]
  by_cases h1 : blk (gd l i).f0 = true
  ·refine evc (fun k => by rw [block_f, Option.bind_some, if_pos h1]) ?_
   by_cases h2 : sml (gd l i).f1 = true
   ·refine evc (fun k => by rw [small_f, Option.bind_some, if_pos h2]) ?_
    by_cases h3 : (gd l i).f1 = 0
    ·exact evp h3 j1
    ·refine evn h3 ?_
     by_cases h4 : 0 < i
     ·have hw : wrap64 ((i : Int) - 1) = ((i - 1 : Nat) : Int) := by rw [w64] <;> omega
      refine evp (by omega) ?_
      rw [hw]
      refine evp (by omega) (evp (by omega) ?_)
      rw [rd_gd, decide_eq_true (Int.not_lt.1 fun h => hn ⟨okT_iff.2 ⟨h1, h2⟩, h3, fun _ => h⟩)]
      exact j1
     ·exact absurd ⟨okT_iff.2 ⟨h1, h2⟩, h3, fun h => absurd h h4⟩ hn
   ·exact evc (fun k => by rw [small_f, Option.bind_some, if_neg h2]) j1
  ·exact evc (fun k => by rw [block_f, Option.bind_some, if_neg h1]) j1
theorem chk_ok (l : List S44) (m : Int) (hl : l.length ≤ 64) (i : Nat) (hi : i < l.length) (h : Rw l i) (e : Int)
   (n : Ev (fun k => fact_Check.l0 k l l.length ((i + 1 : Nat) : Int) l m) e) : Ev (fun k => fact_Check.l0 k l l.length i l m) e := by
  have j1 : Ev (fun k => fact_Check.j1 k l l.length i false l m) e := by
   refine Ev.step (fun k => by rw [fact_Check.j1]) (evn (by simp) ?_)
   rw [show wrap64 ((i : Int) + 1) = ((i + 1 : Nat) : Int) from by rw [w64] <;> omega]
   exact n
  obtain ⟨h1, h3, h4⟩ := h
  rw [okT_iff] at h1
  refine Ev.step (fun k => by rw [fact_Check.l0]) ?_
  refine evp (by omega) (evp (by omega) (evp (by omega) ?_))
  rw [rd_gd]
  refine evc (fun k => by rw [block_f, Option.bind_some, if_pos h1.1, small_f, Option.bind_some, if_pos h1.2]) (evn h3 ?_)
  by_cases h5 : 0 < i
  ·have hw : wrap64 ((i : Int) - 1) = ((i - 1 : Nat) : Int) := by rw [w64] <;> omega
   refine evp (by omega) ?_
   rw [hw]
   refine evp (by omega) (evp (by omega) ?_)
   rw [rd_gd, decide_eq_false (Int.not_le.2 (h4 h5))]
   exact j1
  ·exact evn (by omega) j1
theorem chk_l0 (l : List S44) (m : Int) (hl : l.length ≤ 64) (d : Nat) : ∀ i : Nat, l.length - i = d → i ≤ l.length → (∀ p, p < i → Rw l p) →
   ∃ e, Ev (fun k => fact_Check.l0 k l l.length i l m) e ∧ ChkIs l m e := by
  induction d with
  | zero =>
   intro i hd hi h
   by_cases hm : sml m = true
   ·refine ⟨0, Ev.step (fun k => by rw [fact_Check.l0]) (evn (by omega) (evc (fun k => by rw [small_f, Option.bind_some, if_pos hm]) (evr _))), Or.inr (Or.inr ⟨hl, ⟨hm, fun p hp => h p (by omega)⟩, rfl⟩)⟩
   ·exact ⟨10, Ev.step (fun k => by rw [fact_Check.l0]) (evn (by omega) (evc (fun k => by rw [small_f, Option.bind_some, if_neg hm]) (evr _))), Or.inr (Or.inl ⟨hl, fun g => hm g.1, rfl⟩)⟩
  | succ d ih =>
   intro i hd hi h
   by_cases hr : Rw l i
   ·obtain ⟨e, he, k⟩ := ih (i + 1) (by omega) (by omega) (fun p hp => by
     by_cases e : p = i
     ·rw [e]; exact hr
     ·exact h p (by omega))
    exact ⟨e, chk_ok l m hl i (by omega) hr e he, k⟩
   ·exact ⟨10, chk_bad l m hl i (by omega) hr, Or.inr (Or.inl ⟨hl, fun g => hr (g.2 i (by omega)), rfl⟩)⟩
theorem check_fact (l : List S44) (m : Int) : ∃ e, Ev (fun k => fact_Check.f k l m) e ∧ ChkIs l m e := by
  unfold fact_Check.f
  by_cases h : 64 < l.length
  ·exact ⟨4, evp (by omega) (evr _), Or.inl ⟨h, rfl⟩⟩
  ·obtain ⟨e, he, k⟩ := chk_l0 l m (by omega) _ 0 rfl (by omega) (fun p hp => by omega)
   exact ⟨e, evn (by omega) he, k⟩
def gi (xs : List Int) (i : Nat) : Int := xs.getD i 0
theorem rd_gi (xs : List Int) (i : Nat) : rd xs (i : Int) = gi xs i := by simp [rd, gi]
def Cnt (xs : List Int) : Prop := xs.length ≤ 256 ∧ ∀ x ∈ xs, 0 ≤ x ∧ x ≤ 2147483648
def val (xs : List Int) (b : Int) : Int := if b < xs.length then rd xs b else 0
theorem gi_lt {xs : List Int} {i : Nat} (h : i < xs.length) : gi xs i = xs[i] := by simp [gi, List.getD_eq_getElem?_getD, h]
theorem rd_mem {xs : List Int} {b : Int} (h0 : 0 ≤ b) (h : b < xs.length) : rd xs b ∈ xs := by
  obtain ⟨n, rfl⟩ : ∃ n : Nat, b = n := ⟨b.toNat, by omega⟩
  rw [rd_gi, gi_lt (by omega)]
  exact List.getElem_mem _
def SumIs (l : List S44) (m : Int) (xs : List Int) (x : Int × Int) : Prop :=
  (∃ e, ChkIs l m e ∧ e ≠ 0 ∧ x = (0, e)) ∨ (l.length ≤ 64 ∧ Good l m ∧ ¬ Cnt xs ∧ x = (0, 3)) ∨ (l.length ≤ 64 ∧ Good l m ∧ Cnt xs ∧ x = (wsum l (val xs), 0))
theorem SumIs.unique {l : List S44} {m : Int} {xs : List Int} {x y : Int × Int} (h : SumIs l m xs x) (k : SumIs l m xs y) : x = y := by
  have no : l.length ≤ 64 → Good l m → ∀ e, ChkIs l m e → e ≠ 0 → False := fun a b e he h0 => h0 (he.unique (Or.inr (Or.inr ⟨a, b, rfl⟩)))
  rcases h with ⟨e, a, b, rfl⟩ | ⟨a, b, c, rfl⟩ | ⟨a, b, c, rfl⟩ <;> rcases k with ⟨e', a', b', rfl⟩ | ⟨a', b', c', rfl⟩ | ⟨a', b', c', rfl⟩
  ·rw [a.unique a']
  ·exact (no a' b' e a b).elim
  ·exact (no a' b' e a b).elim
  ·exact (no a b e' a' b').elim
  ·rfl
  ·contradiction
  ·exact (no a b e' a' b').elim
  ·contradiction
  ·rfl
theorem has29 (l : List Int) (hl : l.length < 1152921504606846976) : ∃ b, Ev (fun k => slices_ContainsFunc_int_int_28_at29.f k l) b ∧ (b = true ↔ ¬ ∀ x ∈ l, 0 ≤ x ∧ x ≤ 2147483648) := by
  obtain ⟨b, hb, k⟩ := has_loop (fun k x n i => slices_IndexFunc_int_int_48_at29.l0 k x n i) (fun _ x i => fact_Sum_1.f (rd x i)) (fun i => decide (¬ (0 ≤ gi l i ∧ gi l i ≤ 2147483648))) l hl (fun k i => by rw [slices_IndexFunc_int_int_48_at29.l0])
   (fun i hi => evc (fun k => by
    rw [rd_gi]
    unfold fact_Sum_1.f
    by_cases h : gi l i < 0
    ·rw [if_pos h, decide_eq_true (by omega)]
    ·rw [if_neg h]
     congr 1
     exact decide_eq_decide.2 (by omega)) (evr _))
  refine ⟨b, hb, k.trans ⟨?_, ?_⟩⟩
  ·rintro ⟨q, h1, h2⟩ h
   exact of_decide_eq_true h2 (by rw [gi_lt h1]; exact h _ (List.getElem_mem _))
  ·intro h
   refine Classical.byContradiction fun hn => h fun t ht => ?_
   obtain ⟨i, hi, rfl⟩ := List.mem_iff_getElem.1 ht
   refine Classical.byContradiction fun g => hn ⟨i, hi, decide_eq_true ?_⟩
   rw [gi_lt hi]; exact g
theorem mulb {a b A B : Int} (ha : -A ≤ a ∧ a ≤ A) (hb : 0 ≤ b ∧ b ≤ B) : -(A * B) ≤ a * b ∧ a * b ≤ A * B := by
  have h0 : 0 ≤ A := by omega
  constructor
  ·have h1 : -(A * B) ≤ -(A * b) := Int.neg_le_neg (Int.mul_le_mul_of_nonneg_left hb.2 h0)
   have h2 : -(A * b) ≤ a * b := by rw [← Int.neg_mul]; exact Int.mul_le_mul_of_nonneg_right ha.1 hb.1
   exact Int.le_trans h1 h2
  ·exact Int.le_trans (Int.mul_le_mul_of_nonneg_right ha.2 hb.1) (Int.mul_le_mul_of_nonneg_left hb.2 h0)
theorem val_b {xs : List Int} (h : Cnt xs) {b : Int} (hb : 0 ≤ b) : 0 ≤ val xs b ∧ val xs b ≤ 2147483648 := by
  unfold val
  split
  ·exact h.2 _ (rd_mem hb (by assumption))
  ·omega
theorem wsum_take {l : List S44} {i : Nat} (h : i < l.length) (w : Int → Int) : wsum (l.take (i + 1)) w = wsum (l.take i) w + (gd l i).f1 * w (gd l i).f0 := by
  rw [take_succ_gd h, wsum_append]
  simp [wsum]
theorem sum_l0 (l : List S44) (hl : l.length ≤ 64) (hF : ∀ t ∈ l, okT t = true) (xs : List Int) (hx : Cnt xs) (d : Nat) : ∀ (i : Nat) (v : Int), l.length - i = d → i ≤ l.length → v = wsum (l.take i) (val xs) → (-(i * 2251799813685248) ≤ v ∧ v ≤ i * 2251799813685248) →
   Ev (fun k => fact_Sum.l0 k xs v l l.length i) (wsum l (val xs), 0) := by
  induction d with
  | zero =>
   intro i v hd hi hv hb
   rw [List.take_of_length_le (by omega)] at hv
   subst hv
   exact Ev.step (fun k => by rw [fact_Sum.l0]) (evn (by omega) (evr _))
  | succ d ih =>
   intro i v hd hi hv hb
   have hi1 : i < l.length := by omega
   have ht := hF _ (List.getElem_mem hi1)
   rw [← gd_lt hi1, okT_iff, blk_iff, sml_iff] at ht
   have hvb := val_b hx ht.1.1
   have hm := mulb (a := (gd l i).f1) (A := 1048576) (by omega) hvb
   have hw := wsum_take hi1 (val xs)
   refine Ev.step (fun k => by rw [fact_Sum.l0]) ?_
   refine evp (by omega) (evp (by omega) (evp (by omega) ?_))
   rw [rd_gd, show wrap64 ((i : Int) + 1) = ((i + 1 : Nat) : Int) from by rw [w64] <;> omega]
   by_cases h : (gd l i).f0 < (xs.length : Int)
   ·have hval : val xs (gd l i).f0 = rd xs (gd l i).f0 := by unfold val; rw [if_pos h]
    rw [hval] at hm hw
    refine evp h (evp (by omega) ?_)
    rw [show wrap64 ((gd l i).f1 * rd xs (gd l i).f0) = (gd l i).f1 * rd xs (gd l i).f0 from by rw [w64] <;> omega, show wrap64 (v + (gd l i).f1 * rd xs (gd l i).f0) = v + (gd l i).f1 * rd xs (gd l i).f0 from by rw [w64] <;> omega]
    exact ih (i + 1) _ (by omega) (by omega) (by rw [hw, hv]) (by omega)
   ·have hval : val xs (gd l i).f0 = 0 := by unfold val; rw [if_neg h]
    rw [hval, Int.mul_zero] at hw
    exact evn h (ih (i + 1) _ (by omega) (by omega) (by rw [hw, hv]; omega) (by omega))
theorem sum_fact (l : List S44) (m : Int) (xs : List Int) : ∃ x, Ev (fun k => fact_Sum.f k l m xs) x ∧ SumIs l m xs x := by
  obtain ⟨e, he, k⟩ := check_fact l m
  unfold fact_Sum.f
  by_cases h0 : e = 0
  ·obtain ⟨hl, hG⟩ := k.zero h0
   subst h0
   have bad : Ev (fun k => fact_Sum.j0 k xs true l m) (0, 3) := Ev.step (fun k => by rw [fact_Sum.j0]) (evp rfl (evr _))
   by_cases h1 : 256 < xs.length
   ·exact ⟨(0, 3), evb he (evp rfl (evp (by omega) bad)), Or.inr (Or.inl ⟨hl, hG, fun c => by have := c.1; omega, rfl⟩)⟩
   ·obtain ⟨b, hb, kb⟩ := has29 xs (by omega)
    cases b with
    | true => exact ⟨(0, 3), evb he (evp rfl (evn (by omega) (evb hb bad))), Or.inr (Or.inl ⟨hl, hG, fun c => kb.1 rfl c.2, rfl⟩)⟩
    | false =>
     have hc : Cnt xs := ⟨by omega, Classical.byContradiction fun h => by have := kb.2 h; cases this⟩
     refine ⟨_, evb he (evp rfl (evn (by omega) (evb hb ?_))), Or.inr (Or.inr ⟨hl, hG, hc, rfl⟩)⟩
     have h : Ev (fun k => fact_Sum.l0 k xs 0 l l.length 0) (wsum l (val xs), 0) := sum_l0 l hl hG.fine.2 xs hc _ 0 0 rfl (by omega) (by simp [wsum]) (by omega)
     refine Ev.step (fun k => by rw [fact_Sum.j0]) ?_
     exact evn (by simp) h
  ·exact ⟨(0, e), evb he (evn h0 (evr _)), Or.inl ⟨e, k, h0, rfl⟩⟩
def HoldsIs (l : List S44) (m : Int) (xs : List Int) (b : Bool) : Prop := ∃ x, SumIs l m xs x ∧ b = (decide (x.2 = 0) && decide (x.1 ≤ m))
theorem HoldsIs.unique {l : List S44} {m : Int} {xs : List Int} {x y : Bool} (h : HoldsIs l m xs x) (k : HoldsIs l m xs y) : x = y := by
  obtain ⟨a, b, rfl⟩ := h
  obtain ⟨c, d, rfl⟩ := k
  rw [b.unique d]
theorem holds_fact (l : List S44) (m : Int) (xs : List Int) : ∃ b, Ev (fun k => fact_Holds.f k l m xs) b ∧ HoldsIs l m xs b := by
  obtain ⟨x, hx, k⟩ := sum_fact l m xs
  unfold fact_Holds.f
  refine ⟨_, ?_, x, k, rfl⟩
  by_cases h : x.2 = 0
  ·refine evb hx (evp h (evr' ?_))
   rw [decide_eq_true h, Bool.true_and]
  ·refine evb hx (evn h (evr' ?_))
   rw [decide_eq_false h, Bool.false_and]
end Go.Proofs.Ytikpfbfeoifmkaa.Z
end
section
namespace Go.Proofs.Ytikpfbfeoifmkaa.X
open Go.RowKit Go.Proofs.YtikpfbfeoifmkaaW.PrintWords Go.Proofs.YtikpfbfeoifmkaaW.PrintLast Go.Proofs.YtikpfbfeoifmkaaW.PrintMore
attribute [local go_sem] max2_int min2_int max_two min_two max_three min_three max_four min_four
set_option linter.unusedVariables false
set_option linter.unusedSimpArgs false
mutual
def fact_Points.j0 : Nat → List (List Int) → List (List Int) → Bool → Option ((List (List Int)) × Int)
  | 0, _, _, _ => none
  | k + 1, x0, x1, x20 => if x20 = true then (some (([] : List (List Int)), 10)) else (fact_Points.l0 k x1 false ([] : List (List Int)) x0 (x0.length : Int) 0)
def fact_Points.l0 : Nat → List (List Int) → Bool → List (List Int) → List (List Int) → Int → Int → Option ((List (List Int)) × Int)
  | 0, _, _, _, _, _, _ => none
  | k + 1, x1, x6, x7, x21, x22, x23 => if x23 < x22 then (if 0 ≤ x23 then (if x23 < (x21.length : Int) then (fact_Points.l1 k x1 x6 x7 ([] : List Int) x21 x22 x23 (rd_L2 x21 x23) ((rd_L2 x21 x23).length : Int) 0) else (none)) else (none)) else (if x6 = true then (some (([] : List (List Int)), 4)) else (some (x7, 0)))
def fact_Points.l1 : Nat → List (List Int) → Bool → List (List Int) → List Int → List (List Int) → Int → Int → List Int → Int → Int → Option ((List (List Int)) × Int)
  | 0, _, _, _, _, _, _, _, _, _, _ => none
  | k + 1, x1, x6, x7, x10, x21, x22, x23, x27, x28, x29 => if x29 < x28 then (if 0 ≤ x29 then (if x29 < (x27.length : Int) then (if (rd x27 x29) ≥ (x1.length : Int) then (some (([] : List (List Int)), 11)) else (if 0 ≤ (rd x27 x29) then (if (rd x27 x29) < (x1.length : Int) then (if x10.length + (rd_L2 x1 (rd x27 x29)).length < 17592186044416 then (fact_Points.l1 k x1 x6 x7 (x10 ++ (rd_L2 x1 (rd x27 x29))) x21 x22 x23 x27 x28 (wrap64 (x29 + 1))) else (none)) else (none)) else (none))) else (none)) else (none)) else (if x6 = true then (if x7.length < 5864062014805 then (fact_Points.l0 k x1 true (x7 ++ [x10]) x21 x22 (wrap64 (x23 + 1))) else (none)) else (if x7.length < 5864062014805 then (fact_Points.l0 k x1 (decide ((x10.length : Int) > 256)) (x7 ++ [x10]) x21 x22 (wrap64 (x23 + 1))) else (none)))
end
def fact_Points.f (k : Nat) (l0 : List (List Int)) (l1 : List (List Int)) : Option ((List (List Int)) × Int) := (fact_mapped.f k l0).bind fun t101 => (if t101 = true then ((fact_mapped.f k l1).bind fun t102 => (fact_Points.j0 k l0 l1 (!t102))) else (fact_Points.j0 k l0 l1 true))
end Go.Proofs.Ytikpfbfeoifmkaa.X
end
section
namespace Go.Proofs.Ytikpfbfeoifmkaa.Z
open Go.RowKit Go.Proofs.Ytikpfbfeoifmkaa.X Go.Proofs.YtikpfbfeoifmkaaW.PrintWords Go.Proofs.YtikpfbfeoifmkaaW.PrintLast
set_option linter.unusedVariables false
set_option linter.unusedSimpArgs false
def gl (mp : List (List Int)) (i : Nat) : List Int := mp.getD i []
theorem rd_gl (mp : List (List Int)) (i : Nat) : rd_L2 mp (i : Int) = gl mp i := by simp [rd_L2, gl]
theorem gl_lt {mp : List (List Int)} {i : Nat} (h : i < mp.length) : gl mp i = mp[i] := by simp [gl, List.getD_eq_getElem?_getD, h]
theorem rdl_mem {mp : List (List Int)} {b : Int} (h0 : 0 ≤ b) (h : b < mp.length) : rd_L2 mp b ∈ mp := by
  obtain ⟨n, rfl⟩ : ∃ n : Nat, b = n := ⟨b.toNat, by omega⟩
  rw [rd_gl, gl_lt (by omega)]
  exact List.getElem_mem _
def rowOk (r : List Int) : Bool := decide (r.length ≤ 256) && r.all blk
theorem rowOk_iff {r : List Int} : rowOk r = true ↔ r.length ≤ 256 ∧ ∀ x ∈ r, blk x = true := by simp [rowOk]
def MapOk (mp : List (List Int)) : Prop := mp.length ≤ 256 ∧ ∀ r ∈ mp, rowOk r = true
theorem has47 (l : List Int) (hl : l.length < 1152921504606846976) : ∃ b, Ev (fun k => slices_ContainsFunc_int_int_28_at47.f k l) b ∧ (b = true ↔ ¬ ∀ x ∈ l, blk x = true) := by
  obtain ⟨b, hb, k⟩ := has_loop (fun k x n i => slices_IndexFunc_int_int_48_at47.l0 k x n i) (fun _ x i => fact_mapped_1_1.f (rd x i)) (fun i => !blk (gi l i)) l hl (fun k i => by rw [slices_IndexFunc_int_int_48_at47.l0])
   (fun i hi => evc (fun k => by
    rw [rd_gi]
    unfold fact_mapped_1_1.f
    rw [block_f, Option.bind_some]) (evr _))
  refine ⟨b, hb, k.trans ⟨?_, ?_⟩⟩
  ·rintro ⟨q, h1, h2⟩ h
   rw [gi_lt h1, h _ (List.getElem_mem _)] at h2
   cases h2
  ·intro h
   refine Classical.byContradiction fun hn => h fun t ht => ?_
   obtain ⟨i, hi, rfl⟩ := List.mem_iff_getElem.1 ht
   cases e : blk l[i] with
   | true => rfl
   | false => exact absurd ⟨i, hi, by rw [gi_lt hi, e]; rfl⟩ hn
theorem mapped1 (r : List Int) (hl : r.length < 1152921504606846976) : Ev (fun k => fact_mapped_1.f k r) (!rowOk r) := by
  unfold fact_mapped_1.f rowOk
  by_cases h : 256 < r.length
  ·refine evp (by omega) (evr' ?_)
   rw [decide_eq_false (by omega)]
   rfl
  ·obtain ⟨b, hb, k⟩ := has47 r hl
   refine evn (by omega) (evb hb (evr' ?_))
   rw [decide_eq_true (by omega), Bool.true_and]
   cases e : r.all blk with
   | true =>
    cases b with
    | false => rfl
    | true => exact absurd (List.all_eq_true.1 e) (k.1 rfl)
   | false => exact k.2 fun h => by rw [List.all_eq_true.2 h] at e; cases e
theorem has46 (mp : List (List Int)) (hl : mp.length < 1152921504606846976) (hr : ∀ r ∈ mp, r.length < 1152921504606846976) : ∃ b, Ev (fun k => slices_ContainsFunc_int_int_45_at46.f k mp) b ∧ (b = true ↔ ¬ ∀ r ∈ mp, rowOk r = true) := by
  obtain ⟨b, hb, k⟩ := has_loop (fun k x n i => slices_IndexFunc_int_int_57_at46.l0 k x n i) (fun k x i => fact_mapped_1.f k (rd_L2 x i)) (fun i => !rowOk (gl mp i)) mp hl (fun k i => by rw [slices_IndexFunc_int_int_57_at46.l0])
   (fun i hi => by
    simp only [rd_gl]
    exact mapped1 _ (by rw [gl_lt hi]; exact hr _ (List.getElem_mem _)))
  refine ⟨b, hb, k.trans ⟨?_, ?_⟩⟩
  ·rintro ⟨q, h1, h2⟩ h
   rw [gl_lt h1, h _ (List.getElem_mem _)] at h2
   cases h2
  ·intro h
   refine Classical.byContradiction fun hn => h fun t ht => ?_
   obtain ⟨i, hi, rfl⟩ := List.mem_iff_getElem.1 ht
   cases e : rowOk mp[i] with
   | true => rfl
   | false => exact absurd ⟨i, hi, by rw [gl_lt hi, e]; rfl⟩ hn
theorem mapped_fact (mp : List (List Int)) (hr : ∀ r ∈ mp, r.length < 1152921504606846976) : ∃ b, Ev (fun k => fact_mapped.f k mp) b ∧ (b = true ↔ MapOk mp) := by
  unfold fact_mapped.f
  by_cases h : mp.length ≤ 256
  ·obtain ⟨b, hb, k⟩ := has46 mp (by omega) hr
   refine ⟨!b, evp (by omega) (evb hb (evr _)), ?_⟩
   cases b with
   | true => exact ⟨fun e => (by cases e), fun e => absurd e.2 (k.1 rfl)⟩
   | false => exact ⟨fun _ => ⟨h, Classical.byContradiction (fun hn => by have := k.2 hn; cases this)⟩, fun _ => rfl⟩
  ·exact ⟨false, evn (by omega) (evr _), fun e => (by cases e), fun e => absurd e.1 h⟩
def put (c : Int) (r : List Int) : List S44 := r.map fun b => ⟨b, c⟩
def flat (l : List S44) (mp : List (List Int)) : List S44 := l.flatMap fun t => put t.f1 (rd_L2 mp t.f0)
theorem flat_take {l : List S44} {i : Nat} (h : i < l.length) (mp : List (List Int)) : flat (l.take (i + 1)) mp = flat (l.take i) mp ++ put (gd l i).f1 (rd_L2 mp (gd l i).f0) := by
  unfold flat
  rw [take_succ_gd h, List.flatMap_append]
  simp
theorem put_length (c : Int) (r : List Int) : (put c r).length = r.length := by simp [put]
theorem put_append (c : Int) (r s : List Int) : put c (r ++ s) = put c r ++ put c s := by simp [put]
theorem take_succ_gi {l : List Int} {j : Nat} (h : j < l.length) : l.take (j + 1) = l.take j ++ [gi l j] := by
  rw [gi_lt h, List.take_succ_eq_append_getElem h]
theorem flat_length {l : List S44} {mp : List (List Int)} {B : Nat} (h : ∀ t ∈ l, (rd_L2 mp t.f0).length ≤ B) : (flat l mp).length ≤ l.length * B := by
  unfold flat
  induction l with
  | nil => simp
  | cons t l ih =>
   rw [List.flatMap_cons, List.length_append, List.length_cons, put_length, Nat.add_mul]
   have := ih fun x hx => h x (by simp [hx])
   have := h t (by simp)
   omega
theorem map_l1 (l : List S44) (hl : l.length ≤ 64) (m : Int) (mp : List (List Int)) (i : Nat) (hi : i < l.length) (r : List Int) (hr : r.length ≤ 256) (o : List S44) (ho : o.length ≤ 1048576) (c0 c : Int) (x : List S44 × Int × Int)
   (n : Ev (fun k => fact_Map.l0 k mp (o ++ put c r) l l.length ((i + 1 : Nat) : Int) l m) x) (d : Nat) : ∀ j : Nat, r.length - j = d → j ≤ r.length →
   Ev (fun k => fact_Map.l1 k mp (o ++ put c (r.take j)) l l.length i r r.length j l m c0 c) x := by
  induction d with
  | zero =>
   intro j hd hj
   rw [List.take_of_length_le (by omega)]
   refine Ev.step (fun k => by rw [fact_Map.l1]) ?_
   refine evn (by omega) ?_
   rw [show wrap64 ((i : Int) + 1) = ((i + 1 : Nat) : Int) from by rw [w64] <;> omega]
   exact n
  | succ d ih =>
   intro j hd hj
   have hlen : (o ++ put c (r.take j)).length ≤ 1048576 + j := by
    rw [List.length_append, put_length, List.length_take]
    omega
   have g := ih (j + 1) (by omega) (by omega)
   rw [take_succ_gi (by omega), put_append, ← List.append_assoc] at g
   refine Ev.step (fun k => by rw [fact_Map.l1]) ?_
   refine evp (by omega) (evp (by omega) (evp (by omega) (evp (by omega) ?_)))
   rw [rd_gi, show wrap64 ((j : Int) + 1) = ((j + 1 : Nat) : Int) from by rw [w64] <;> omega]
   exact g
def MapIs (l : List S44) (m : Int) (mp : List (List Int)) (x : List S44 × Int × Int) : Prop :=
  (∃ e, ChkIs l m e ∧ e ≠ 0 ∧ x = ([], 0, e)) ∨ (l.length ≤ 64 ∧ Good l m ∧ ¬ MapOk mp ∧ x = ([], 0, 10)) ∨
  (l.length ≤ 64 ∧ Good l m ∧ MapOk mp ∧ (∃ t ∈ l, (mp.length : Int) ≤ t.f0) ∧ x = ([], 0, 11)) ∨
  (l.length ≤ 64 ∧ Good l m ∧ MapOk mp ∧ (∀ t ∈ l, t.f0 < (mp.length : Int)) ∧ OfIs (flat l mp) m x)
theorem MapIs.unique {l : List S44} {m : Int} {mp : List (List Int)} {x y : List S44 × Int × Int} (h : MapIs l m mp x) (k : MapIs l m mp y) : x = y := by
  have no : l.length ≤ 64 → Good l m → ∀ e, ChkIs l m e → e ≠ 0 → False := fun a b e he h0 => h0 (he.unique (Or.inr (Or.inr ⟨a, b, rfl⟩)))
  have no2 : (∃ t ∈ l, (mp.length : Int) ≤ t.f0) → (∀ t ∈ l, t.f0 < (mp.length : Int)) → False := fun ⟨t, ht, h1⟩ h2 => by have := h2 t ht; omega
  rcases h with ⟨e, a, b, rfl⟩ | ⟨a, b, c, rfl⟩ | ⟨a, b, c, d, rfl⟩ | ⟨a, b, c, d, f⟩ <;> rcases k with ⟨e', a', b', rfl⟩ | ⟨a', b', c', rfl⟩ | ⟨a', b', c', d', rfl⟩ | ⟨a', b', c', d', f'⟩ <;>
   first | rfl | contradiction | exact (no a' b' e a b).elim | exact (no a b e' a' b').elim | exact (no2 d d').elim | exact (no2 d' d).elim | exact f.unique f' | (rw [a.unique a'])
theorem map_l0 (l : List S44) (m : Int) (hl : l.length ≤ 64) (hG : Good l m) (mp : List (List Int)) (hm : MapOk mp) (d : Nat) : ∀ i : Nat, l.length - i = d → i ≤ l.length → (∀ t ∈ l.take i, t.f0 < (mp.length : Int)) →
   ∃ x, Ev (fun k => fact_Map.l0 k mp (flat (l.take i) mp) l l.length i l m) x ∧ MapIs l m mp x := by
  have rows : ∀ t ∈ l, t.f0 < (mp.length : Int) → (rd_L2 mp t.f0).length ≤ 256 := fun t ht h => (rowOk_iff.1 (hm.2 _ (rdl_mem (by
   have := hG.fine.2 t ht
   rw [okT_iff, blk_iff] at this
   exact this.1.1) h))).1
  have flen : ∀ i, (∀ t ∈ l.take i, t.f0 < (mp.length : Int)) → (flat (l.take i) mp).length ≤ 16384 := fun i h => by
   have h1 := flat_length (l := l.take i) (mp := mp) (B := 256) fun t ht => rows t (List.mem_of_mem_take ht) (h t ht)
   have h2 : (l.take i).length ≤ 64 := by rw [List.length_take]; omega
   omega
  induction d with
  | zero =>
   intro i hd hi h
   have := flen i h
   rw [List.take_of_length_le (by omega)] at h this ⊢
   obtain ⟨x, hx, k⟩ := of_fact (flat l mp) m (by omega)
   refine ⟨x, ?_, Or.inr (Or.inr (Or.inr ⟨hl, hG, hm, h, k⟩))⟩
   refine Ev.step (fun k => by rw [fact_Map.l0]) ?_
   exact evn (by omega) (evb hx (evr _))
  | succ d ih =>
   intro i hd hi h
   have hi1 : i < l.length := by omega
   have ht := hG.fine.2 _ (List.getElem_mem hi1)
   rw [← gd_lt hi1, okT_iff, blk_iff] at ht
   by_cases h1 : (gd l i).f0 < (mp.length : Int)
   ·obtain ⟨x, hx, k⟩ := ih (i + 1) (by omega) (by omega) (fun t ht => by
     rw [take_succ_gd hi1] at ht
     rcases List.mem_append.1 ht with ht | ht
     ·exact h t ht
     ·rw [List.mem_singleton.1 ht]; exact h1)
    refine ⟨x, ?_, k⟩
    rw [flat_take hi1] at hx
    have hr := rows (gd l i) (by rw [gd_lt hi1]; exact List.getElem_mem _) h1
    have g : Ev (fun k => fact_Map.l1 k mp (flat (l.take i) mp) l l.length i (rd_L2 mp (gd l i).f0) (rd_L2 mp (gd l i).f0).length 0 l m (gd l i).f0 (gd l i).f1) x := by
     have := map_l1 l hl m mp i hi1 (rd_L2 mp (gd l i).f0) hr (flat (l.take i) mp) (by have := flen i h; omega) (gd l i).f0 (gd l i).f1 x hx _ 0 rfl (by omega)
     simpa [put] using this
    refine Ev.step (fun k => by rw [fact_Map.l0]) ?_
    refine evp (by omega) (evp (by omega) (evp (by omega) ?_))
    rw [rd_gd]
    exact evn (by omega) (evp ht.1.1 (evp h1 g))
   ·refine ⟨([], 0, 11), ?_, Or.inr (Or.inr (Or.inl ⟨hl, hG, hm, ⟨gd l i, by rw [gd_lt hi1]; exact List.getElem_mem _, by omega⟩, rfl⟩))⟩
    refine Ev.step (fun k => by rw [fact_Map.l0]) ?_
    refine evp (by omega) (evp (by omega) (evp (by omega) ?_))
    rw [rd_gd]
    exact evp (by omega) (evr _)
theorem map_fact (l : List S44) (m : Int) (mp : List (List Int)) (hr : ∀ r ∈ mp, r.length < 1152921504606846976) : ∃ x, Ev (fun k => fact_Map.f k l m mp) x ∧ MapIs l m mp x := by
  obtain ⟨e, he, k⟩ := check_fact l m
  unfold fact_Map.f
  by_cases h0 : e = 0
  ·obtain ⟨hl, hG⟩ := k.zero h0
   subst h0
   obtain ⟨b, hb, kb⟩ := mapped_fact mp hr
   cases b with
   | true =>
    obtain ⟨x, hx, k⟩ := map_l0 l m hl hG mp (kb.1 rfl) _ 0 rfl (by omega) (by simp)
    replace hx : Ev (fun k => fact_Map.l0 k mp [] l l.length 0 l m) x := hx
    exact ⟨x, evb he (evp rfl (evb hb (evp rfl hx))), k⟩
   | false => exact ⟨_, evb he (evp rfl (evb hb (evn (by simp) (evr _)))), Or.inr (Or.inl ⟨hl, hG, (fun c => by have := kb.2 c; cases this), rfl⟩)⟩
  ·exact ⟨_, evb he (evn h0 (evr _)), Or.inl ⟨e, k, h0, rfl⟩⟩
def through (r : List Int) (m2 : List (List Int)) : List Int := r.flatMap fun x => rd_L2 m2 x
def pts (m1 m2 : List (List Int)) : List (List Int) := m1.map fun r => through r m2
def big (m : List (List Int)) : Bool := m.any fun r => decide (256 < r.length)
def Past (m1 m2 : List (List Int)) : Prop := ∃ r ∈ m1, ∃ x ∈ r, (m2.length : Int) ≤ x
def PtsIs (m1 m2 : List (List Int)) (x : List (List Int) × Int) : Prop :=
  (¬ (MapOk m1 ∧ MapOk m2) ∧ x = ([], 10)) ∨ (MapOk m1 ∧ MapOk m2 ∧ Past m1 m2 ∧ x = ([], 11)) ∨
  (MapOk m1 ∧ MapOk m2 ∧ ¬ Past m1 m2 ∧ big (pts m1 m2) = true ∧ x = ([], 4)) ∨ (MapOk m1 ∧ MapOk m2 ∧ ¬ Past m1 m2 ∧ big (pts m1 m2) = false ∧ x = (pts m1 m2, 0))
theorem PtsIs.unique {m1 m2 : List (List Int)} {x y : List (List Int) × Int} (h : PtsIs m1 m2 x) (k : PtsIs m1 m2 y) : x = y := by
  rcases h with ⟨a, rfl⟩ | ⟨a, b, c, rfl⟩ | ⟨a, b, c, d, rfl⟩ | ⟨a, b, c, d, rfl⟩ <;> rcases k with ⟨a', rfl⟩ | ⟨a', b', c', rfl⟩ | ⟨a', b', c', d', rfl⟩ | ⟨a', b', c', d', rfl⟩ <;>
   first | rfl | contradiction | exact absurd ⟨a, b⟩ a' | exact absurd ⟨a', b'⟩ a | (rw [d] at d'; cases d')
end Go.Proofs.Ytikpfbfeoifmkaa.Z
end
section
namespace Go.Proofs.Ytikpfbfeoifmkaa.X
open Go.RowKit Go.Proofs.YtikpfbfeoifmkaaW.PrintWords Go.Proofs.YtikpfbfeoifmkaaW.PrintLast Go.Proofs.YtikpfbfeoifmkaaW.PrintMore
attribute [local go_sem] max2_int min2_int max_two min_two max_three min_three max_four min_four
set_option linter.unusedVariables false
set_option linter.unusedSimpArgs false
def fact_times.l0 : Nat → Int → List (S44) → List (S44) → Int → Int → Option ((List (S44)))
  | 0, _, _, _, _, _ => none
  | k + 1, x1, x5, x9, x10, x11 => if x11 < x10 then (if 0 ≤ x11 then (if x11 < (x9.length : Int) then (if x5.length < 8796093022208 then (fact_times.l0 k x1 (x5 ++ [(⟨(rd_T44 x9 x11).f0, wrap64 (((rd_T44 x9 x11).f1) * x1)⟩ : S44)]) x9 x10 (wrap64 (x11 + 1))) else (none)) else (none)) else (none)) else (some x5)
def fact_times.f (k : Nat) (l0_0 : List (S44)) (a0_1 : Int) (a1 : Int) : Option ((List (S44))) := fact_times.l0 k a1 ([] : List (S44)) l0_0 (l0_0.length : Int) 0
end Go.Proofs.Ytikpfbfeoifmkaa.X
end
