/- Part 2 of the walks and lemmas for the law that the last text proves. -/
import Derived.Test.YtikpfbfeoifmkaaFactOrderPart1
import Derived.WalkSpells
import Derived.Outline
section
namespace Go.Proofs.Ytikpfbfeoifmkaa.X
open Go.RowKit Go.Proofs.YtikpfbfeoifmkaaW.PrintWords Go.Proofs.YtikpfbfeoifmkaaW.PrintLast Go.Proofs.YtikpfbfeoifmkaaW.PrintMore
attribute [local go_sem] max2_int min2_int max_two min_two max_three min_three max_four min_four
set_option linter.unusedVariables false
set_option linter.unusedSimpArgs false
mutual
def api_Term_59_at52.l0 : Nat → List (S44) → Int → Int → Int → Option ((List (S44)))
  | 0, _, _, _, _ => none
  | k + 1, x0, x1, x2, x8 => if x8 < x2 then (api_Term_59_at52.l1 k x0 x1 x2 x8 x8) else (some x0)
def api_Term_59_at52.l1 : Nat → List (S44) → Int → Int → Int → Int → Option ((List (S44)))
  | 0, _, _, _, _, _ => none
  | k + 1, x0, x1, x2, x8, x9 => if x9 > x1 then (if 0 ≤ x9 then (if x9 < (x0.length : Int) then (if 0 ≤ (wrap64 (x9 - 1)) then (if (wrap64 (x9 - 1)) < (x0.length : Int) then ((fact_gather_1.f ((rd_T44 x0 x9).f0) ((rd_T44 x0 x9).f1) ((rd_T44 x0 (wrap64 (x9 - 1))).f0) ((rd_T44 x0 (wrap64 (x9 - 1))).f1)).bind fun t103 => (if t103 < 0 then (api_Term_59_at52.l1 k ((x0.set (x9 : Int).toNat (⟨(rd_T44 x0 (wrap64 (x9 - 1))).f0, (rd_T44 x0 (wrap64 (x9 - 1))).f1⟩ : S44)).set ((wrap64 (x9 - 1)) : Int).toNat (⟨(rd_T44 x0 x9).f0, (rd_T44 x0 x9).f1⟩ : S44)) x1 x2 x8 (wrap64 (x9 - 1))) else (api_Term_59_at52.l0 k x0 x1 x2 (wrap64 (x8 + 1))))) else (none)) else (none)) else (none)) else (none)) else (api_Term_59_at52.l0 k x0 x1 x2 (wrap64 (x8 + 1)))
end
def api_Term_59_at52.f (k : Nat) (l0 : List (S44)) (a1 : Int) (a2 : Int)  : Option ((List (S44))) := api_Term_59_at52.l0 k l0 a1 a2 (wrap64 (a1 + 1))
theorem api_Term_59_at52.mono_l : ∀ k, (∀ y0 y1 y2 y3, LeO (api_Term_59_at52.l0 k y0 y1 y2 y3) (api_Term_59_at52.l0 (k + 1) y0 y1 y2 y3)) ∧ (∀ y0 y1 y2 y3 y4, LeO (api_Term_59_at52.l1 k y0 y1 y2 y3 y4) (api_Term_59_at52.l1 (k + 1) y0 y1 y2 y3 y4))
  | 0 => ⟨fun _ _ _ _ r h => by simp [api_Term_59_at52.l0] at h, fun _ _ _ _ _ r h => by simp [api_Term_59_at52.l1] at h⟩
  | k + 1 => by
   obtain ⟨ih0, ih1⟩ := api_Term_59_at52.mono_l k
   refine ⟨?_, ?_⟩
   ·intro y0 y1 y2 y3
    unfold api_Term_59_at52.l0
    repeat' first
    | (with_reducible exact ih0 _ _ _ _)
    | (with_reducible exact ih1 _ _ _ _ _)
    | (with_reducible exact LeO.refl _)
    | (with_reducible exact LeO.none _)
    | (with_reducible refine LeO.ite ?_ ?_)
    | (with_reducible refine LeO.bind ?_ (fun _ => ?_))
    | exact ih0 _ _ _ _
    | exact ih1 _ _ _ _ _
    | exact LeO.none _
    | refine LeO.ite ?_ ?_
    | refine LeO.bind ?_ (fun _ => ?_)
   ·intro y0 y1 y2 y3 y4
    unfold api_Term_59_at52.l1
    repeat' first
    | (with_reducible exact ih0 _ _ _ _)
    | (with_reducible exact ih1 _ _ _ _ _)
    | (with_reducible exact LeO.refl _)
    | (with_reducible exact LeO.none _)
    | (with_reducible refine LeO.ite ?_ ?_)
    | (with_reducible refine LeO.bind ?_ (fun _ => ?_))
    | exact ih0 _ _ _ _
    | exact ih1 _ _ _ _ _
    | exact LeO.none _
    | refine LeO.ite ?_ ?_
    | refine LeO.bind ?_ (fun _ => ?_)
theorem api_Term_59_at52.mono : ∀ a0 a1 a2 k, LeO (api_Term_59_at52.f k a0 a1 a2) (api_Term_59_at52.f (k + 1) a0 a1 a2) := by
  intro a0 a1 a2 k
  obtain ⟨ih0, ih1⟩ := api_Term_59_at52.mono_l k
  unfold api_Term_59_at52.f
  repeat' first
    | (with_reducible exact ih0 _ _ _ _)
    | (with_reducible exact ih1 _ _ _ _ _)
    | (with_reducible exact LeO.refl _)
    | (with_reducible exact LeO.none _)
    | (with_reducible refine LeO.ite ?_ ?_)
    | (with_reducible refine LeO.bind ?_ (fun _ => ?_))
    | exact ih0 _ _ _ _
    | exact ih1 _ _ _ _ _
    | exact LeO.none _
    | refine LeO.ite ?_ ?_
    | refine LeO.bind ?_ (fun _ => ?_)
def api_Term_59_at52.T4 : Bool × List (List Nat × List Nat) := (true, [([], []), ([], []), ([0, 1], [0, 1]), ([2], [2]), ([3], [3]), ([3], [3]), ([3], [3]), ([5, 6, 3], [3, 5, 6]), ([7, 3], [3, 7]), ([3], [3]), ([3], [3]), ([10, 3], [3, 10]), ([9, 11, 3], [3, 9, 11]), ([12, 3], [3, 12]), ([4, 8, 13, 3, 3], [3, 4, 8, 13]), ([14, 3], [3, 14]), ([3, 15], [3, 15])])
def api_Term_59_at52.B4 : List Nat := [0, 0, 3, 7, 15, 15, 15, 111, 239, 15, 15, 1039, 3599, 7695, 16383, 32767, 65535]
theorem api_Term_59_at52.tab4 : rtab .any (opsOf Try.f59 4) = api_Term_59_at52.T4 := by kernel_rfl
theorem api_Term_59_at52.bits4 : waitsOk api_Term_59_at52.T4.2 api_Term_59_at52.B4 = true := by kernel_rfl
def api_Term_59_at52.T6 : Bool × List (List Nat × List Nat) := (true, [([], []), ([], []), ([], []), ([], []), ([3], [3]), ([], []), ([], []), ([6], [6]), ([5, 7], [5, 7]), ([8], [8]), ([], []), ([], []), ([10, 11], [10, 11]), ([12], [12]), ([0, 1, 0, 1, 5, 6, 7, 8, 9, 13], [0, 1]), ([14, 9, 0, 1, 5, 6, 7, 8, 9, 13], [9, 14]), ([2, 4, 0, 1, 2, 3, 4, 5, 6, 7, 8, 9, 10, 11, 12, 13, 14, 15], [2, 4]), ([16, 13, 15, 0, 1, 2, 3, 4, 5, 6, 7, 8, 9, 10, 11, 12, 13, 14, 15], [13, 16])])
def api_Term_59_at52.B6 : List Nat := [0, 0, 0, 0, 8, 0, 0, 64, 224, 480, 0, 0, 3072, 7168, 16355, 32739, 65535, 131071]
theorem api_Term_59_at52.tab6 : rtab .any (opsOf Try.f59 6) = api_Term_59_at52.T6 := by kernel_rfl
theorem api_Term_59_at52.bits6 : waitsOk api_Term_59_at52.T6.2 api_Term_59_at52.B6 = true := by kernel_rfl
abbrev api_Term_59_at52.b0 : Array Bool := X.bv36
abbrev api_Term_59_at52.b1 : Array Bool := X.bv37
abbrev api_Term_59_at52.b2 : Array Bool := X.bv38
abbrev api_Term_59_at52.b3 : Array Bool := X.bv39
abbrev api_Term_59_at52.b4 : Array Bool := X.bv40
abbrev api_Term_59_at52.b5 : Array Bool := X.bv41
abbrev api_Term_59_at52.b6 : Array Bool := X.bv42
abbrev api_Term_59_at52.b7 : Array Bool := X.bv43
abbrev api_Term_59_at52.b8 : Array Bool := X.bv44
abbrev api_Term_59_at52.b9 : Array Bool := X.bv45
abbrev api_Term_59_at52.b10 : Array Bool := X.bv46
abbrev api_Term_59_at52.b11 : Array Bool := X.bv47
abbrev api_Term_59_at52.b12 : Array Bool := X.bv48
abbrev api_Term_59_at52.b13 : Array Bool := X.bv49
abbrev api_Term_59_at52.b14 : Array Bool := X.bv50
abbrev api_Term_59_at52.b15 : Array Bool := X.bv51
abbrev api_Term_59_at52.b16 : Array Bool := X.bv52
abbrev api_Term_59_at52.b17 : Array Bool := X.bv53
abbrev api_Term_59_at52.b18 : Array Bool := X.bv54
abbrev api_Term_59_at52.b19 : Array Bool := X.bv55
abbrev api_Term_59_at52.b20 : Array Bool := X.bv56
abbrev api_Term_59_at52.b21 : Array Bool := X.bv57
abbrev api_Term_59_at52.b22 : Array Bool := X.bv58
abbrev api_Term_59_at52.b23 : Array Bool := X.bv59
abbrev api_Term_59_at52.b24 : Array Bool := X.bv60
abbrev api_Term_59_at52.b25 : Array Bool := X.bv61
abbrev api_Term_59_at52.b26 : Array Bool := X.bv62
abbrev api_Term_59_at52.b27 : Array Bool := X.bv63
abbrev api_Term_59_at52.b28 : Array Bool := X.bv64
abbrev api_Term_59_at52.b29 : Array Bool := X.bv65
abbrev api_Term_59_at52.b30 : Array Bool := X.bv66
abbrev api_Term_59_at52.b31 : Array Bool := X.bv67
abbrev api_Term_59_at52.b32 : Array Bool := X.bv68
abbrev api_Term_59_at52.b33 : Array Bool := X.bv69
abbrev api_Term_59_at52.b34 : Array Bool := X.bv70
abbrev api_Term_59_at52.b35 : Array Bool := X.bv71
abbrev api_Term_59_at52.b36 : Array Bool := X.bv72
abbrev api_Term_59_at52.b37 : Array Bool := X.bv73
abbrev api_Term_59_at52.b38 : Array Bool := X.bv74
abbrev api_Term_59_at52.b39 : Array Bool := X.bv75
abbrev api_Term_59_at52.b40 : Array Bool := X.bv76
set_option maxHeartbeats 8000000 in
set_option maxRecDepth 100000 in
theorem api_Term_59_at52.calls (k : Nat) (P0_ : Nat → Prop) (u9000_ : Value) (l0 : List (S44)) (a1 : Int) (a2 : Int)  (r : List (S44)) (w0 w : World) (hB : Below w0.heap.size w0 w) (ho0 : Kd.R k44 44 w w0.heap.size P0_ u9000_ l0) (h : api_Term_59_at52.f k l0 a1 a2 = some r) :
   Calls Try.prog 59 #[u9000_, .int .i64 a1, .int .i64 a2, .func (.func 52) #[] #[]] w fun e w' => e = .returned (.tuple #[]) ∧ Kd.R k44 44 w' w0.heap.size (fun k_ => (P0_ k_ ∨ w.heap.size ≤ k_)) u9000_ r ∧ Below w0.heap.size w0 w' ∧ Kept w w' (fun k_ => P0_ k_) := by
  have hu44 := Try.underlying44
  have HO0 := Aside0.mk (show Kd.R k44 44 w w0.heap.size (fun k_ => (P0_ k_ ∨ w.heap.size ≤ k_)) u9000_ l0 from Kd.R_mono ho0 (fun k_ hk => (.inl hk)))
  have HK := Aside0.mk (Kept.refl w (fun k_ => P0_ k_))
  have HW0 := Aside0.mk hB.size
  have HB := Aside0.mk hB
  clear hB
  have H : (api_Term_59_at52.l0 k l0 a1 a2 (wrap64 (a1 + 1))) = some r := h
  clear h
  have H' := Aside0.mk H
  clear H
  go_enter Try.func59, Try.ntmps59
  go_wp2
  go_loopg [8] k (fun kq v8 w' => ∃ (x0_1 : List (S44)) (x8_1 : Int), v8 = .int .i64 x8_1 ∧ Aside0 (api_Term_59_at52.l0 kq x0_1 a1 a2 x8_1 = some r) ∧ Aside0 (kq ≤ k) ∧ Aside0 (Kd.R k44 44 w' w0.heap.size (fun k_ => (P0_ k_ ∨ w.heap.size ≤ k_)) u9000_ x0_1) ∧ Aside0 (Kept w w' (fun k_ => P0_ k_)) ∧ Aside0 (Below w0.heap.size w0 w'))
  case atStart => exact ⟨(l0), (wrap64 (a1 + 1)), rS, H', ⟨Nat.le_refl _⟩, ⟨rK HO0.out⟩, ⟨kP HK.out⟩, ⟨hB0 HB.out⟩⟩
  case round =>
   clear H'
   obtain ⟨x0_1, x8_1, rfl, HA, HK1, HO_0, HK, HB⟩ := hrel
   cases gk with
   | zero => exact absurd HA.out (by simp [api_Term_59_at52.l0])
   | succ k1 =>
    have H := HA.out
    clear HA
    simp only [api_Term_59_at52.l0] at H
    by_cases c5 : x8_1 < a2
    ·rw [if_pos c5] at H
     have c5b0 : decide (x8_1 < a2) = true := decide_eq_true c5
     clear c5
     have H' := Aside0.mk H
     clear H
     go_wp2
     go_loopg [9] k1 (fun kq v9 w' => ∃ (x0_2 : List (S44)) (x9_2 : Int), v9 = .int .i64 x9_2 ∧ Aside0 (api_Term_59_at52.l1 kq x0_2 a1 a2 x8_1 x9_2 = some r) ∧ Aside0 (kq ≤ k1) ∧ Aside0 (Kd.R k44 44 w' w0.heap.size (fun k_ => (P0_ k_ ∨ w.heap.size ≤ k_)) u9000_ x0_2) ∧ Aside0 (Kept w w' (fun k_ => P0_ k_)) ∧ Aside0 (Below w0.heap.size w0 w'))
     case atStart => exact ⟨(x0_1), (x8_1), rS, H', ⟨Nat.le_refl _⟩, ⟨rK HO_0.out⟩, ⟨kP HK.out⟩, ⟨hB0 HB.out⟩⟩
     case round =>
      clear H'
      try clear c5b0
      obtain ⟨x0_2, x9_2, rfl, HA, HK2, HO_0, HK, HB⟩ := hrel
      cases gk with
      | zero => exact absurd HA.out (by simp [api_Term_59_at52.l1])
      | succ k2 =>
       have H := HA.out
       clear HA
       simp only [api_Term_59_at52.l1] at H
       by_cases c6 : x9_2 > a1
       ·rw [if_pos c6] at H
        have c6b0 : decide (a1 < x9_2) = true := decide_eq_true c6
        clear c6
        by_cases c7 : 0 ≤ x9_2
        ·rw [if_pos c7] at H
         have c7b0 : decide (0 ≤ x9_2) = true := decide_eq_true c7
         clear c7
         by_cases c8 : x9_2 < (x0_2.length : Int)
         ·rw [if_pos c8] at H
          have c8b0 : decide (x9_2 < (x0_2.length : Int)) = true := decide_eq_true c8
          clear c8
          obtain ⟨ji9, hji9⟩ : ∃ j_ : Int, (wrap64 (x9_2 - 1)) = j_ := ⟨_, rfl⟩
          replace H : (if 0 ≤ (ji9) then (if (ji9) < (x0_2.length : Int) then ((fact_gather_1.f ((rd_T44 x0_2 x9_2).f0) ((rd_T44 x0_2 x9_2).f1) ((rd_T44 x0_2 (ji9)).f0) ((rd_T44 x0_2 (ji9)).f1)).bind fun t103 => (if t103 < 0 then (api_Term_59_at52.l1 k2 ((x0_2.set (x9_2 : Int).toNat (⟨(rd_T44 x0_2 (ji9)).f0, (rd_T44 x0_2 (ji9)).f1⟩ : S44)).set ((ji9) : Int).toNat (⟨(rd_T44 x0_2 x9_2).f0, (rd_T44 x0_2 x9_2).f1⟩ : S44)) a1 a2 x8_1 ji9) else (api_Term_59_at52.l0 k2 x0_2 a1 a2 (wrap64 (x8_1 + 1))))) else (none)) else (none)) = some r := by first | (rw [hji9] at H; exact H) | (simp only [hji9] at H ⊢; exact H)
          have hji9w : (IntKind.i64.wrap (x9_2 - 1)) = ji9 := (i64_w _).trans hji9
          by_cases c10 : 0 ≤ (ji9)
          ·rw [if_pos c10] at H
           have c10b0 : decide (0 ≤ (ji9)) = true := decide_eq_true c10
           clear c10
           by_cases c11 : (ji9) < (x0_2.length : Int)
           ·rw [if_pos c11] at H
            have c11b0 : decide ((ji9) < (x0_2.length : Int)) = true := decide_eq_true c11
            clear c11
            replace H := Option.bind_eq_some_iff.mp H
            obtain ⟨t103, A120, H⟩ := H
            replace H : (if t103 < 0 then (api_Term_59_at52.l1 k2 ((x0_2.set (x9_2 : Int).toNat (⟨(rd_T44 x0_2 (ji9)).f0, (rd_T44 x0_2 (ji9)).f1⟩ : S44)).set ((ji9) : Int).toNat (⟨(rd_T44 x0_2 x9_2).f0, (rd_T44 x0_2 x9_2).f1⟩ : S44)) a1 a2 x8_1 ji9) else (api_Term_59_at52.l0 k2 x0_2 a1 a2 (wrap64 (x8_1 + 1)))) = some r := H
            have A12 := Aside0.mk A120
            clear A120
            by_cases c13 : t103 < 0
            ·rw [if_pos c13] at H
             have c13b0 : decide (t103 < 0) = true := decide_eq_true c13
             clear c13
             obtain ⟨y106, hy106⟩ : ∃ y_ : List (S44), y_ = (x0_2.set (x9_2 : Int).toNat (⟨(rd_T44 x0_2 (ji9)).f0, (rd_T44 x0_2 (ji9)).f1⟩ : S44)) := ⟨_, rfl⟩
             replace H : (api_Term_59_at52.l1 k2 (y106.set ((ji9) : Int).toNat (⟨(rd_T44 x0_2 x9_2).f0, (rd_T44 x0_2 x9_2).f1⟩ : S44)) a1 a2 x8_1 ji9) = some r := by first | (rw [hy106]; with_reducible exact H) | (have H2_ := (Option.bind_some _ _).symm.trans H; rw [hy106]; with_reducible exact H2_) | (have H2_ := (Option.bind_some _ _).symm.trans H; with_reducible exact H2_) | with_reducible exact H | (rw [hy106]; exact H) | exact H
             have Ny106 := Aside0.mk hy106
             clear hy106
             obtain ⟨y107, hy107⟩ : ∃ y_ : List (S44), y_ = (y106.set ((ji9) : Int).toNat (⟨(rd_T44 x0_2 x9_2).f0, (rd_T44 x0_2 x9_2).f1⟩ : S44)) := ⟨_, rfl⟩
             replace H : (api_Term_59_at52.l1 k2 y107 a1 a2 x8_1 ji9) = some r := by first | (rw [hy107]; with_reducible exact H) | (have H2_ := (Option.bind_some _ _).symm.trans H; rw [hy107]; with_reducible exact H2_) | (have H2_ := (Option.bind_some _ _).symm.trans H; with_reducible exact H2_) | with_reducible exact H | (rw [hy107]; exact H) | exact H
             have Ny107 := Aside0.mk hy107
             clear hy107
             have H' := Aside0.mk H
             clear H
             try go_wp2
             have n0_ := Aside0.mk (Kd.R_drew HO_0.out)
             have n1_ := Aside0.mk (Kept.drew HK.out)
             have n2_ := Aside0.mk (below_drew1 HB.out)
             clear HO_0
             clear HK
             clear HB
             have HO_0 := n0_
             have HK := n1_
             have HB := n2_
             clear n0_ n1_ n2_
             obtain ⟨Ao17, co17, eo17⟩ := Kd.R_slice HO_0.out
             (first | subst eo17 | (injection eo17 with f1_ f2_ f3_; have f4_ := f1_.symm; have f5_ := f3_.symm; clear f1_ f2_ f3_; subst f4_; subst f5_))
             have p101 : 0 ≤ (x9_2 : Int) := oD
             have q101 : x9_2 < (x0_2.length : Int) := oD
             obtain ⟨ad101, e101, hx101_0, hx101_1⟩ := at_T44 (Kd.R_reads' HO_0.out).2.2 x9_2 p101 q101
             cases e101
             replace p101 := eq_true p101
             replace q101 := eq_true q101
             have p102 : 0 ≤ ((ji9) : Int) := oD
             have q102 : (ji9) < (x0_2.length : Int) := oD
             obtain ⟨ad102, e102, hx102_0, hx102_1⟩ := at_T44 (Kd.R_reads' HO_0.out).2.2 (ji9) p102 q102
             obtain rfl : ad101 = ad102 := (by injection e102)
             replace p102 := eq_true p102
             replace q102 := eq_true q102
             refine start_ (n := 17) (S := fun w' => w'.cell? (ad101.add ((x9_2).toNat * 2)) = some (.int .i64 ((rd_T44 x0_2 x9_2).f0)) ∧ w'.cell? ⟨(ad101.add ((x9_2).toNat * 2)).block, (ad101.add ((x9_2).toNat * 2)).off + 1, none⟩ = some (.int .i64 ((rd_T44 x0_2 x9_2).f1)) ∧ w'.cell? (ad101.add (((ji9)).toNat * 2)) = some (.int .i64 ((rd_T44 x0_2 (ji9)).f0)) ∧ w'.cell? ⟨(ad101.add (((ji9)).toNat * 2)).block, (ad101.add (((ji9)).toNat * 2)).off + 1, none⟩ = some (.int .i64 ((rd_T44 x0_2 (ji9)).f1))) (ds := []) api_Term_59_at52.b0 (by kernel_rfl) rfl rfl ⟨hx101_0, hx101_1, hx102_0, hx102_1⟩ (fun hHeld => ?_); refine with_tabW api_Term_59_at52.tab4 api_Term_59_at52.bits4 (fun HT_ HW_ => ?_)
             generalize wr.drew = w16 at HO_0 HK HB hx101_0 hx101_1 hx102_0 hx102_1 hHeld ⊢
             refine pY 0 (some 18) api_Term_59_at52.b1 rfl rfl HT_.out (fun _ _ _ h => h) ?_
             refine pY 1 (some 19) api_Term_59_at52.b2 rfl rfl HT_.out (fun _ _ _ h => h) ?_
             refine pY 2 (some 20) api_Term_59_at52.b3 rfl rfl HT_.out (fun _ _ _ h => h) ?_
             refine pY 3 (some 21) api_Term_59_at52.b4 rfl rfl HT_.out (fun _ _ _ h => h) ?_
             refine pY 4 (some 22) api_Term_59_at52.b5 rfl rfl HT_.out (fun _ _ _ h => h) ?_
             refine pY 5 (some 23) api_Term_59_at52.b6 rfl rfl HT_.out (fun _ _ _ h => h) ?_
             refine pY 6 (some 24) api_Term_59_at52.b7 rfl rfl HT_.out (fun _ _ _ h => h) ?_
             refine pY 7 (some 25) api_Term_59_at52.b8 rfl rfl HT_.out (fun _ _ _ h => h) ?_
             refine pY 9 (some 27) api_Term_59_at52.b9 rfl rfl HT_.out (fun _ _ _ h => h) ?_
             refine pY 10 (some 28) api_Term_59_at52.b10 rfl rfl HT_.out (fun _ _ _ h => h) ?_
             refine pY 11 (some 29) api_Term_59_at52.b11 rfl rfl HT_.out (fun _ _ _ h => h) ?_
             refine pY 12 (some 30) api_Term_59_at52.b12 rfl rfl HT_.out (fun _ _ _ h => h) ?_
             refine take_ (i := 8) (N := some 26) (v := ?_) (a' := ?_) api_Term_59_at52.b13 rfl rfl (take_ofW HT_.out HW_.out (by kernel_rfl)) (fun _ _ _ h => h) (Or.inl ⟨by rfl, ?_⟩) hHeld ?_ ?_
             rotate_left
             ·rintro w' ⟨s0, s1, s2, s3⟩
              go_simp
              with_reducible rfl
             rotate_left
             ·simp only [Act.put, List.setIfInBounds_toArray, List.set_cons_zero, List.set_cons_succ, i64_w, i32_w]
              rfl
             refine take_ (i := 13) (N := some 31) (v := ?_) (a' := ?_) api_Term_59_at52.b14 rfl rfl (take_ofW HT_.out HW_.out (by kernel_rfl)) (fun _ _ _ h => h) (Or.inl ⟨by rfl, ?_⟩) hHeld ?_ ?_
             rotate_left
             ·rintro w' ⟨s0, s1, s2, s3⟩
              go_simp
              with_reducible rfl
             rotate_left
             ·simp only [Act.put, List.setIfInBounds_toArray, List.set_cons_zero, List.set_cons_succ, i64_w, i32_w]
              rfl
             refine one_ (i := 14) (N := some 32) api_Term_59_at52.b15 rfl rfl (one_of HT_.out (by kernel_rfl)) (by decide) (fun K hK => ?_)
             refine goesT_ Try.func52 (by kernel_rfl) rfl #[.agg #[.int .i64 ((rd_T44 x0_2 x9_2).f0), .int .i64 ((rd_T44 x0_2 x9_2).f1)], .agg #[.int .i64 ((rd_T44 x0_2 (ji9)).f0), .int .i64 ((rd_T44 x0_2 (ji9)).f1)]] (by rfl) rfl rfl (by (try simp only [List.map_toArray, List.map_cons, List.map_nil]); first | done | (simp only [hji9]; rfl) | rfl | (simp only [List.length_drop, List.length_take]; rfl)) ?_
             with_reducible refine (fact_gather_1.calls ((rd_T44 x0_2 x9_2).f0) ((rd_T44 x0_2 x9_2).f1) ((rd_T44 x0_2 (ji9)).f0) ((rd_T44 x0_2 (ji9)).f1) t103 _ A12.out).mono ?_
             rintro e w18 ⟨rfl, hb⟩
             have HS0_ := (hb.cell (World.block_lt_of_cell? _ _ (hHeld.1))).trans (hHeld.1)
             have HS1_ := (hb.cell (World.block_lt_of_cell? _ _ (hHeld.2.1))).trans (hHeld.2.1)
             have HS2_ := (hb.cell (World.block_lt_of_cell? _ _ (hHeld.2.2.1))).trans (hHeld.2.2.1)
             have HS3_ := (hb.cell (World.block_lt_of_cell? _ _ (hHeld.2.2.2))).trans (hHeld.2.2.2)
             refine ⟨_, rfl, ?_⟩
             have n0_ := Aside0.mk (Kd.R_below (rK HO_0.out) hb)
             have n1_ := Aside0.mk (Kept.below (S := (fun k_ => P0_ k_)) (kP HK.out) hb)
             have n2_ := Aside0.mk (below_step (hB0 HB.out) hb)
             clear HO_0
             clear HK
             clear HB
             have HO_0 := n0_
             have HK := n1_
             have HB := n2_
             clear n0_ n1_ n2_
             (try clear hb)
             (try clear hb2)
             (try clear hk)
             (try clear hi)
             refine hK.out _ _ ⟨HS0_, HS1_, HS2_, HS3_⟩ (fun hHeld => ?_)
             clear hK K
             refine norm_ (a' := ?_) ?_ ?_
             rotate_left
             ·show Act.put _ (some 32) _ = _
              simp only [Act.put, List.setIfInBounds_toArray, List.set_cons_zero, List.set_cons_succ, i64_w, i32_w]
              rfl
             refine pY 15 (some 33) api_Term_59_at52.b16 rfl rfl HT_.out (fun _ _ _ h => h) ?_
             refine pY 16 (some 34) api_Term_59_at52.b17 rfl rfl HT_.out (fun _ _ _ h => h) ?_
             refine done_ (done_of HT_.out (by kernel_rfl)) ?_
             try go_wp2
             have n0_ := Aside0.mk (Kd.R_drew HO_0.out)
             have n1_ := Aside0.mk (Kept.drew HK.out)
             have n2_ := Aside0.mk (below_drew1 HB.out)
             clear HO_0
             clear HK
             clear HB
             have HO_0 := n0_
             have HK := n1_
             have HB := n2_
             clear n0_ n1_ n2_
             have p104 : 0 ≤ ((ji9) : Int) := oD
             have q104 : (ji9) < (x0_2.length : Int) := oD
             obtain ⟨ad104, e104, hx104_0, hx104_1⟩ := at_T44 (Kd.R_reads' HO_0.out).2.2 (ji9) p104 q104
             obtain rfl : ad101 = ad104 := (by injection e104)
             replace p104 := eq_true p104
             replace q104 := eq_true q104
             have p105 : 0 ≤ (x9_2 : Int) := oD
             have q105 : x9_2 < (x0_2.length : Int) := oD
             obtain ⟨ad105, e105, hx105_0, hx105_1⟩ := at_T44 (Kd.R_reads' HO_0.out).2.2 x9_2 p105 q105
             obtain rfl : ad101 = ad105 := (by injection e105)
             replace p105 := eq_true p105
             replace q105 := eq_true q105
             have p14 : 0 ≤ (x9_2 : Int) := oD
             have q14 : (x9_2 : Int) < ((x0_2.length : Int) : Int) := oD
             obtain ⟨go14, co14, eo14, gb14, gl14, cl14, HG14⟩ := Kd.R_form HO_0.out (by omega)
             (first | cases eo14 | (injection eo14 with ea_ en_ ec_; (first | subst ea_ | (injection ea_ with ea_; subst ea_)); subst ec_; clear en_))
             have GB14 := Aside0.mk gb14
             have GG14 := Aside0.mk HG14
             clear gb14 gl14 HG14
             have HMgo14 := Aside0.mk (show (P0_ go14 ∨ w.heap.size ≤ go14) from (HO_0.out.1 _ rfl))
             (first | simp only [add_plain] at hx101_0 | skip)
             (first | simp only [add_plain] at hx101_1 | skip)
             (first | simp only [add_plain] at hx102_0 | skip)
             (first | simp only [add_plain] at hx102_1 | skip)
             (first | simp only [add_plain] at hx104_0 | skip)
             (first | simp only [add_plain] at hx104_1 | skip)
             (first | simp only [add_plain] at hx105_0 | skip)
             (first | simp only [add_plain] at hx105_1 | skip)
             obtain ⟨ce14, hcl14, hM14, hcc14, hfr14⟩ := Kd.R_elem HO_0.out z44 (x9_2 : Int) p14 q14
             obtain rfl := k44_openM hM14
             have hx14_0 : World.cell? _ ⟨go14, (x9_2 : Int).toNat * 2, none⟩ = some (.int .i64 ((rd_T44 x0_2 x9_2).f0)) := hcc14 0 _ rfl
             have hx14_1 : World.cell? _ ⟨go14, (x9_2 : Int).toNat * 2 + 1, none⟩ = some (.int .i64 ((rd_T44 x0_2 x9_2).f1)) := hcc14 1 _ rfl
             have hf14_0 : World.frozen? _ ⟨go14, (x9_2 : Int).toNat * 2, none⟩ = false := hfr14 0
             have hf14_1 : World.frozen? _ ⟨go14, (x9_2 : Int).toNat * 2 + 1, none⟩ = false := hfr14 1
             clear hcl14 hcc14 hfr14 hM14
             replace p14 := eq_true p14
             replace q14 := eq_true q14
             obtain ⟨ce20, hcl20, hM20, hcc20, hfr20⟩ := Kd.R_elem HO_0.out z44 (x9_2 : Int) (oD) (by have h_ : (x9_2 : Int) < ((x0_2.length : Int) : Int) := oD; first | exact h_ | (have e_ := (Kd.R_reads' HO_0.out).1; omega) | simpa using h_)
             obtain rfl := k44_openM hM20
             have HP20 := (Kd.R_seg HO_0.out (x9_2 : Int) (oD) (by have h_ : (x9_2 : Int) < ((x0_2.length : Int) : Int) := oD; first | exact h_ | (have e_ := (Kd.R_reads' HO_0.out).1; omega) | simpa using h_) (seg := [.int .i64 ((rd_T44 x0_2 (ji9)).f0), .int .i64 ((rd_T44 x0_2 (ji9)).f1)]) (j := 0) hcl20 hcc20 (show 2 ≤ 2 from by decide) (x' := (⟨(rd_T44 x0_2 (ji9)).f0, (rd_T44 x0_2 (ji9)).f1⟩ : S44)) (k44_mkM _ _ _ (⟨(rd_T44 x0_2 (ji9)).f0, (rd_T44 x0_2 (ji9)).f1⟩ : S44) ) (fun _ hk => hk)).1
             rw [← Ny106.out] at HP20
             have HQ20 := Aside0.mk HP20
             clear hcl20 hcc20 hfr20 hM20 HP20
             have p15 : 0 ≤ ((ji9) : Int) := oD
             have q15 : ((ji9) : Int) < ((x0_2.length : Int) : Int) := oD
             obtain ⟨ce15, hcl15, hM15, hcc15, hfr15⟩ := Kd.R_elem HQ20.out z44 ((ji9) : Int) p15 q15
             obtain rfl := k44_openM hM15
             have hx15_0 : World.cell? _ ⟨go14, ((ji9) : Int).toNat * 2, none⟩ = some (.int .i64 ((rd_T44 y106 (ji9)).f0)) := hcc15 0 _ rfl
             have hx15_1 : World.cell? _ ⟨go14, ((ji9) : Int).toNat * 2 + 1, none⟩ = some (.int .i64 ((rd_T44 y106 (ji9)).f1)) := hcc15 1 _ rfl
             have hf15_0 : World.frozen? _ ⟨go14, ((ji9) : Int).toNat * 2, none⟩ = false := hfr15 0
             have hf15_1 : World.frozen? _ ⟨go14, ((ji9) : Int).toNat * 2 + 1, none⟩ = false := hfr15 1
             clear hcl15 hcc15 hfr15 hM15
             replace p15 := eq_true p15
             replace q15 := eq_true q15
             obtain ⟨ce21, hcl21, hM21, hcc21, hfr21⟩ := Kd.R_elem HQ20.out z44 ((ji9) : Int) (oD) (by have h_ : ((ji9) : Int) < ((x0_2.length : Int) : Int) := oD; first | exact h_ | (have e_ := (Kd.R_reads' HO_0.out).1; omega) | simpa using h_)
             obtain rfl := k44_openM hM21
             have HP21 := (Kd.R_seg HQ20.out ((ji9) : Int) (oD) (by have h_ : ((ji9) : Int) < ((x0_2.length : Int) : Int) := oD; first | exact h_ | (have e_ := (Kd.R_reads' HO_0.out).1; omega) | simpa using h_) (seg := [.int .i64 ((rd_T44 x0_2 x9_2).f0), .int .i64 ((rd_T44 x0_2 x9_2).f1)]) (j := 0) hcl21 hcc21 (show 2 ≤ 2 from by decide) (x' := (⟨(rd_T44 x0_2 x9_2).f0, (rd_T44 x0_2 x9_2).f1⟩ : S44)) (k44_mkM _ _ _ (⟨(rd_T44 x0_2 x9_2).f0, (rd_T44 x0_2 x9_2).f1⟩ : S44) ) (fun _ hk => hk)).1
             rw [← Ny107.out] at HP21
             have HQ21 := Aside0.mk HP21
             clear hcl21 hcc21 hfr21 hM21 HP21
             refine start_ (n := 18) (S := fun w' => w'.cell? ⟨go14, ((ji9)).toNat * 2, none⟩ = some (.int .i64 ((rd_T44 x0_2 (ji9)).f0)) ∧ w'.cell? ⟨go14, (((ji9)).toNat * 2) + 1, none⟩ = some (.int .i64 ((rd_T44 x0_2 (ji9)).f1)) ∧ w'.cell? ⟨go14, ((x9_2).toNat * 2), none⟩ = some (.int .i64 ((rd_T44 x0_2 x9_2).f0)) ∧ w'.cell? ⟨go14, ((x9_2).toNat * 2) + 1, none⟩ = some (.int .i64 ((rd_T44 x0_2 x9_2).f1))) (ds := [15, 17]) api_Term_59_at52.b18 (by kernel_rfl) rfl rfl ⟨hx104_0, hx104_1, hx105_0, hx105_1⟩ (fun hHeld => ?_); refine with_tabW api_Term_59_at52.tab6 api_Term_59_at52.bits6 (fun HT_ HW_ => ?_)
             generalize w18.drew = w19 at HO_0 HK HB GG14 HQ20 HQ21 hf14_0 hf14_1 hf15_0 hf15_1 hx101_0 hx101_1 hx102_0 hx102_1 hx104_0 hx104_1 hx105_0 hx105_1 hx14_0 hx14_1 hx15_0 hx15_1 hHeld ⊢
             refine pY 0 (some 37) api_Term_59_at52.b19 rfl rfl HT_.out (fun _ _ _ h => h) ?_
             refine pY 1 (some 38) api_Term_59_at52.b20 rfl rfl HT_.out (fun _ _ _ h => h) ?_
             refine pY 2 (some 39) api_Term_59_at52.b21 rfl rfl HT_.out (fun _ _ _ h => h) ?_
             refine pY 3 (some 40) api_Term_59_at52.b22 rfl rfl HT_.out (fun _ _ _ h => h) ?_
             refine pY 4 (some 41) api_Term_59_at52.b23 rfl rfl HT_.out (fun _ _ _ h => h) ?_
             refine pY 5 (some 42) api_Term_59_at52.b24 rfl rfl HT_.out (fun _ _ _ h => h) ?_
             refine pY 6 (some 43) api_Term_59_at52.b25 rfl rfl HT_.out (fun _ _ _ h => h) ?_
             refine pY 7 (some 44) api_Term_59_at52.b26 rfl rfl HT_.out (fun _ _ _ h => h) ?_
             refine pY 8 (some 45) api_Term_59_at52.b27 rfl rfl HT_.out (fun _ _ _ h => h) ?_
             refine pY 10 (some 47) api_Term_59_at52.b28 rfl rfl HT_.out (fun _ _ _ h => h) ?_
             refine pY 11 (some 48) api_Term_59_at52.b29 rfl rfl HT_.out (fun _ _ _ h => h) ?_
             refine pY 12 (some 49) api_Term_59_at52.b30 rfl rfl HT_.out (fun _ _ _ h => h) ?_
             refine take_ (i := 9) (N := some 46) (v := ?_) (a' := ?_) api_Term_59_at52.b31 rfl rfl (take_ofW HT_.out HW_.out (by kernel_rfl)) (fun _ _ _ h => h) (Or.inl ⟨by rfl, ?_⟩) hHeld ?_ ?_
             rotate_left
             ·rintro w' ⟨s0, s1, s2, s3⟩
              go_simp
              with_reducible rfl
             rotate_left
             ·simp only [Act.put, List.setIfInBounds_toArray, List.set_cons_zero, List.set_cons_succ, i64_w, i32_w]
              rfl
             refine take_ (i := 13) (N := some 50) (v := ?_) (a' := ?_) api_Term_59_at52.b32 rfl rfl (take_ofW HT_.out HW_.out (by kernel_rfl)) (fun _ _ _ h => h) (Or.inl ⟨by rfl, ?_⟩) hHeld ?_ ?_
             rotate_left
             ·rintro w' ⟨s0, s1, s2, s3⟩
              go_simp
              with_reducible rfl
             rotate_left
             ·simp only [Act.put, List.setIfInBounds_toArray, List.set_cons_zero, List.set_cons_succ, i64_w, i32_w]
              rfl
             refine pY 14 (some 51) api_Term_59_at52.b33 rfl rfl HT_.out (fun _ _ _ h => h) ?_
             refine last_ (i := 15) (N := none) api_Term_59_at52.b34 rfl rfl (one_of HT_.out (by kernel_rfl)) (by decide) (fun K hK => ?_)
             refine skip_ (w1 := ?_) (by rfl) rfl ?_ ?_
             rotate_left
             ·(try (obtain ⟨va_, hva_⟩ := cell?_setCell_some (w := w19) (p := ⟨go14, (x9_2 : Int).toNat * 2, none⟩) (x := .int .i64 ((rd_T44 x0_2 (ji9)).f0)) (q := ⟨go14, ((ji9) : Int).toNat * 2, none⟩) (by assumption)))
              (try (obtain ⟨vb_, hvb_⟩ := cell?_setCell_some (w := w19) (p := ⟨go14, (x9_2 : Int).toNat * 2, none⟩) (x := .int .i64 ((rd_T44 x0_2 (ji9)).f0)) (q := ⟨go14, ((ji9) : Int).toNat * 2 + 1, none⟩) (by assumption); obtain ⟨vc_, hvc_⟩ := cell?_setCell_some (w := w19.setCell ⟨go14, (x9_2 : Int).toNat * 2, none⟩ (.int .i64 ((rd_T44 x0_2 (ji9)).f0))) (p := ⟨go14, (x9_2 : Int).toNat * 2 + 1, none⟩) (x := .int .i64 ((rd_T44 x0_2 (ji9)).f1)) (q := ⟨go14, ((ji9) : Int).toNat * 2 + 1, none⟩) hvb_))
              (try (have hfa0_ : w19.frozen? ⟨go14, ((ji9) : Int).toNat * 2, none⟩ = false := by have h_ := hf15_0; rw [World.frozen?_setCells] at h_; exact h_))
              (try (have hfa1_ : w19.frozen? ⟨go14, ((ji9) : Int).toNat * 2 + 1, none⟩ = false := by have h_ := hf15_1; rw [World.frozen?_setCells] at h_; exact h_))
              go_simp
              rfl
             refine hK.out _ _ ?_
             clear hK K
             refine pY 16 (some 52) api_Term_59_at52.b35 rfl rfl HT_.out (fun _ _ _ h => h) ?_
             refine last_ (i := 17) (N := none) api_Term_59_at52.b36 rfl rfl (one_of HT_.out (by kernel_rfl)) (by decide) (fun K hK => ?_)
             refine skip_ (w1 := ?_) (by rfl) rfl ?_ ?_
             rotate_left
             ·(try (obtain ⟨va_, hva_⟩ := cell?_setCell_some (w := w19) (p := ⟨go14, (x9_2 : Int).toNat * 2, none⟩) (x := .int .i64 ((rd_T44 x0_2 (ji9)).f0)) (q := ⟨go14, ((ji9) : Int).toNat * 2, none⟩) (by assumption)))
              (try (obtain ⟨vb_, hvb_⟩ := cell?_setCell_some (w := w19) (p := ⟨go14, (x9_2 : Int).toNat * 2, none⟩) (x := .int .i64 ((rd_T44 x0_2 (ji9)).f0)) (q := ⟨go14, ((ji9) : Int).toNat * 2 + 1, none⟩) (by assumption); obtain ⟨vc_, hvc_⟩ := cell?_setCell_some (w := w19.setCell ⟨go14, (x9_2 : Int).toNat * 2, none⟩ (.int .i64 ((rd_T44 x0_2 (ji9)).f0))) (p := ⟨go14, (x9_2 : Int).toNat * 2 + 1, none⟩) (x := .int .i64 ((rd_T44 x0_2 (ji9)).f1)) (q := ⟨go14, ((ji9) : Int).toNat * 2 + 1, none⟩) hvb_))
              (try (have hfa0_ : w19.frozen? ⟨go14, ((ji9) : Int).toNat * 2, none⟩ = false := by have h_ := hf15_0; rw [World.frozen?_setCells] at h_; exact h_))
              (try (have hfa1_ : w19.frozen? ⟨go14, ((ji9) : Int).toNat * 2 + 1, none⟩ = false := by have h_ := hf15_1; rw [World.frozen?_setCells] at h_; exact h_))
              go_simp
              rfl
             refine hK.out _ _ ?_
             clear hK K
             refine done_ (done_of HT_.out (by kernel_rfl)) ?_
             try go_wp2
             go_roundg k2
             case measure => have := HK1.out; have := HK2.out; omega
             case rel => exact ⟨(y107), (ji9), (by first | rfl | (simp; done) | (simp only [← hji9] <;> (first | rfl | simp)) | (simp [*]; done)), H', ⟨by have := HK1.out; have := HK2.out; omega⟩, ⟨rK HQ21.out⟩, ⟨by repeat (first | (with_reducible first | exact HK.out | apply Kept.alloc | apply Kept.drewN | apply Kept.drew | refine Kept.setCell ?_ HMgo14.out _ | refine Kept.setCell ?_ HMgo14.out _ | refine Kept.setCell ?_ HMgo14.out _ | refine Kept.setCell ?_ HMgo14.out _) | exact HK.out)⟩, ⟨hB4 HB.out GB14.out GB14.out GB14.out GB14.out⟩⟩
            ·rw [if_neg c13] at H
             have c13b0 : decide (t103 < 0) = false := decide_eq_false c13
             clear c13
             have H' := Aside0.mk H
             clear H
             try go_wp2
             have n0_ := Aside0.mk (Kd.R_drew HO_0.out)
             have n1_ := Aside0.mk (Kept.drew HK.out)
             have n2_ := Aside0.mk (below_drew1 HB.out)
             clear HO_0
             clear HK
             clear HB
             have HO_0 := n0_
             have HK := n1_
             have HB := n2_
             clear n0_ n1_ n2_
             obtain ⟨Ao23, co23, eo23⟩ := Kd.R_slice HO_0.out
             (first | subst eo23 | (injection eo23 with f1_ f2_ f3_; have f4_ := f1_.symm; have f5_ := f3_.symm; clear f1_ f2_ f3_; subst f4_; subst f5_))
             have p101 : 0 ≤ (x9_2 : Int) := oD
             have q101 : x9_2 < (x0_2.length : Int) := oD
             obtain ⟨ad101, e101, hx101_0, hx101_1⟩ := at_T44 (Kd.R_reads' HO_0.out).2.2 x9_2 p101 q101
             cases e101
             replace p101 := eq_true p101
             replace q101 := eq_true q101
             have p102 : 0 ≤ ((ji9) : Int) := oD
             have q102 : (ji9) < (x0_2.length : Int) := oD
             obtain ⟨ad102, e102, hx102_0, hx102_1⟩ := at_T44 (Kd.R_reads' HO_0.out).2.2 (ji9) p102 q102
             obtain rfl : ad101 = ad102 := (by injection e102)
             replace p102 := eq_true p102
             replace q102 := eq_true q102
             refine start_ (n := 17) (S := fun w' => w'.cell? (ad101.add ((x9_2).toNat * 2)) = some (.int .i64 ((rd_T44 x0_2 x9_2).f0)) ∧ w'.cell? ⟨(ad101.add ((x9_2).toNat * 2)).block, (ad101.add ((x9_2).toNat * 2)).off + 1, none⟩ = some (.int .i64 ((rd_T44 x0_2 x9_2).f1)) ∧ w'.cell? (ad101.add (((ji9)).toNat * 2)) = some (.int .i64 ((rd_T44 x0_2 (ji9)).f0)) ∧ w'.cell? ⟨(ad101.add (((ji9)).toNat * 2)).block, (ad101.add (((ji9)).toNat * 2)).off + 1, none⟩ = some (.int .i64 ((rd_T44 x0_2 (ji9)).f1))) (ds := []) api_Term_59_at52.b0 (by kernel_rfl) rfl rfl ⟨hx101_0, hx101_1, hx102_0, hx102_1⟩ (fun hHeld => ?_); refine with_tabW api_Term_59_at52.tab4 api_Term_59_at52.bits4 (fun HT_ HW_ => ?_)
             generalize wr.drew = w22 at HO_0 HK HB hx101_0 hx101_1 hx102_0 hx102_1 hHeld ⊢
             refine pY 0 (some 18) api_Term_59_at52.b1 rfl rfl HT_.out (fun _ _ _ h => h) ?_
             refine pY 1 (some 19) api_Term_59_at52.b2 rfl rfl HT_.out (fun _ _ _ h => h) ?_
             refine pY 2 (some 20) api_Term_59_at52.b3 rfl rfl HT_.out (fun _ _ _ h => h) ?_
             refine pY 3 (some 21) api_Term_59_at52.b4 rfl rfl HT_.out (fun _ _ _ h => h) ?_
             refine pY 4 (some 22) api_Term_59_at52.b5 rfl rfl HT_.out (fun _ _ _ h => h) ?_
             refine pY 5 (some 23) api_Term_59_at52.b6 rfl rfl HT_.out (fun _ _ _ h => h) ?_
             refine pY 6 (some 24) api_Term_59_at52.b7 rfl rfl HT_.out (fun _ _ _ h => h) ?_
             refine pY 7 (some 25) api_Term_59_at52.b8 rfl rfl HT_.out (fun _ _ _ h => h) ?_
             refine pY 9 (some 27) api_Term_59_at52.b9 rfl rfl HT_.out (fun _ _ _ h => h) ?_
             refine pY 10 (some 28) api_Term_59_at52.b10 rfl rfl HT_.out (fun _ _ _ h => h) ?_
             refine pY 11 (some 29) api_Term_59_at52.b11 rfl rfl HT_.out (fun _ _ _ h => h) ?_
             refine pY 12 (some 30) api_Term_59_at52.b12 rfl rfl HT_.out (fun _ _ _ h => h) ?_
             refine take_ (i := 8) (N := some 26) (v := ?_) (a' := ?_) api_Term_59_at52.b13 rfl rfl (take_ofW HT_.out HW_.out (by kernel_rfl)) (fun _ _ _ h => h) (Or.inl ⟨by rfl, ?_⟩) hHeld ?_ ?_
             rotate_left
             ·rintro w' ⟨s0, s1, s2, s3⟩
              go_simp
              with_reducible rfl
             rotate_left
             ·simp only [Act.put, List.setIfInBounds_toArray, List.set_cons_zero, List.set_cons_succ, i64_w, i32_w]
              rfl
             refine take_ (i := 13) (N := some 31) (v := ?_) (a' := ?_) api_Term_59_at52.b14 rfl rfl (take_ofW HT_.out HW_.out (by kernel_rfl)) (fun _ _ _ h => h) (Or.inl ⟨by rfl, ?_⟩) hHeld ?_ ?_
             rotate_left
             ·rintro w' ⟨s0, s1, s2, s3⟩
              go_simp
              with_reducible rfl
             rotate_left
             ·simp only [Act.put, List.setIfInBounds_toArray, List.set_cons_zero, List.set_cons_succ, i64_w, i32_w]
              rfl
             refine one_ (i := 14) (N := some 32) api_Term_59_at52.b15 rfl rfl (one_of HT_.out (by kernel_rfl)) (by decide) (fun K hK => ?_)
             refine goesT_ Try.func52 (by kernel_rfl) rfl #[.agg #[.int .i64 ((rd_T44 x0_2 x9_2).f0), .int .i64 ((rd_T44 x0_2 x9_2).f1)], .agg #[.int .i64 ((rd_T44 x0_2 (ji9)).f0), .int .i64 ((rd_T44 x0_2 (ji9)).f1)]] (by rfl) rfl rfl (by (try simp only [List.map_toArray, List.map_cons, List.map_nil]); first | done | (simp only [hji9]; rfl) | rfl | (simp only [List.length_drop, List.length_take]; rfl)) ?_
             with_reducible refine (fact_gather_1.calls ((rd_T44 x0_2 x9_2).f0) ((rd_T44 x0_2 x9_2).f1) ((rd_T44 x0_2 (ji9)).f0) ((rd_T44 x0_2 (ji9)).f1) t103 _ A12.out).mono ?_
             rintro e w24 ⟨rfl, hb⟩
             have HS0_ := (hb.cell (World.block_lt_of_cell? _ _ (hHeld.1))).trans (hHeld.1)
             have HS1_ := (hb.cell (World.block_lt_of_cell? _ _ (hHeld.2.1))).trans (hHeld.2.1)
             have HS2_ := (hb.cell (World.block_lt_of_cell? _ _ (hHeld.2.2.1))).trans (hHeld.2.2.1)
             have HS3_ := (hb.cell (World.block_lt_of_cell? _ _ (hHeld.2.2.2))).trans (hHeld.2.2.2)
             refine ⟨_, rfl, ?_⟩
             have n0_ := Aside0.mk (Kd.R_below (rK HO_0.out) hb)
             have n1_ := Aside0.mk (Kept.below (S := (fun k_ => P0_ k_)) (kP HK.out) hb)
             have n2_ := Aside0.mk (below_step (hB0 HB.out) hb)
             clear HO_0
             clear HK
             clear HB
             have HO_0 := n0_
             have HK := n1_
             have HB := n2_
             clear n0_ n1_ n2_
             (try clear hb)
             (try clear hb2)
             (try clear hk)
             (try clear hi)
             refine hK.out _ _ ⟨HS0_, HS1_, HS2_, HS3_⟩ (fun hHeld => ?_)
             clear hK K
             refine norm_ (a' := ?_) ?_ ?_
             rotate_left
             ·show Act.put _ (some 32) _ = _
              simp only [Act.put, List.setIfInBounds_toArray, List.set_cons_zero, List.set_cons_succ, i64_w, i32_w]
              rfl
             refine pY 15 (some 33) api_Term_59_at52.b16 rfl rfl HT_.out (fun _ _ _ h => h) ?_
             refine pY 16 (some 34) api_Term_59_at52.b17 rfl rfl HT_.out (fun _ _ _ h => h) ?_
             refine done_ (done_of HT_.out (by kernel_rfl)) ?_
             try go_wp2
             go_roundg k2
             case measure => have := HK1.out; have := HK2.out; omega
             case rel => exact ⟨(x0_2), (wrap64 (x8_1 + 1)), rS, H', ⟨by have := HK1.out; have := HK2.out; omega⟩, ⟨rK HO_0.out⟩, ⟨kP HK.out⟩, ⟨hB0 HB.out⟩⟩
           ·rw [if_neg c11] at H
            exact absurd H (by simp)
          ·rw [if_neg c10] at H
           exact absurd H (by simp)
         ·rw [if_neg c8] at H
          exact absurd H (by simp)
        ·rw [if_neg c7] at H
         exact absurd H (by simp)
       ·rw [if_neg c6] at H
        have c6b0 : decide (a1 < x9_2) = false := decide_eq_false c6
        clear c6
        have H' := Aside0.mk H
        clear H
        try go_wp2
        have n0_ := Aside0.mk (Kd.R_drew HO_0.out)
        have n1_ := Aside0.mk (Kept.drew HK.out)
        have n2_ := Aside0.mk (below_drew1 HB.out)
        clear HO_0
        clear HK
        clear HB
        have HO_0 := n0_
        have HK := n1_
        have HB := n2_
        clear n0_ n1_ n2_
        refine start_ (n := 17) (S := fun w' => True) (ds := []) api_Term_59_at52.b0 (by kernel_rfl) rfl rfl trivial (fun hHeld => ?_); refine with_tabW api_Term_59_at52.tab4 api_Term_59_at52.bits4 (fun HT_ HW_ => ?_)
        generalize wr.drew = w25 at HO_0 HK HB hHeld ⊢
        refine pY 0 (some 18) api_Term_59_at52.b1 rfl rfl HT_.out (fun _ _ _ h => h) ?_
        refine pY 1 (some 19) api_Term_59_at52.b2 rfl rfl HT_.out (fun _ _ _ h => h) ?_
        refine pY 2 (some 20) api_Term_59_at52.b3 rfl rfl HT_.out (fun _ _ _ h => h) ?_
        refine pY 3 (some 21) api_Term_59_at52.b4 rfl rfl HT_.out (fun _ _ _ h => h) ?_
        refine pN 4 (some 22) api_Term_59_at52.b5 rfl rfl HT_.out (fun _ _ _ h => h) ?_
        refine pN 5 (some 23) api_Term_59_at52.b6 rfl rfl HT_.out (fun _ _ _ h => h) ?_
        refine pN 6 (some 24) api_Term_59_at52.b7 rfl rfl HT_.out (fun _ _ _ h => h) ?_
        refine pN 7 (some 25) api_Term_59_at52.b8 rfl rfl HT_.out (fun _ _ _ h => h) ?_
        refine pN 8 (some 26) api_Term_59_at52.b37 rfl rfl HT_.out (fun _ _ _ h => h) ?_
        refine pN 9 (some 27) api_Term_59_at52.b38 rfl rfl HT_.out (fun _ _ _ h => h) ?_
        refine pN 10 (some 28) api_Term_59_at52.b39 rfl rfl HT_.out (fun _ _ _ h => h) ?_
        refine pN 11 (some 29) api_Term_59_at52.b40 rfl rfl HT_.out (fun _ _ _ h => h) ?_
        refine pN 12 (some 30) api_Term_59_at52.b13 rfl rfl HT_.out (fun _ _ _ h => h) ?_
        refine pN 13 (some 31) api_Term_59_at52.b14 rfl rfl HT_.out (fun _ _ _ h => h) ?_
        refine pN 14 (some 32) api_Term_59_at52.b15 rfl rfl HT_.out (fun _ _ _ h => h) ?_
        refine pN 15 (some 33) api_Term_59_at52.b16 rfl rfl HT_.out (fun _ _ _ h => h) ?_
        refine pY 16 (some 34) api_Term_59_at52.b17 rfl rfl HT_.out (fun _ _ _ h => h) ?_
        refine done_ (done_of HT_.out (by kernel_rfl)) ?_
        try go_wp2
        go_roundg k2
        case measure => have := HK1.out; have := HK2.out; omega
        case rel => exact ⟨(x0_2), (wrap64 (x8_1 + 1)), rS, H', ⟨by have := HK1.out; have := HK2.out; omega⟩, ⟨rK HO_0.out⟩, ⟨kP HK.out⟩, ⟨hB0 HB.out⟩⟩
    ·rw [if_neg c5] at H
     have c5b0 : decide (x8_1 < a2) = false := decide_eq_false c5
     clear c5
     obtain rfl := Option.some.inj H
     go_wp2
     first | go_end0 | ((try simp only [Exit.inBlock, Exit.then]); refine bodyPost_ret (results_none rfl _ _ _) rfl ?_)
     exact ⟨eW, by (with_reducible repeat (first | apply Kd.R_alloc | apply Kd.R_drewN | apply Kd.R_drew)); exact HO_0.out, hB0 HB.out, kP HK.out⟩
def api_Term_62_at52.l0 : Nat → List (S44) → Int → Int → Int → Int → Option ((List (S44)))
  | 0, _, _, _, _, _ => none
  | k + 1, x0, x1, x2, x3, x10 => if x10 < x3 then (if 0 ≤ (wrap64 (x2 + x10)) then (if (wrap64 (x2 + x10)) < (x0.length : Int) then (if 0 ≤ (wrap64 (x1 + x10)) then (if (wrap64 (x1 + x10)) < (x0.length : Int) then (api_Term_62_at52.l0 k ((x0.set ((wrap64 (x1 + x10)) : Int).toNat (⟨(rd_T44 x0 (wrap64 (x2 + x10))).f0, (rd_T44 x0 (wrap64 (x2 + x10))).f1⟩ : S44)).set ((wrap64 (x2 + x10)) : Int).toNat (⟨(rd_T44 x0 (wrap64 (x1 + x10))).f0, (rd_T44 x0 (wrap64 (x1 + x10))).f1⟩ : S44)) x1 x2 x3 (wrap64 (x10 + 1))) else (none)) else (none)) else (none)) else (none)) else (some x0)
def api_Term_62_at52.f (k : Nat) (l0 : List (S44)) (a1 : Int) (a2 : Int) (a3 : Int)  : Option ((List (S44))) := api_Term_62_at52.l0 k l0 a1 a2 a3 0
theorem api_Term_62_at52.mono_l : ∀ k, (∀ y0 y1 y2 y3 y4, LeO (api_Term_62_at52.l0 k y0 y1 y2 y3 y4) (api_Term_62_at52.l0 (k + 1) y0 y1 y2 y3 y4))
  | 0 => fun _ _ _ _ _ r h => by simp [api_Term_62_at52.l0] at h
  | k + 1 => by
   have ih0 := api_Term_62_at52.mono_l k
   ·intro y0 y1 y2 y3 y4
    unfold api_Term_62_at52.l0
    repeat' first
    | (with_reducible exact ih0 _ _ _ _ _)
    | (with_reducible exact LeO.refl _)
    | (with_reducible exact LeO.none _)
    | (with_reducible refine LeO.ite ?_ ?_)
    | (with_reducible refine LeO.bind ?_ (fun _ => ?_))
    | exact ih0 _ _ _ _ _
    | exact LeO.none _
    | refine LeO.ite ?_ ?_
    | refine LeO.bind ?_ (fun _ => ?_)
theorem api_Term_62_at52.mono : ∀ a0 a1 a2 a3 k, LeO (api_Term_62_at52.f k a0 a1 a2 a3) (api_Term_62_at52.f (k + 1) a0 a1 a2 a3) := by
  intro a0 a1 a2 a3 k
  have ih0 := api_Term_62_at52.mono_l k
  unfold api_Term_62_at52.f
  repeat' first
    | (with_reducible exact ih0 _ _ _ _ _)
    | (with_reducible exact LeO.refl _)
    | (with_reducible exact LeO.none _)
    | (with_reducible refine LeO.ite ?_ ?_)
    | (with_reducible refine LeO.bind ?_ (fun _ => ?_))
    | exact ih0 _ _ _ _ _
    | exact LeO.none _
    | refine LeO.ite ?_ ?_
    | refine LeO.bind ?_ (fun _ => ?_)
def api_Term_62_at52.T3 : Bool × List (List Nat × List Nat) := (true, [([], []), ([], []), ([], []), ([1, 2], [1, 2]), ([], []), ([], []), ([], []), ([5, 6], [5, 6]), ([], []), ([], []), ([], []), ([9, 10], [9, 10]), ([8, 11], [8, 11]), ([12], [12]), ([], []), ([], []), ([], []), ([15, 16], [15, 16]), ([14, 17], [14, 17]), ([18], [18]), ([0, 3, 0, 1, 2, 3, 8, 9, 10, 11, 12, 13, 19], [0, 3]), ([20, 13, 0, 1, 2, 3, 8, 9, 10, 11, 12, 13, 19], [13, 20]), ([4, 7, 0, 1, 2, 3, 4, 5, 6, 7, 8, 9, 10, 11, 12, 13, 14, 15, 16, 17, 18, 19, 20, 21], [4, 7]), ([22, 19, 21, 0, 1, 2, 3, 4, 5, 6, 7, 8, 9, 10, 11, 12, 13, 14, 15, 16, 17, 18, 19, 20, 21], [19, 22])])
def api_Term_62_at52.B3 : List Nat := [0, 0, 0, 6, 0, 0, 0, 96, 0, 0, 0, 1536, 3840, 7936, 0, 0, 0, 98304, 245760, 507904, 1048335, 2096911, 4194303, 8388607]
theorem api_Term_62_at52.tab3 : rtab .any (opsOf Try.f62 3) = api_Term_62_at52.T3 := by kernel_rfl
theorem api_Term_62_at52.bits3 : waitsOk api_Term_62_at52.T3.2 api_Term_62_at52.B3 = true := by kernel_rfl
abbrev api_Term_62_at52.b0 : Array Bool := X.bv77
abbrev api_Term_62_at52.b1 : Array Bool := X.bv78
abbrev api_Term_62_at52.b2 : Array Bool := X.bv79
abbrev api_Term_62_at52.b3 : Array Bool := X.bv80
abbrev api_Term_62_at52.b4 : Array Bool := X.bv81
abbrev api_Term_62_at52.b5 : Array Bool := X.bv82
abbrev api_Term_62_at52.b6 : Array Bool := X.bv83
abbrev api_Term_62_at52.b7 : Array Bool := X.bv84
abbrev api_Term_62_at52.b8 : Array Bool := X.bv85
abbrev api_Term_62_at52.b9 : Array Bool := X.bv86
abbrev api_Term_62_at52.b10 : Array Bool := X.bv87
abbrev api_Term_62_at52.b11 : Array Bool := X.bv88
abbrev api_Term_62_at52.b12 : Array Bool := X.bv89
abbrev api_Term_62_at52.b13 : Array Bool := X.bv90
abbrev api_Term_62_at52.b14 : Array Bool := X.bv91
abbrev api_Term_62_at52.b15 : Array Bool := X.bv92
abbrev api_Term_62_at52.b16 : Array Bool := X.bv93
abbrev api_Term_62_at52.b17 : Array Bool := X.bv94
abbrev api_Term_62_at52.b18 : Array Bool := X.bv95
abbrev api_Term_62_at52.b19 : Array Bool := X.bv96
abbrev api_Term_62_at52.b20 : Array Bool := X.bv97
abbrev api_Term_62_at52.b21 : Array Bool := X.bv98
abbrev api_Term_62_at52.b22 : Array Bool := X.bv99
abbrev api_Term_62_at52.b23 : Array Bool := X.bv100
abbrev api_Term_62_at52.b24 : Array Bool := X.bv101
set_option maxHeartbeats 8000000 in
set_option maxRecDepth 100000 in
theorem api_Term_62_at52.calls (k : Nat) (P0_ : Nat → Prop) (u9000_ : Value) (l0 : List (S44)) (a1 : Int) (a2 : Int) (a3 : Int)  (r : List (S44)) (w0 w : World) (hB : Below w0.heap.size w0 w) (ho0 : Kd.R k44 44 w w0.heap.size P0_ u9000_ l0) (h : api_Term_62_at52.f k l0 a1 a2 a3 = some r) :
   Calls Try.prog 62 #[u9000_, .int .i64 a1, .int .i64 a2, .int .i64 a3, .func (.func 52) #[] #[]] w fun e w' => e = .returned (.tuple #[]) ∧ Kd.R k44 44 w' w0.heap.size (fun k_ => (P0_ k_ ∨ w.heap.size ≤ k_)) u9000_ r ∧ Below w0.heap.size w0 w' ∧ Kept w w' (fun k_ => P0_ k_) := by
  have hu44 := Try.underlying44
  have HO0 := Aside0.mk (show Kd.R k44 44 w w0.heap.size (fun k_ => (P0_ k_ ∨ w.heap.size ≤ k_)) u9000_ l0 from Kd.R_mono ho0 (fun k_ hk => (.inl hk)))
  have HK := Aside0.mk (Kept.refl w (fun k_ => P0_ k_))
  have HW0 := Aside0.mk hB.size
  have HB := Aside0.mk hB
  clear hB
  have H : (api_Term_62_at52.l0 k l0 a1 a2 a3 0) = some r := h
  clear h
  have H' := Aside0.mk H
  clear H
  go_enter Try.func62, Try.ntmps62
  go_wp2
  go_loopg [10] k (fun kq v10 w' => ∃ (x0_1 : List (S44)) (x10_1 : Int), v10 = .int .i64 x10_1 ∧ Aside0 (api_Term_62_at52.l0 kq x0_1 a1 a2 a3 x10_1 = some r) ∧ Aside0 (kq ≤ k) ∧ Aside0 (Kd.R k44 44 w' w0.heap.size (fun k_ => (P0_ k_ ∨ w.heap.size ≤ k_)) u9000_ x0_1) ∧ Aside0 (Kept w w' (fun k_ => P0_ k_)) ∧ Aside0 (Below w0.heap.size w0 w'))
  case atStart => exact ⟨(l0), (0), rS, H', ⟨Nat.le_refl _⟩, ⟨rK HO0.out⟩, ⟨kP HK.out⟩, ⟨hB0 HB.out⟩⟩
  case round =>
   clear H'
   obtain ⟨x0_1, x10_1, rfl, HA, HK1, HO_0, HK, HB⟩ := hrel
   cases gk with
   | zero => exact absurd HA.out (by simp [api_Term_62_at52.l0])
   | succ k1 =>
    have H := HA.out
    clear HA
    simp only [api_Term_62_at52.l0] at H
    by_cases c6 : x10_1 < a3
    ·rw [if_pos c6] at H
     have c6b0 : decide (x10_1 < a3) = true := decide_eq_true c6
     clear c6
     obtain ⟨ji7, hji7⟩ : ∃ j_ : Int, (wrap64 (a2 + x10_1)) = j_ := ⟨_, rfl⟩
     replace H : (if 0 ≤ (ji7) then (if (ji7) < (x0_1.length : Int) then (if 0 ≤ (wrap64 (a1 + x10_1)) then (if (wrap64 (a1 + x10_1)) < (x0_1.length : Int) then (api_Term_62_at52.l0 k1 ((x0_1.set ((wrap64 (a1 + x10_1)) : Int).toNat (⟨(rd_T44 x0_1 (ji7)).f0, (rd_T44 x0_1 (ji7)).f1⟩ : S44)).set ((ji7) : Int).toNat (⟨(rd_T44 x0_1 (wrap64 (a1 + x10_1))).f0, (rd_T44 x0_1 (wrap64 (a1 + x10_1))).f1⟩ : S44)) a1 a2 a3 (wrap64 (x10_1 + 1))) else (none)) else (none)) else (none)) else (none)) = some r := by first | (rw [hji7] at H; exact H) | (simp only [hji7] at H ⊢; exact H)
     have hji7w : (IntKind.i64.wrap (a2 + x10_1)) = ji7 := (i64_w _).trans hji7
     by_cases c8 : 0 ≤ (ji7)
     ·rw [if_pos c8] at H
      have c8b0 : decide (0 ≤ (ji7)) = true := decide_eq_true c8
      clear c8
      by_cases c9 : (ji7) < (x0_1.length : Int)
      ·rw [if_pos c9] at H
       have c9b0 : decide ((ji7) < (x0_1.length : Int)) = true := decide_eq_true c9
       clear c9
       obtain ⟨ji10, hji10⟩ : ∃ j_ : Int, (wrap64 (a1 + x10_1)) = j_ := ⟨_, rfl⟩
       replace H : (if 0 ≤ (ji10) then (if (ji10) < (x0_1.length : Int) then (api_Term_62_at52.l0 k1 ((x0_1.set ((ji10) : Int).toNat (⟨(rd_T44 x0_1 (ji7)).f0, (rd_T44 x0_1 (ji7)).f1⟩ : S44)).set ((ji7) : Int).toNat (⟨(rd_T44 x0_1 (ji10)).f0, (rd_T44 x0_1 (ji10)).f1⟩ : S44)) a1 a2 a3 (wrap64 (x10_1 + 1))) else (none)) else (none)) = some r := by first | (rw [hji10] at H; exact H) | (simp only [hji10] at H ⊢; exact H)
       have hji10w : (IntKind.i64.wrap (a1 + x10_1)) = ji10 := (i64_w _).trans hji10
       by_cases c11 : 0 ≤ (ji10)
       ·rw [if_pos c11] at H
        have c11b0 : decide (0 ≤ (ji10)) = true := decide_eq_true c11
        clear c11
        by_cases c12 : (ji10) < (x0_1.length : Int)
        ·rw [if_pos c12] at H
         have c12b0 : decide ((ji10) < (x0_1.length : Int)) = true := decide_eq_true c12
         clear c12
         obtain ⟨y103, hy103⟩ : ∃ y_ : List (S44), y_ = (x0_1.set ((ji10) : Int).toNat (⟨(rd_T44 x0_1 (ji7)).f0, (rd_T44 x0_1 (ji7)).f1⟩ : S44)) := ⟨_, rfl⟩
         replace H : (api_Term_62_at52.l0 k1 (y103.set ((ji7) : Int).toNat (⟨(rd_T44 x0_1 (ji10)).f0, (rd_T44 x0_1 (ji10)).f1⟩ : S44)) a1 a2 a3 (wrap64 (x10_1 + 1))) = some r := by first | (rw [hy103]; with_reducible exact H) | (have H2_ := (Option.bind_some _ _).symm.trans H; rw [hy103]; with_reducible exact H2_) | (have H2_ := (Option.bind_some _ _).symm.trans H; with_reducible exact H2_) | with_reducible exact H | (rw [hy103]; exact H) | exact H
         have Ny103 := Aside0.mk hy103
         clear hy103
         obtain ⟨y104, hy104⟩ : ∃ y_ : List (S44), y_ = (y103.set ((ji7) : Int).toNat (⟨(rd_T44 x0_1 (ji10)).f0, (rd_T44 x0_1 (ji10)).f1⟩ : S44)) := ⟨_, rfl⟩
         replace H : (api_Term_62_at52.l0 k1 y104 a1 a2 a3 (wrap64 (x10_1 + 1))) = some r := by first | (rw [hy104]; with_reducible exact H) | (have H2_ := (Option.bind_some _ _).symm.trans H; rw [hy104]; with_reducible exact H2_) | (have H2_ := (Option.bind_some _ _).symm.trans H; with_reducible exact H2_) | with_reducible exact H | (rw [hy104]; exact H) | exact H
         have Ny104 := Aside0.mk hy104
         clear hy104
         have H' := Aside0.mk H
         clear H
         try go_wp2
         have n0_ := Aside0.mk (Kd.R_drew HO_0.out)
         have n1_ := Aside0.mk (Kept.drew HK.out)
         have n2_ := Aside0.mk (below_drew1 HB.out)
         clear HO_0
         clear HK
         clear HB
         have HO_0 := n0_
         have HK := n1_
         have HB := n2_
         clear n0_ n1_ n2_
         obtain ⟨Ao16, co16, eo16⟩ := Kd.R_slice HO_0.out
         (first | subst eo16 | (injection eo16 with f1_ f2_ f3_; have f4_ := f1_.symm; have f5_ := f3_.symm; clear f1_ f2_ f3_; subst f4_; subst f5_))
         have p101 : 0 ≤ ((ji7) : Int) := oD
         have q101 : (ji7) < (x0_1.length : Int) := oD
         obtain ⟨ad101, e101, hx101_0, hx101_1⟩ := at_T44 (Kd.R_reads' HO_0.out).2.2 (ji7) p101 q101
         cases e101
         replace p101 := eq_true p101
         replace q101 := eq_true q101
         have p102 : 0 ≤ ((ji10) : Int) := oD
         have q102 : (ji10) < (x0_1.length : Int) := oD
         obtain ⟨ad102, e102, hx102_0, hx102_1⟩ := at_T44 (Kd.R_reads' HO_0.out).2.2 (ji10) p102 q102
         obtain rfl : ad101 = ad102 := (by injection e102)
         replace p102 := eq_true p102
         replace q102 := eq_true q102
         have p13 : 0 ≤ ((ji10) : Int) := oD
         have q13 : ((ji10) : Int) < ((x0_1.length : Int) : Int) := oD
         obtain ⟨go13, co13, eo13, gb13, gl13, cl13, HG13⟩ := Kd.R_form HO_0.out (by omega)
         (first | cases eo13 | (injection eo13 with ea_ en_ ec_; (first | subst ea_ | (injection ea_ with ea_; subst ea_)); subst ec_; clear en_))
         have GB13 := Aside0.mk gb13
         have GG13 := Aside0.mk HG13
         clear gb13 gl13 HG13
         have HMgo13 := Aside0.mk (show (P0_ go13 ∨ w.heap.size ≤ go13) from (HO_0.out.1 _ rfl))
         (first | simp only [add_plain] at hx101_0 | skip)
         (first | simp only [add_plain] at hx101_1 | skip)
         (first | simp only [add_plain] at hx102_0 | skip)
         (first | simp only [add_plain] at hx102_1 | skip)
         obtain ⟨ce13, hcl13, hM13, hcc13, hfr13⟩ := Kd.R_elem HO_0.out z44 ((ji10) : Int) p13 q13
         obtain rfl := k44_openM hM13
         have hx13_0 : World.cell? _ ⟨go13, ((ji10) : Int).toNat * 2, none⟩ = some (.int .i64 ((rd_T44 x0_1 (ji10)).f0)) := hcc13 0 _ rfl
         have hx13_1 : World.cell? _ ⟨go13, ((ji10) : Int).toNat * 2 + 1, none⟩ = some (.int .i64 ((rd_T44 x0_1 (ji10)).f1)) := hcc13 1 _ rfl
         have hf13_0 : World.frozen? _ ⟨go13, ((ji10) : Int).toNat * 2, none⟩ = false := hfr13 0
         have hf13_1 : World.frozen? _ ⟨go13, ((ji10) : Int).toNat * 2 + 1, none⟩ = false := hfr13 1
         clear hcl13 hcc13 hfr13 hM13
         replace p13 := eq_true p13
         replace q13 := eq_true q13
         obtain ⟨ce17, hcl17, hM17, hcc17, hfr17⟩ := Kd.R_elem HO_0.out z44 ((ji10) : Int) (oD) (by have h_ : ((ji10) : Int) < ((x0_1.length : Int) : Int) := oD; first | exact h_ | (have e_ := (Kd.R_reads' HO_0.out).1; omega) | simpa using h_)
         obtain rfl := k44_openM hM17
         have HP17 := (Kd.R_seg HO_0.out ((ji10) : Int) (oD) (by have h_ : ((ji10) : Int) < ((x0_1.length : Int) : Int) := oD; first | exact h_ | (have e_ := (Kd.R_reads' HO_0.out).1; omega) | simpa using h_) (seg := [.int .i64 ((rd_T44 x0_1 (ji7)).f0), .int .i64 ((rd_T44 x0_1 (ji7)).f1)]) (j := 0) hcl17 hcc17 (show 2 ≤ 2 from by decide) (x' := (⟨(rd_T44 x0_1 (ji7)).f0, (rd_T44 x0_1 (ji7)).f1⟩ : S44)) (k44_mkM _ _ _ (⟨(rd_T44 x0_1 (ji7)).f0, (rd_T44 x0_1 (ji7)).f1⟩ : S44) ) (fun _ hk => hk)).1
         rw [← Ny103.out] at HP17
         have HQ17 := Aside0.mk HP17
         clear hcl17 hcc17 hfr17 hM17 HP17
         have p14 : 0 ≤ ((ji7) : Int) := oD
         have q14 : ((ji7) : Int) < ((x0_1.length : Int) : Int) := oD
         obtain ⟨ce14, hcl14, hM14, hcc14, hfr14⟩ := Kd.R_elem HQ17.out z44 ((ji7) : Int) p14 q14
         obtain rfl := k44_openM hM14
         have hx14_0 : World.cell? _ ⟨go13, ((ji7) : Int).toNat * 2, none⟩ = some (.int .i64 ((rd_T44 y103 (ji7)).f0)) := hcc14 0 _ rfl
         have hx14_1 : World.cell? _ ⟨go13, ((ji7) : Int).toNat * 2 + 1, none⟩ = some (.int .i64 ((rd_T44 y103 (ji7)).f1)) := hcc14 1 _ rfl
         have hf14_0 : World.frozen? _ ⟨go13, ((ji7) : Int).toNat * 2, none⟩ = false := hfr14 0
         have hf14_1 : World.frozen? _ ⟨go13, ((ji7) : Int).toNat * 2 + 1, none⟩ = false := hfr14 1
         clear hcl14 hcc14 hfr14 hM14
         replace p14 := eq_true p14
         replace q14 := eq_true q14
         obtain ⟨ce18, hcl18, hM18, hcc18, hfr18⟩ := Kd.R_elem HQ17.out z44 ((ji7) : Int) (oD) (by have h_ : ((ji7) : Int) < ((x0_1.length : Int) : Int) := oD; first | exact h_ | (have e_ := (Kd.R_reads' HO_0.out).1; omega) | simpa using h_)
         obtain rfl := k44_openM hM18
         have HP18 := (Kd.R_seg HQ17.out ((ji7) : Int) (oD) (by have h_ : ((ji7) : Int) < ((x0_1.length : Int) : Int) := oD; first | exact h_ | (have e_ := (Kd.R_reads' HO_0.out).1; omega) | simpa using h_) (seg := [.int .i64 ((rd_T44 x0_1 (ji10)).f0), .int .i64 ((rd_T44 x0_1 (ji10)).f1)]) (j := 0) hcl18 hcc18 (show 2 ≤ 2 from by decide) (x' := (⟨(rd_T44 x0_1 (ji10)).f0, (rd_T44 x0_1 (ji10)).f1⟩ : S44)) (k44_mkM _ _ _ (⟨(rd_T44 x0_1 (ji10)).f0, (rd_T44 x0_1 (ji10)).f1⟩ : S44) ) (fun _ hk => hk)).1
         rw [← Ny104.out] at HP18
         have HQ18 := Aside0.mk HP18
         clear hcl18 hcc18 hfr18 hM18 HP18
         refine start_ (n := 24) (S := fun w' => w'.cell? ⟨go13, ((ji7)).toNat * 2, none⟩ = some (.int .i64 ((rd_T44 x0_1 (ji7)).f0)) ∧ w'.cell? ⟨go13, (((ji7)).toNat * 2) + 1, none⟩ = some (.int .i64 ((rd_T44 x0_1 (ji7)).f1)) ∧ w'.cell? ⟨go13, ((ji10)).toNat * 2, none⟩ = some (.int .i64 ((rd_T44 x0_1 (ji10)).f0)) ∧ w'.cell? ⟨go13, (((ji10)).toNat * 2) + 1, none⟩ = some (.int .i64 ((rd_T44 x0_1 (ji10)).f1))) (ds := [21, 23]) api_Term_62_at52.b0 (by kernel_rfl) rfl rfl ⟨hx101_0, hx101_1, hx102_0, hx102_1⟩ (fun hHeld => ?_); refine with_tabW api_Term_62_at52.tab3 api_Term_62_at52.bits3 (fun HT_ HW_ => ?_)
         generalize wr.drew = w15 at HO_0 HK HB GG13 HQ17 HQ18 hf13_0 hf13_1 hf14_0 hf14_1 hx101_0 hx101_1 hx102_0 hx102_1 hx13_0 hx13_1 hx14_0 hx14_1 hHeld ⊢
         refine pY 0 (some 16) api_Term_62_at52.b1 rfl rfl HT_.out (fun _ _ _ h => h) ?_
         refine pY 1 (some 17) api_Term_62_at52.b2 rfl rfl HT_.out (fun _ _ _ h => h) ?_
         refine pY 2 (some 18) api_Term_62_at52.b3 rfl rfl HT_.out (fun _ _ _ h => h) ?_
         refine pY 3 (some 19) api_Term_62_at52.b4 rfl rfl HT_.out (fun _ _ _ h => h) ?_
         refine pY 4 (some 20) api_Term_62_at52.b5 rfl rfl HT_.out (fun _ _ _ h => h) ?_
         refine pY 5 (some 21) api_Term_62_at52.b6 rfl rfl HT_.out (fun _ _ _ h => h) ?_
         refine pY 6 (some 22) api_Term_62_at52.b7 rfl rfl HT_.out (fun _ _ _ h => h) ?_
         refine pY 7 (some 23) api_Term_62_at52.b8 rfl rfl HT_.out (fun _ _ _ h => h) ?_
         refine pY 8 (some 24) api_Term_62_at52.b9 rfl rfl HT_.out (fun _ _ _ h => h) ?_
         refine pY 9 (some 25) api_Term_62_at52.b10 rfl rfl HT_.out (fun _ _ _ h => h) ?_
         refine pY 10 (some 26) api_Term_62_at52.b11 rfl rfl HT_.out (fun _ _ _ h => h) ?_
         refine pY 11 (some 27) api_Term_62_at52.b12 rfl rfl HT_.out (fun _ _ _ h => h) ?_
         refine pY 12 (some 28) api_Term_62_at52.b13 rfl rfl HT_.out (fun _ _ _ h => h) ?_
         refine pY 14 (some 30) api_Term_62_at52.b14 rfl rfl HT_.out (fun _ _ _ h => h) ?_
         refine pY 15 (some 31) api_Term_62_at52.b15 rfl rfl HT_.out (fun _ _ _ h => h) ?_
         refine pY 16 (some 32) api_Term_62_at52.b16 rfl rfl HT_.out (fun _ _ _ h => h) ?_
         refine pY 17 (some 33) api_Term_62_at52.b17 rfl rfl HT_.out (fun _ _ _ h => h) ?_
         refine pY 18 (some 34) api_Term_62_at52.b18 rfl rfl HT_.out (fun _ _ _ h => h) ?_
         refine take_ (i := 13) (N := some 29) (v := ?_) (a' := ?_) api_Term_62_at52.b19 rfl rfl (take_ofW HT_.out HW_.out (by kernel_rfl)) (fun _ _ _ h => h) (Or.inl ⟨by rfl, ?_⟩) hHeld ?_ ?_
         rotate_left
         ·rintro w' ⟨s0, s1, s2, s3⟩
          go_simp
          with_reducible rfl
         rotate_left
         ·simp only [Act.put, List.setIfInBounds_toArray, List.set_cons_zero, List.set_cons_succ, i64_w, i32_w]
          rfl
         refine take_ (i := 19) (N := some 35) (v := ?_) (a' := ?_) api_Term_62_at52.b20 rfl rfl (take_ofW HT_.out HW_.out (by kernel_rfl)) (fun _ _ _ h => h) (Or.inl ⟨by rfl, ?_⟩) hHeld ?_ ?_
         rotate_left
         ·rintro w' ⟨s0, s1, s2, s3⟩
          go_simp
          with_reducible rfl
         rotate_left
         ·simp only [Act.put, List.setIfInBounds_toArray, List.set_cons_zero, List.set_cons_succ, i64_w, i32_w]
          rfl
         refine pY 20 (some 36) api_Term_62_at52.b21 rfl rfl HT_.out (fun _ _ _ h => h) ?_
         refine last_ (i := 21) (N := none) api_Term_62_at52.b22 rfl rfl (one_of HT_.out (by kernel_rfl)) (by decide) (fun K hK => ?_)
         refine skip_ (w1 := ?_) (by rfl) rfl ?_ ?_
         rotate_left
         ·(try (obtain ⟨va_, hva_⟩ := cell?_setCell_some (w := w15) (p := ⟨go13, ((ji10) : Int).toNat * 2, none⟩) (x := .int .i64 ((rd_T44 x0_1 (ji7)).f0)) (q := ⟨go13, ((ji7) : Int).toNat * 2, none⟩) (by assumption)))
          (try (obtain ⟨vb_, hvb_⟩ := cell?_setCell_some (w := w15) (p := ⟨go13, ((ji10) : Int).toNat * 2, none⟩) (x := .int .i64 ((rd_T44 x0_1 (ji7)).f0)) (q := ⟨go13, ((ji7) : Int).toNat * 2 + 1, none⟩) (by assumption); obtain ⟨vc_, hvc_⟩ := cell?_setCell_some (w := w15.setCell ⟨go13, ((ji10) : Int).toNat * 2, none⟩ (.int .i64 ((rd_T44 x0_1 (ji7)).f0))) (p := ⟨go13, ((ji10) : Int).toNat * 2 + 1, none⟩) (x := .int .i64 ((rd_T44 x0_1 (ji7)).f1)) (q := ⟨go13, ((ji7) : Int).toNat * 2 + 1, none⟩) hvb_))
          (try (have hfa0_ : w15.frozen? ⟨go13, ((ji7) : Int).toNat * 2, none⟩ = false := by have h_ := hf14_0; rw [World.frozen?_setCells] at h_; exact h_))
          (try (have hfa1_ : w15.frozen? ⟨go13, ((ji7) : Int).toNat * 2 + 1, none⟩ = false := by have h_ := hf14_1; rw [World.frozen?_setCells] at h_; exact h_))
          go_simp
          rfl
         refine hK.out _ _ ?_
         clear hK K
         refine pY 22 (some 37) api_Term_62_at52.b23 rfl rfl HT_.out (fun _ _ _ h => h) ?_
         refine last_ (i := 23) (N := none) api_Term_62_at52.b24 rfl rfl (one_of HT_.out (by kernel_rfl)) (by decide) (fun K hK => ?_)
         refine skip_ (w1 := ?_) (by rfl) rfl ?_ ?_
         rotate_left
         ·(try (obtain ⟨va_, hva_⟩ := cell?_setCell_some (w := w15) (p := ⟨go13, ((ji10) : Int).toNat * 2, none⟩) (x := .int .i64 ((rd_T44 x0_1 (ji7)).f0)) (q := ⟨go13, ((ji7) : Int).toNat * 2, none⟩) (by assumption)))
          (try (obtain ⟨vb_, hvb_⟩ := cell?_setCell_some (w := w15) (p := ⟨go13, ((ji10) : Int).toNat * 2, none⟩) (x := .int .i64 ((rd_T44 x0_1 (ji7)).f0)) (q := ⟨go13, ((ji7) : Int).toNat * 2 + 1, none⟩) (by assumption); obtain ⟨vc_, hvc_⟩ := cell?_setCell_some (w := w15.setCell ⟨go13, ((ji10) : Int).toNat * 2, none⟩ (.int .i64 ((rd_T44 x0_1 (ji7)).f0))) (p := ⟨go13, ((ji10) : Int).toNat * 2 + 1, none⟩) (x := .int .i64 ((rd_T44 x0_1 (ji7)).f1)) (q := ⟨go13, ((ji7) : Int).toNat * 2 + 1, none⟩) hvb_))
          (try (have hfa0_ : w15.frozen? ⟨go13, ((ji7) : Int).toNat * 2, none⟩ = false := by have h_ := hf14_0; rw [World.frozen?_setCells] at h_; exact h_))
          (try (have hfa1_ : w15.frozen? ⟨go13, ((ji7) : Int).toNat * 2 + 1, none⟩ = false := by have h_ := hf14_1; rw [World.frozen?_setCells] at h_; exact h_))
          go_simp
          rfl
         refine hK.out _ _ ?_
         clear hK K
         refine done_ (done_of HT_.out (by kernel_rfl)) ?_
         try go_wp2
         go_roundg k1
         case measure => have := HK1.out; omega
         case rel => exact ⟨(y104), (wrap64 (x10_1 + 1)), rS, H', ⟨by have := HK1.out; omega⟩, ⟨rK HQ18.out⟩, ⟨by repeat (first | (with_reducible first | exact HK.out | apply Kept.alloc | apply Kept.drewN | apply Kept.drew | refine Kept.setCell ?_ HMgo13.out _ | refine Kept.setCell ?_ HMgo13.out _ | refine Kept.setCell ?_ HMgo13.out _ | refine Kept.setCell ?_ HMgo13.out _) | exact HK.out)⟩, ⟨hB4 HB.out GB13.out GB13.out GB13.out GB13.out⟩⟩
        ·rw [if_neg c12] at H
         exact absurd H (by simp)
       ·rw [if_neg c11] at H
        exact absurd H (by simp)
      ·rw [if_neg c9] at H
       exact absurd H (by simp)
     ·rw [if_neg c8] at H
      exact absurd H (by simp)
    ·rw [if_neg c6] at H
     have c6b0 : decide (x10_1 < a3) = false := decide_eq_false c6
     clear c6
     obtain rfl := Option.some.inj H
     go_wp2
     first | go_end0 | ((try simp only [Exit.inBlock, Exit.then]); refine bodyPost_ret (results_none rfl _ _ _) rfl ?_)
     exact ⟨eW, by (with_reducible repeat (first | apply Kd.R_alloc | apply Kd.R_drewN | apply Kd.R_drew)); exact HO_0.out, hB0 HB.out, kP HK.out⟩
def api_Term_61_at52.l0 : Nat → List (S44) → Int → Int → Int → Option ((List (S44)))
  | 0, _, _, _, _ => none
  | k + 1, x0, x2, x10, x11 => if x10 = x11 then ((api_Term_62_at52.f k x0 (wrap64 (x2 - x10)) x2 x10).bind fun t101 => (some t101)) else (if x10 > x11 then ((api_Term_62_at52.f k x0 (wrap64 (x2 - x10)) x2 x11).bind fun t102 => (api_Term_61_at52.l0 k t102 x2 (wrap64 (x10 - x11)) x11)) else ((api_Term_62_at52.f k x0 (wrap64 (x2 - x10)) (wrap64 ((wrap64 (x2 + x11)) - x10)) x10).bind fun t103 => (api_Term_61_at52.l0 k t103 x2 x10 (wrap64 (x11 - x10)))))
def api_Term_61_at52.f (k : Nat) (l0 : List (S44)) (a1 : Int) (a2 : Int) (a3 : Int)  : Option ((List (S44))) := api_Term_61_at52.l0 k l0 a2 (wrap64 (a2 - a1)) (wrap64 (a3 - a2))
theorem api_Term_61_at52.mono_l : ∀ k, (∀ y0 y1 y2 y3, LeO (api_Term_61_at52.l0 k y0 y1 y2 y3) (api_Term_61_at52.l0 (k + 1) y0 y1 y2 y3))
  | 0 => fun _ _ _ _ r h => by simp [api_Term_61_at52.l0] at h
  | k + 1 => by
   have ih0 := api_Term_61_at52.mono_l k
   ·intro y0 y1 y2 y3
    unfold api_Term_61_at52.l0
    repeat' first
    | (with_reducible exact ih0 _ _ _ _)
    | (with_reducible exact api_Term_62_at52.mono _ _ _ _ _)
    | (with_reducible exact LeO.refl _)
    | (with_reducible exact LeO.none _)
    | (with_reducible refine LeO.ite ?_ ?_)
    | (with_reducible refine LeO.bind ?_ (fun _ => ?_))
    | exact ih0 _ _ _ _
    | exact api_Term_62_at52.mono _ _ _ _ _
    | exact LeO.none _
    | refine LeO.ite ?_ ?_
    | refine LeO.bind ?_ (fun _ => ?_)
theorem api_Term_61_at52.mono : ∀ a0 a1 a2 a3 k, LeO (api_Term_61_at52.f k a0 a1 a2 a3) (api_Term_61_at52.f (k + 1) a0 a1 a2 a3) := by
  intro a0 a1 a2 a3 k
  have ih0 := api_Term_61_at52.mono_l k
  unfold api_Term_61_at52.f
  repeat' first
    | (with_reducible exact ih0 _ _ _ _)
    | (with_reducible exact api_Term_62_at52.mono _ _ _ _ _)
    | (with_reducible exact LeO.refl _)
    | (with_reducible exact LeO.none _)
    | (with_reducible refine LeO.ite ?_ ?_)
    | (with_reducible refine LeO.bind ?_ (fun _ => ?_))
    | exact ih0 _ _ _ _
    | exact api_Term_62_at52.mono _ _ _ _ _
    | exact LeO.none _
    | refine LeO.ite ?_ ?_
    | refine LeO.bind ?_ (fun _ => ?_)
set_option maxHeartbeats 8000000 in
set_option maxRecDepth 100000 in
theorem api_Term_61_at52.calls (k : Nat) (P0_ : Nat → Prop) (u9000_ : Value) (l0 : List (S44)) (a1 : Int) (a2 : Int) (a3 : Int)  (r : List (S44)) (w0 w : World) (hB : Below w0.heap.size w0 w) (ho0 : Kd.R k44 44 w w0.heap.size P0_ u9000_ l0) (h : api_Term_61_at52.f k l0 a1 a2 a3 = some r) :
   Calls Try.prog 61 #[u9000_, .int .i64 a1, .int .i64 a2, .int .i64 a3, .func (.func 52) #[] #[]] w fun e w' => e = .returned (.tuple #[]) ∧ Kd.R k44 44 w' w0.heap.size (fun k_ => (P0_ k_ ∨ w.heap.size ≤ k_)) u9000_ r ∧ Below w0.heap.size w0 w' ∧ Kept w w' (fun k_ => P0_ k_) := by
  have HO0 := Aside0.mk (show Kd.R k44 44 w w0.heap.size (fun k_ => (P0_ k_ ∨ w.heap.size ≤ k_)) u9000_ l0 from Kd.R_mono ho0 (fun k_ hk => (.inl hk)))
  have HK := Aside0.mk (Kept.refl w (fun k_ => P0_ k_))
  have HW0 := Aside0.mk hB.size
  have HB := Aside0.mk hB
  clear hB
  have H : (api_Term_61_at52.l0 k l0 a2 (wrap64 (a2 - a1)) (wrap64 (a3 - a2))) = some r := h
  clear h
  have H' := Aside0.mk H
  clear H
  go_enter Try.func61, Try.ntmps61
  go_wp2
  go_loopg [10, 11] k (fun kq v10 v11 w' => ∃ (x0_1 : List (S44)) (x10_1 : Int) (x11_1 : Int), v10 = .int .i64 x10_1 ∧ v11 = .int .i64 x11_1 ∧ Aside0 (api_Term_61_at52.l0 kq x0_1 a2 x10_1 x11_1 = some r) ∧ Aside0 (kq ≤ k) ∧ Aside0 (Kd.R k44 44 w' w0.heap.size (fun k_ => (P0_ k_ ∨ w.heap.size ≤ k_)) u9000_ x0_1) ∧ Aside0 (Kept w w' (fun k_ => P0_ k_)) ∧ Aside0 (Below w0.heap.size w0 w'))
  case atStart => exact ⟨(l0), (wrap64 (a2 - a1)), (wrap64 (a3 - a2)), rS, rS, H', ⟨Nat.le_refl _⟩, ⟨rK HO0.out⟩, ⟨kP HK.out⟩, ⟨hB0 HB.out⟩⟩
  case round =>
   clear H'
   obtain ⟨x0_1, x10_1, x11_1, rfl, rfl, HA, HK1, HO_0, HK, HB⟩ := hrel
   cases gk with
   | zero => exact absurd HA.out (by simp [api_Term_61_at52.l0])
   | succ k1 =>
    have H := HA.out
    clear HA
    simp only [api_Term_61_at52.l0] at H
    by_cases c6 : x10_1 = x11_1
    ·rw [if_pos c6] at H
     have c6b0 : (x10_1 == x11_1) = true := beq_iff_eq.mpr c6
     have c6b1 : (x10_1 != x11_1) = false := bne_eq_false_iff_eq.mpr c6
     clear c6
     replace H := Option.bind_eq_some_iff.mp H
     obtain ⟨t101, A70, H⟩ := H
     replace H : (some t101) = some r := H
     have A7 := Aside0.mk A70
     clear A70
     obtain rfl := Option.some.inj H
     obtain ⟨Ao8, co8, eo8⟩ := Kd.R_slice HO_0.out
     subst eo8
     go_wp2_with (first | ((with_reducible refine gate_callee (f := 62) rfl ?_); refine goesL_ (some 57) rfl rfl Try.func62 (by kernel_rfl) rfl #[.slice Ao8 x0_1.length co8, .int .i64 (wrap64 (a2 - x10_1)), .int .i64 a2, .int .i64 x10_1, .func (.func 52) #[] #[]] rfl aM ?_; (with_reducible refine (api_Term_62_at52.calls k1 (fun k_ => some k_ = (.slice Ao8 x0_1.length co8 : Value).ownBlock) (.slice Ao8 x0_1.length co8) x0_1 (wrap64 (a2 - x10_1)) a2 x10_1  t101 w0 _ ?side1 ?side2 A7.out).mono ?_); (case side1 => repeat (first | (with_reducible first | exact HB.out | apply below_alloc | apply pw_below_drewN | apply below_drew1) | exact HB.out)); (case side2 => exact Kd.R_tight rfl HO_0.out); rintro e w9 ⟨rfl, hy0, hb, hkp⟩; refine ⟨_, rfl, ?_⟩; have n0_ := Aside0.mk (Kd.R_reok rfl hy0 (fun k_ e_ => HO_0.out.1 k_ e_)); have n1_ := Aside0.mk (Kept.then_ (S := (fun k_ => P0_ k_)) (kP HK.out) hkp (fun k_ hs_ => (fun e_ => (HO_0.out.1 k_ e_.symm)) hs_)); have n2_ := Aside0.mk (hb); clear HO_0 HK HB; have HO_0 := n0_; have HK := n1_; have HB := n2_; clear n0_ n1_ n2_; (try clear hb); (try clear hkp); (try clear hy0)))
     first | go_end0 | ((try simp only [Exit.inBlock, Exit.then]); refine bodyPost_ret (results_none rfl _ _ _) rfl ?_)
     exact ⟨eW, by (with_reducible repeat (first | apply Kd.R_alloc | apply Kd.R_drewN | apply Kd.R_drew)); exact HO_0.out, hB0 HB.out, kP HK.out⟩
    ·rw [if_neg c6] at H
     have c6b0 : (x10_1 == x11_1) = false := beq_eq_false_iff_ne.mpr c6
     have c6b1 : (x10_1 != x11_1) = true := bne_iff_ne.mpr c6
     by_cases c10 : x10_1 > x11_1
     ·rw [if_pos c10] at H
      have c10b0 : decide (x11_1 < x10_1) = true := decide_eq_true c10
      clear c10
      replace H := Option.bind_eq_some_iff.mp H
      obtain ⟨t102, A110, H⟩ := H
      replace H : (api_Term_61_at52.l0 k1 t102 a2 (wrap64 (x10_1 - x11_1)) x11_1) = some r := H
      have A11 := Aside0.mk A110
      clear A110
      have H' := Aside0.mk H
      clear H
      obtain ⟨Ao12, co12, eo12⟩ := Kd.R_slice HO_0.out
      subst eo12
      go_wp2_with (first | ((with_reducible refine gate_callee (f := 62) rfl ?_); refine goesL_ (some 31) rfl rfl Try.func62 (by kernel_rfl) rfl #[.slice Ao12 x0_1.length co12, .int .i64 (wrap64 (a2 - x10_1)), .int .i64 a2, .int .i64 x11_1, .func (.func 52) #[] #[]] rfl aM ?_; (with_reducible refine (api_Term_62_at52.calls k1 (fun k_ => some k_ = (.slice Ao12 x0_1.length co12 : Value).ownBlock) (.slice Ao12 x0_1.length co12) x0_1 (wrap64 (a2 - x10_1)) a2 x11_1  t102 w0 _ ?side1 ?side2 A11.out).mono ?_); (case side1 => repeat (first | (with_reducible first | exact HB.out | apply below_alloc | apply pw_below_drewN | apply below_drew1) | exact HB.out)); (case side2 => exact Kd.R_tight rfl HO_0.out); rintro e w13 ⟨rfl, hy0, hb, hkp⟩; refine ⟨_, rfl, ?_⟩; have n0_ := Aside0.mk (Kd.R_reok rfl hy0 (fun k_ e_ => HO_0.out.1 k_ e_)); have n1_ := Aside0.mk (Kept.then_ (S := (fun k_ => P0_ k_)) (kP HK.out) hkp (fun k_ hs_ => (fun e_ => (HO_0.out.1 k_ e_.symm)) hs_)); have n2_ := Aside0.mk (hb); clear HO_0 HK HB; have HO_0 := n0_; have HK := n1_; have HB := n2_; clear n0_ n1_ n2_; (try clear hb); (try clear hkp); (try clear hy0)))
      go_roundg k1
      case measure => have := HK1.out; omega
      case rel => exact ⟨(t102), (wrap64 (x10_1 - x11_1)), (x11_1), rS, rS, H', ⟨by have := HK1.out; omega⟩, ⟨rK HO_0.out⟩, ⟨kP HK.out⟩, ⟨hB0 HB.out⟩⟩
     ·rw [if_neg c10] at H
      have c10b0 : decide (x11_1 < x10_1) = false := decide_eq_false c10
      clear c10
      replace H := Option.bind_eq_some_iff.mp H
      obtain ⟨t103, A140, H⟩ := H
      replace H : (api_Term_61_at52.l0 k1 t103 a2 x10_1 (wrap64 (x11_1 - x10_1))) = some r := H
      have A14 := Aside0.mk A140
      clear A140
      have H' := Aside0.mk H
      clear H
      obtain ⟨Ao15, co15, eo15⟩ := Kd.R_slice HO_0.out
      subst eo15
      go_wp2_with (first | ((with_reducible refine gate_callee (f := 62) rfl ?_); refine goesL_ (some 46) rfl rfl Try.func62 (by kernel_rfl) rfl #[.slice Ao15 x0_1.length co15, .int .i64 (wrap64 (a2 - x10_1)), .int .i64 (wrap64 ((wrap64 (a2 + x11_1)) - x10_1)), .int .i64 x10_1, .func (.func 52) #[] #[]] rfl aM ?_; (with_reducible refine (api_Term_62_at52.calls k1 (fun k_ => some k_ = (.slice Ao15 x0_1.length co15 : Value).ownBlock) (.slice Ao15 x0_1.length co15) x0_1 (wrap64 (a2 - x10_1)) (wrap64 ((wrap64 (a2 + x11_1)) - x10_1)) x10_1  t103 w0 _ ?side1 ?side2 A14.out).mono ?_); (case side1 => repeat (first | (with_reducible first | exact HB.out | apply below_alloc | apply pw_below_drewN | apply below_drew1) | exact HB.out)); (case side2 => exact Kd.R_tight rfl HO_0.out); rintro e w16 ⟨rfl, hy0, hb, hkp⟩; refine ⟨_, rfl, ?_⟩; have n0_ := Aside0.mk (Kd.R_reok rfl hy0 (fun k_ e_ => HO_0.out.1 k_ e_)); have n1_ := Aside0.mk (Kept.then_ (S := (fun k_ => P0_ k_)) (kP HK.out) hkp (fun k_ hs_ => (fun e_ => (HO_0.out.1 k_ e_.symm)) hs_)); have n2_ := Aside0.mk (hb); clear HO_0 HK HB; have HO_0 := n0_; have HK := n1_; have HB := n2_; clear n0_ n1_ n2_; (try clear hb); (try clear hkp); (try clear hy0)))
      go_roundg k1
      case measure => have := HK1.out; omega
      case rel => exact ⟨(t103), (x10_1), (wrap64 (x11_1 - x10_1)), rS, rS, H', ⟨by have := HK1.out; omega⟩, ⟨rK HO_0.out⟩, ⟨kP HK.out⟩, ⟨hB0 HB.out⟩⟩
mutual
def api_Term_60_at52.l0 : Nat → List (S44) → Int → Int → Int → Option ((List (S44)))
  | 0, _, _, _, _ => none
  | k + 1, x0, x1, x10, x11 => if x10 < x11 then (if 0 ≤ (wrap64 ((IntKind.u64.wrap (wrap64 (x10 + x11))) / 2)) then (if (wrap64 ((IntKind.u64.wrap (wrap64 (x10 + x11))) / 2)) < (x0.length : Int) then (if 0 ≤ x1 then (if x1 < (x0.length : Int) then ((fact_gather_1.f ((rd_T44 x0 (wrap64 ((IntKind.u64.wrap (wrap64 (x10 + x11))) / 2))).f0) ((rd_T44 x0 (wrap64 ((IntKind.u64.wrap (wrap64 (x10 + x11))) / 2))).f1) ((rd_T44 x0 x1).f0) ((rd_T44 x0 x1).f1)).bind fun t106 => (if t106 < 0 then (api_Term_60_at52.l0 k x0 x1 (wrap64 ((wrap64 ((IntKind.u64.wrap (wrap64 (x10 + x11))) / 2)) + 1)) x11) else (api_Term_60_at52.l0 k x0 x1 x10 (wrap64 ((IntKind.u64.wrap (wrap64 (x10 + x11))) / 2))))) else (none)) else (none)) else (none)) else (none)) else (api_Term_60_at52.l1 k x0 x10 x1)
def api_Term_60_at52.l1 : Nat → List (S44) → Int → Int → Option ((List (S44)))
  | 0, _, _, _ => none
  | k + 1, x0, x10, x13 => if x13 < (wrap64 (x10 - 1)) then (if 0 ≤ (wrap64 (x13 + 1)) then (if (wrap64 (x13 + 1)) < (x0.length : Int) then (if 0 ≤ x13 then (if x13 < (x0.length : Int) then (api_Term_60_at52.l1 k ((x0.set (x13 : Int).toNat (⟨(rd_T44 x0 (wrap64 (x13 + 1))).f0, (rd_T44 x0 (wrap64 (x13 + 1))).f1⟩ : S44)).set ((wrap64 (x13 + 1)) : Int).toNat (⟨(rd_T44 x0 x13).f0, (rd_T44 x0 x13).f1⟩ : S44)) x10 (wrap64 (x13 + 1))) else (none)) else (none)) else (none)) else (none)) else (some x0)
def api_Term_60_at52.l2 : Nat → List (S44) → Int → Int → Int → Option ((List (S44)))
  | 0, _, _, _, _ => none
  | k + 1, x0, x2, x14, x15 => if x14 < x15 then (if 0 ≤ x2 then (if x2 < (x0.length : Int) then (if 0 ≤ (wrap64 ((IntKind.u64.wrap (wrap64 (x14 + x15))) / 2)) then (if (wrap64 ((IntKind.u64.wrap (wrap64 (x14 + x15))) / 2)) < (x0.length : Int) then ((fact_gather_1.f ((rd_T44 x0 x2).f0) ((rd_T44 x0 x2).f1) ((rd_T44 x0 (wrap64 ((IntKind.u64.wrap (wrap64 (x14 + x15))) / 2))).f0) ((rd_T44 x0 (wrap64 ((IntKind.u64.wrap (wrap64 (x14 + x15))) / 2))).f1)).bind fun t113 => (if t113 < 0 then (api_Term_60_at52.l2 k x0 x2 x14 (wrap64 ((IntKind.u64.wrap (wrap64 (x14 + x15))) / 2))) else (api_Term_60_at52.l2 k x0 x2 (wrap64 ((wrap64 ((IntKind.u64.wrap (wrap64 (x14 + x15))) / 2)) + 1)) x15))) else (none)) else (none)) else (none)) else (none)) else (api_Term_60_at52.l3 k x0 x14 x2)
def api_Term_60_at52.l3 : Nat → List (S44) → Int → Int → Option ((List (S44)))
  | 0, _, _, _ => none
  | k + 1, x0, x14, x17 => if x17 > x14 then (if 0 ≤ (wrap64 (x17 - 1)) then (if (wrap64 (x17 - 1)) < (x0.length : Int) then (if 0 ≤ x17 then (if x17 < (x0.length : Int) then (api_Term_60_at52.l3 k ((x0.set (x17 : Int).toNat (⟨(rd_T44 x0 (wrap64 (x17 - 1))).f0, (rd_T44 x0 (wrap64 (x17 - 1))).f1⟩ : S44)).set ((wrap64 (x17 - 1)) : Int).toNat (⟨(rd_T44 x0 x17).f0, (rd_T44 x0 x17).f1⟩ : S44)) x14 (wrap64 (x17 - 1))) else (none)) else (none)) else (none)) else (none)) else (some x0)
def api_Term_60_at52.j4 : Nat → List (S44) → Int → Int → Int → Int → Int → Int → Int → Option ((List (S44)))
  | 0, _, _, _, _, _, _, _, _ => none
  | k + 1, x0, x1, x2, x3, x18, x19, x20, x21 => api_Term_60_at52.l4 k x0 x1 x2 x3 x18 x19 x20 x21 (wrap64 (x19 - 1))
def api_Term_60_at52.l4 : Nat → List (S44) → Int → Int → Int → Int → Int → Int → Int → Int → Option ((List (S44)))
  | 0, _, _, _, _, _, _, _, _, _ => none
  | k + 1, x0, x1, x2, x3, x18, x19, x20, x21, x22 => if x20 < x21 then (if 0 ≤ (wrap64 (x22 - (wrap64 ((IntKind.u64.wrap (wrap64 (x20 + x21))) / 2)))) then (if (wrap64 (x22 - (wrap64 ((IntKind.u64.wrap (wrap64 (x20 + x21))) / 2)))) < (x0.length : Int) then (if 0 ≤ (wrap64 ((IntKind.u64.wrap (wrap64 (x20 + x21))) / 2)) then (if (wrap64 ((IntKind.u64.wrap (wrap64 (x20 + x21))) / 2)) < (x0.length : Int) then ((fact_gather_1.f ((rd_T44 x0 (wrap64 (x22 - (wrap64 ((IntKind.u64.wrap (wrap64 (x20 + x21))) / 2))))).f0) ((rd_T44 x0 (wrap64 (x22 - (wrap64 ((IntKind.u64.wrap (wrap64 (x20 + x21))) / 2))))).f1) ((rd_T44 x0 (wrap64 ((IntKind.u64.wrap (wrap64 (x20 + x21))) / 2))).f0) ((rd_T44 x0 (wrap64 ((IntKind.u64.wrap (wrap64 (x20 + x21))) / 2))).f1)).bind fun t120 => (if t120 < 0 then (api_Term_60_at52.l4 k x0 x1 x2 x3 x18 x19 x20 (wrap64 ((IntKind.u64.wrap (wrap64 (x20 + x21))) / 2)) x22) else (api_Term_60_at52.l4 k x0 x1 x2 x3 x18 x19 (wrap64 ((wrap64 ((IntKind.u64.wrap (wrap64 (x20 + x21))) / 2)) + 1)) x21 x22))) else (none)) else (none)) else (none)) else (none)) else (if x20 < x2 then (api_Term_60_at52.j6 k x0 x1 x2 x3 x18 x20 (wrap64 (x19 - x20)) (decide (x2 < (wrap64 (x19 - x20))))) else (api_Term_60_at52.j6 k x0 x1 x2 x3 x18 x20 (wrap64 (x19 - x20)) false))
def api_Term_60_at52.j6 : Nat → List (S44) → Int → Int → Int → Int → Int → Int → Bool → Option ((List (S44)))
  | 0, _, _, _, _, _, _, _, _ => none
  | k + 1, x0, x1, x2, x3, x18, x20, x24, x185 => if x185 = true then ((api_Term_61_at52.f k x0 x20 x2 x24).bind fun t121 => (api_Term_60_at52.j7 k t121 x1 x3 x18 x20 x24)) else (api_Term_60_at52.j7 k x0 x1 x3 x18 x20 x24)
def api_Term_60_at52.j7 : Nat → List (S44) → Int → Int → Int → Int → Int → Option ((List (S44)))
  | 0, _, _, _, _, _, _ => none
  | k + 1, x0, x1, x3, x18, x20, x24 => if x1 < x20 then (api_Term_60_at52.j8 k x0 x1 x3 x18 x20 x24 (decide (x20 < x18))) else (api_Term_60_at52.j8 k x0 x1 x3 x18 x20 x24 false)
def api_Term_60_at52.j8 : Nat → List (S44) → Int → Int → Int → Int → Int → Bool → Option ((List (S44)))
  | 0, _, _, _, _, _, _, _ => none
  | k + 1, x0, x1, x3, x18, x20, x24, x199 => if x199 = true then ((api_Term_60_at52.f k x0 x1 x20 x18).bind fun t122 => (if x18 < x24 then (if x24 < x3 then ((api_Term_60_at52.f k t122 x18 x24 x3).bind fun t123 => (some t123)) else (some t122)) else (some t122))) else (if x18 < x24 then (if x24 < x3 then ((api_Term_60_at52.f k x0 x18 x24 x3).bind fun t124 => (some t124)) else (some x0)) else (some x0))
def api_Term_60_at52.f : Nat → List (S44) → Int → Int → Int → Option ((List (S44)))
  | 0, _, _, _, _ => none
  | k + 1, l0, a1, a2, a3 => if (wrap64 (a2 - a1)) = 1 then (api_Term_60_at52.l0 k l0 a1 a2 a3) else (if (wrap64 (a3 - a2)) = 1 then (api_Term_60_at52.l2 k l0 a2 a1 a2) else (if a2 > (wrap64 ((IntKind.u64.wrap (wrap64 (a1 + a3))) / 2)) then (api_Term_60_at52.j4 k l0 a1 a2 a3 (wrap64 ((IntKind.u64.wrap (wrap64 (a1 + a3))) / 2)) (wrap64 ((wrap64 ((IntKind.u64.wrap (wrap64 (a1 + a3))) / 2)) + a2)) (wrap64 ((wrap64 ((wrap64 ((IntKind.u64.wrap (wrap64 (a1 + a3))) / 2)) + a2)) - a3)) (wrap64 ((IntKind.u64.wrap (wrap64 (a1 + a3))) / 2))) else (api_Term_60_at52.j4 k l0 a1 a2 a3 (wrap64 ((IntKind.u64.wrap (wrap64 (a1 + a3))) / 2)) (wrap64 ((wrap64 ((IntKind.u64.wrap (wrap64 (a1 + a3))) / 2)) + a2)) a1 a2)))
end
theorem api_Term_60_at52.mono_l : ∀ k, (∀ y0 y1 y2 y3, LeO (api_Term_60_at52.f k y0 y1 y2 y3) (api_Term_60_at52.f (k + 1) y0 y1 y2 y3)) ∧ (∀ y0 y1 y2 y3, LeO (api_Term_60_at52.l0 k y0 y1 y2 y3) (api_Term_60_at52.l0 (k + 1) y0 y1 y2 y3)) ∧ (∀ y0 y1 y2, LeO (api_Term_60_at52.l1 k y0 y1 y2) (api_Term_60_at52.l1 (k + 1) y0 y1 y2)) ∧ (∀ y0 y1 y2 y3, LeO (api_Term_60_at52.l2 k y0 y1 y2 y3) (api_Term_60_at52.l2 (k + 1) y0 y1 y2 y3)) ∧ (∀ y0 y1 y2, LeO (api_Term_60_at52.l3 k y0 y1 y2) (api_Term_60_at52.l3 (k + 1) y0 y1 y2)) ∧ (∀ y0 y1 y2 y3 y4 y5 y6 y7, LeO (api_Term_60_at52.j4 k y0 y1 y2 y3 y4 y5 y6 y7) (api_Term_60_at52.j4 (k + 1) y0 y1 y2 y3 y4 y5 y6 y7)) ∧ (∀ y0 y1 y2 y3 y4 y5 y6 y7 y8, LeO (api_Term_60_at52.l4 k y0 y1 y2 y3 y4 y5 y6 y7 y8) (api_Term_60_at52.l4 (k + 1) y0 y1 y2 y3 y4 y5 y6 y7 y8)) ∧ (∀ y0 y1 y2 y3 y4 y5 y6 y7, LeO (api_Term_60_at52.j6 k y0 y1 y2 y3 y4 y5 y6 y7) (api_Term_60_at52.j6 (k + 1) y0 y1 y2 y3 y4 y5 y6 y7)) ∧ (∀ y0 y1 y2 y3 y4 y5, LeO (api_Term_60_at52.j7 k y0 y1 y2 y3 y4 y5) (api_Term_60_at52.j7 (k + 1) y0 y1 y2 y3 y4 y5)) ∧ (∀ y0 y1 y2 y3 y4 y5 y6, LeO (api_Term_60_at52.j8 k y0 y1 y2 y3 y4 y5 y6) (api_Term_60_at52.j8 (k + 1) y0 y1 y2 y3 y4 y5 y6))
  | 0 => ⟨fun _ _ _ _ r h => by simp [api_Term_60_at52.f] at h, fun _ _ _ _ r h => by simp [api_Term_60_at52.l0] at h, fun _ _ _ r h => by simp [api_Term_60_at52.l1] at h, fun _ _ _ _ r h => by simp [api_Term_60_at52.l2] at h, fun _ _ _ r h => by simp [api_Term_60_at52.l3] at h, fun _ _ _ _ _ _ _ _ r h => by simp [api_Term_60_at52.j4] at h, fun _ _ _ _ _ _ _ _ _ r h => by simp [api_Term_60_at52.l4] at h, fun _ _ _ _ _ _ _ _ r h => by simp [api_Term_60_at52.j6] at h, fun _ _ _ _ _ _ r h => by simp [api_Term_60_at52.j7] at h, fun _ _ _ _ _ _ _ r h => by simp [api_Term_60_at52.j8] at h⟩
  | k + 1 => by
   obtain ⟨ih0, ih1, ih2, ih3, ih4, ih5, ih6, ih7, ih8, ih9⟩ := api_Term_60_at52.mono_l k
   refine ⟨?_, ?_, ?_, ?_, ?_, ?_, ?_, ?_, ?_, ?_⟩
   ·intro y0 y1 y2 y3
    unfold api_Term_60_at52.f
    repeat' first
    | (with_reducible exact ih0 _ _ _ _)
    | (with_reducible exact ih1 _ _ _ _)
    | (with_reducible exact ih2 _ _ _)
    | (with_reducible exact ih3 _ _ _ _)
    | (with_reducible exact ih4 _ _ _)
    | (with_reducible exact ih5 _ _ _ _ _ _ _ _)
    | (with_reducible exact ih6 _ _ _ _ _ _ _ _ _)
    | (with_reducible exact ih7 _ _ _ _ _ _ _ _)
    | (with_reducible exact ih8 _ _ _ _ _ _)
    | (with_reducible exact ih9 _ _ _ _ _ _ _)
    | (with_reducible exact api_Term_61_at52.mono _ _ _ _ _)
    | (with_reducible exact LeO.refl _)
    | (with_reducible exact LeO.none _)
    | (with_reducible refine LeO.ite ?_ ?_)
    | (with_reducible refine LeO.bind ?_ (fun _ => ?_))
    | exact ih0 _ _ _ _
    | exact ih1 _ _ _ _
    | exact ih2 _ _ _
    | exact ih3 _ _ _ _
    | exact ih4 _ _ _
    | exact ih5 _ _ _ _ _ _ _ _
    | exact ih6 _ _ _ _ _ _ _ _ _
    | exact ih7 _ _ _ _ _ _ _ _
    | exact ih8 _ _ _ _ _ _
    | exact ih9 _ _ _ _ _ _ _
    | exact api_Term_61_at52.mono _ _ _ _ _
    | exact LeO.none _
    | refine LeO.ite ?_ ?_
    | refine LeO.bind ?_ (fun _ => ?_)
   ·intro y0 y1 y2 y3
    unfold api_Term_60_at52.l0
    repeat' first
    | (with_reducible exact ih0 _ _ _ _)
    | (with_reducible exact ih1 _ _ _ _)
    | (with_reducible exact ih2 _ _ _)
    | (with_reducible exact ih3 _ _ _ _)
    | (with_reducible exact ih4 _ _ _)
    | (with_reducible exact ih5 _ _ _ _ _ _ _ _)
    | (with_reducible exact ih6 _ _ _ _ _ _ _ _ _)
    | (with_reducible exact ih7 _ _ _ _ _ _ _ _)
    | (with_reducible exact ih8 _ _ _ _ _ _)
    | (with_reducible exact ih9 _ _ _ _ _ _ _)
    | (with_reducible exact api_Term_61_at52.mono _ _ _ _ _)
    | (with_reducible exact LeO.refl _)
    | (with_reducible exact LeO.none _)
    | (with_reducible refine LeO.ite ?_ ?_)
    | (with_reducible refine LeO.bind ?_ (fun _ => ?_))
    | exact ih0 _ _ _ _
    | exact ih1 _ _ _ _
    | exact ih2 _ _ _
    | exact ih3 _ _ _ _
    | exact ih4 _ _ _
    | exact ih5 _ _ _ _ _ _ _ _
    | exact ih6 _ _ _ _ _ _ _ _ _
    | exact ih7 _ _ _ _ _ _ _ _
    | exact ih8 _ _ _ _ _ _
    | exact ih9 _ _ _ _ _ _ _
    | exact api_Term_61_at52.mono _ _ _ _ _
    | exact LeO.none _
    | refine LeO.ite ?_ ?_
    | refine LeO.bind ?_ (fun _ => ?_)
   ·intro y0 y1 y2
    unfold api_Term_60_at52.l1
    repeat' first
    | (with_reducible exact ih0 _ _ _ _)
    | (with_reducible exact ih1 _ _ _ _)
    | (with_reducible exact ih2 _ _ _)
    | (with_reducible exact ih3 _ _ _ _)
    | (with_reducible exact ih4 _ _ _)
    | (with_reducible exact ih5 _ _ _ _ _ _ _ _)
    | (with_reducible exact ih6 _ _ _ _ _ _ _ _ _)
    | (with_reducible exact ih7 _ _ _ _ _ _ _ _)
    | (with_reducible exact ih8 _ _ _ _ _ _)
    | (with_reducible exact ih9 _ _ _ _ _ _ _)
    | (with_reducible exact api_Term_61_at52.mono _ _ _ _ _)
    | (with_reducible exact LeO.refl _)
    | (with_reducible exact LeO.none _)
    | (with_reducible refine LeO.ite ?_ ?_)
    | (with_reducible refine LeO.bind ?_ (fun _ => ?_))
    | exact ih0 _ _ _ _
    | exact ih1 _ _ _ _
    | exact ih2 _ _ _
    | exact ih3 _ _ _ _
    | exact ih4 _ _ _
    | exact ih5 _ _ _ _ _ _ _ _
    | exact ih6 _ _ _ _ _ _ _ _ _
    | exact ih7 _ _ _ _ _ _ _ _
    | exact ih8 _ _ _ _ _ _
    | exact ih9 _ _ _ _ _ _ _
    | exact api_Term_61_at52.mono _ _ _ _ _
    | exact LeO.none _
    | refine LeO.ite ?_ ?_
    | refine LeO.bind ?_ (fun _ => ?_)
   ·intro y0 y1 y2 y3
    unfold api_Term_60_at52.l2
    repeat' first
    | (with_reducible exact ih0 _ _ _ _)
    | (with_reducible exact ih1 _ _ _ _)
    | (with_reducible exact ih2 _ _ _)
    | (with_reducible exact ih3 _ _ _ _)
    | (with_reducible exact ih4 _ _ _)
    | (with_reducible exact ih5 _ _ _ _ _ _ _ _)
    | (with_reducible exact ih6 _ _ _ _ _ _ _ _ _)
    | (with_reducible exact ih7 _ _ _ _ _ _ _ _)
    | (with_reducible exact ih8 _ _ _ _ _ _)
    | (with_reducible exact ih9 _ _ _ _ _ _ _)
    | (with_reducible exact api_Term_61_at52.mono _ _ _ _ _)
    | (with_reducible exact LeO.refl _)
    | (with_reducible exact LeO.none _)
    | (with_reducible refine LeO.ite ?_ ?_)
    | (with_reducible refine LeO.bind ?_ (fun _ => ?_))
    | exact ih0 _ _ _ _
    | exact ih1 _ _ _ _
    | exact ih2 _ _ _
    | exact ih3 _ _ _ _
    | exact ih4 _ _ _
    | exact ih5 _ _ _ _ _ _ _ _
    | exact ih6 _ _ _ _ _ _ _ _ _
    | exact ih7 _ _ _ _ _ _ _ _
    | exact ih8 _ _ _ _ _ _
    | exact ih9 _ _ _ _ _ _ _
    | exact api_Term_61_at52.mono _ _ _ _ _
    | exact LeO.none _
    | refine LeO.ite ?_ ?_
    | refine LeO.bind ?_ (fun _ => ?_)
   ·intro y0 y1 y2
    unfold api_Term_60_at52.l3
    repeat' first
    | (with_reducible exact ih0 _ _ _ _)
    | (with_reducible exact ih1 _ _ _ _)
    | (with_reducible exact ih2 _ _ _)
    | (with_reducible exact ih3 _ _ _ _)
    | (with_reducible exact ih4 _ _ _)
    | (with_reducible exact ih5 _ _ _ _ _ _ _ _)
    | (with_reducible exact ih6 _ _ _ _ _ _ _ _ _)
    | (with_reducible exact ih7 _ _ _ _ _ _ _ _)
    | (with_reducible exact ih8 _ _ _ _ _ _)
    | (with_reducible exact ih9 _ _ _ _ _ _ _)
    | (with_reducible exact api_Term_61_at52.mono _ _ _ _ _)
    | (with_reducible exact LeO.refl _)
    | (with_reducible exact LeO.none _)
    | (with_reducible refine LeO.ite ?_ ?_)
    | (with_reducible refine LeO.bind ?_ (fun _ => ?_))
    | exact ih0 _ _ _ _
    | exact ih1 _ _ _ _
    | exact ih2 _ _ _
    | exact ih3 _ _ _ _
    | exact ih4 _ _ _
    | exact ih5 _ _ _ _ _ _ _ _
    | exact ih6 _ _ _ _ _ _ _ _ _
    | exact ih7 _ _ _ _ _ _ _ _
    | exact ih8 _ _ _ _ _ _
    | exact ih9 _ _ _ _ _ _ _
    | exact api_Term_61_at52.mono _ _ _ _ _
    | exact LeO.none _
    | refine LeO.ite ?_ ?_
    | refine LeO.bind ?_ (fun _ => ?_)
   ·intro y0 y1 y2 y3 y4 y5 y6 y7
    unfold api_Term_60_at52.j4
    repeat' first
    | (with_reducible exact ih0 _ _ _ _)
    | (with_reducible exact ih1 _ _ _ _)
    | (with_reducible exact ih2 _ _ _)
    | (with_reducible exact ih3 _ _ _ _)
    | (with_reducible exact ih4 _ _ _)
    | (with_reducible exact ih5 _ _ _ _ _ _ _ _)
    | (with_reducible exact ih6 _ _ _ _ _ _ _ _ _)
    | (with_reducible exact ih7 _ _ _ _ _ _ _ _)
    | (with_reducible exact ih8 _ _ _ _ _ _)
    | (with_reducible exact ih9 _ _ _ _ _ _ _)
    | (with_reducible exact api_Term_61_at52.mono _ _ _ _ _)
    | (with_reducible exact LeO.refl _)
    | (with_reducible exact LeO.none _)
    | (with_reducible refine LeO.ite ?_ ?_)
    | (with_reducible refine LeO.bind ?_ (fun _ => ?_))
    | exact ih0 _ _ _ _
    | exact ih1 _ _ _ _
    | exact ih2 _ _ _
    | exact ih3 _ _ _ _
    | exact ih4 _ _ _
    | exact ih5 _ _ _ _ _ _ _ _
    | exact ih6 _ _ _ _ _ _ _ _ _
    | exact ih7 _ _ _ _ _ _ _ _
    | exact ih8 _ _ _ _ _ _
    | exact ih9 _ _ _ _ _ _ _
    | exact api_Term_61_at52.mono _ _ _ _ _
    | exact LeO.none _
    | refine LeO.ite ?_ ?_
    | refine LeO.bind ?_ (fun _ => ?_)
   ·intro y0 y1 y2 y3 y4 y5 y6 y7 y8
    unfold api_Term_60_at52.l4
    repeat' first
    | (with_reducible exact ih0 _ _ _ _)
    | (with_reducible exact ih1 _ _ _ _)
    | (with_reducible exact ih2 _ _ _)
    | (with_reducible exact ih3 _ _ _ _)
    | (with_reducible exact ih4 _ _ _)
    | (with_reducible exact ih5 _ _ _ _ _ _ _ _)
    | (with_reducible exact ih6 _ _ _ _ _ _ _ _ _)
    | (with_reducible exact ih7 _ _ _ _ _ _ _ _)
    | (with_reducible exact ih8 _ _ _ _ _ _)
    | (with_reducible exact ih9 _ _ _ _ _ _ _)
    | (with_reducible exact api_Term_61_at52.mono _ _ _ _ _)
    | (with_reducible exact LeO.refl _)
    | (with_reducible exact LeO.none _)
    | (with_reducible refine LeO.ite ?_ ?_)
    | (with_reducible refine LeO.bind ?_ (fun _ => ?_))
    | exact ih0 _ _ _ _
    | exact ih1 _ _ _ _
    | exact ih2 _ _ _
    | exact ih3 _ _ _ _
    | exact ih4 _ _ _
    | exact ih5 _ _ _ _ _ _ _ _
    | exact ih6 _ _ _ _ _ _ _ _ _
    | exact ih7 _ _ _ _ _ _ _ _
    | exact ih8 _ _ _ _ _ _
    | exact ih9 _ _ _ _ _ _ _
    | exact api_Term_61_at52.mono _ _ _ _ _
    | exact LeO.none _
    | refine LeO.ite ?_ ?_
    | refine LeO.bind ?_ (fun _ => ?_)
   ·intro y0 y1 y2 y3 y4 y5 y6 y7
    unfold api_Term_60_at52.j6
    repeat' first
    | (with_reducible exact ih0 _ _ _ _)
    | (with_reducible exact ih1 _ _ _ _)
    | (with_reducible exact ih2 _ _ _)
    | (with_reducible exact ih3 _ _ _ _)
    | (with_reducible exact ih4 _ _ _)
    | (with_reducible exact ih5 _ _ _ _ _ _ _ _)
    | (with_reducible exact ih6 _ _ _ _ _ _ _ _ _)
    | (with_reducible exact ih7 _ _ _ _ _ _ _ _)
    | (with_reducible exact ih8 _ _ _ _ _ _)
    | (with_reducible exact ih9 _ _ _ _ _ _ _)
    | (with_reducible exact api_Term_61_at52.mono _ _ _ _ _)
    | (with_reducible exact LeO.refl _)
    | (with_reducible exact LeO.none _)
    | (with_reducible refine LeO.ite ?_ ?_)
    | (with_reducible refine LeO.bind ?_ (fun _ => ?_))
    | exact ih0 _ _ _ _
    | exact ih1 _ _ _ _
    | exact ih2 _ _ _
    | exact ih3 _ _ _ _
    | exact ih4 _ _ _
    | exact ih5 _ _ _ _ _ _ _ _
    | exact ih6 _ _ _ _ _ _ _ _ _
    | exact ih7 _ _ _ _ _ _ _ _
    | exact ih8 _ _ _ _ _ _
    | exact ih9 _ _ _ _ _ _ _
    | exact api_Term_61_at52.mono _ _ _ _ _
    | exact LeO.none _
    | refine LeO.ite ?_ ?_
    | refine LeO.bind ?_ (fun _ => ?_)
   ·intro y0 y1 y2 y3 y4 y5
    unfold api_Term_60_at52.j7
    repeat' first
    | (with_reducible exact ih0 _ _ _ _)
    | (with_reducible exact ih1 _ _ _ _)
    | (with_reducible exact ih2 _ _ _)
    | (with_reducible exact ih3 _ _ _ _)
    | (with_reducible exact ih4 _ _ _)
    | (with_reducible exact ih5 _ _ _ _ _ _ _ _)
    | (with_reducible exact ih6 _ _ _ _ _ _ _ _ _)
    | (with_reducible exact ih7 _ _ _ _ _ _ _ _)
    | (with_reducible exact ih8 _ _ _ _ _ _)
    | (with_reducible exact ih9 _ _ _ _ _ _ _)
    | (with_reducible exact api_Term_61_at52.mono _ _ _ _ _)
    | (with_reducible exact LeO.refl _)
    | (with_reducible exact LeO.none _)
    | (with_reducible refine LeO.ite ?_ ?_)
    | (with_reducible refine LeO.bind ?_ (fun _ => ?_))
    | exact ih0 _ _ _ _
    | exact ih1 _ _ _ _
    | exact ih2 _ _ _
    | exact ih3 _ _ _ _
    | exact ih4 _ _ _
    | exact ih5 _ _ _ _ _ _ _ _
    | exact ih6 _ _ _ _ _ _ _ _ _
    | exact ih7 _ _ _ _ _ _ _ _
    | exact ih8 _ _ _ _ _ _
    | exact ih9 _ _ _ _ _ _ _
    | exact api_Term_61_at52.mono _ _ _ _ _
    | exact LeO.none _
    | refine LeO.ite ?_ ?_
    | refine LeO.bind ?_ (fun _ => ?_)
   ·intro y0 y1 y2 y3 y4 y5 y6
    unfold api_Term_60_at52.j8
    repeat' first
    | (with_reducible exact ih0 _ _ _ _)
    | (with_reducible exact ih1 _ _ _ _)
    | (with_reducible exact ih2 _ _ _)
    | (with_reducible exact ih3 _ _ _ _)
    | (with_reducible exact ih4 _ _ _)
    | (with_reducible exact ih5 _ _ _ _ _ _ _ _)
    | (with_reducible exact ih6 _ _ _ _ _ _ _ _ _)
    | (with_reducible exact ih7 _ _ _ _ _ _ _ _)
    | (with_reducible exact ih8 _ _ _ _ _ _)
    | (with_reducible exact ih9 _ _ _ _ _ _ _)
    | (with_reducible exact api_Term_61_at52.mono _ _ _ _ _)
    | (with_reducible exact LeO.refl _)
    | (with_reducible exact LeO.none _)
    | (with_reducible refine LeO.ite ?_ ?_)
    | (with_reducible refine LeO.bind ?_ (fun _ => ?_))
    | exact ih0 _ _ _ _
    | exact ih1 _ _ _ _
    | exact ih2 _ _ _
    | exact ih3 _ _ _ _
    | exact ih4 _ _ _
    | exact ih5 _ _ _ _ _ _ _ _
    | exact ih6 _ _ _ _ _ _ _ _ _
    | exact ih7 _ _ _ _ _ _ _ _
    | exact ih8 _ _ _ _ _ _
    | exact ih9 _ _ _ _ _ _ _
    | exact api_Term_61_at52.mono _ _ _ _ _
    | exact LeO.none _
    | refine LeO.ite ?_ ?_
    | refine LeO.bind ?_ (fun _ => ?_)
theorem api_Term_60_at52.mono : ∀ a0 a1 a2 a3 k, LeO (api_Term_60_at52.f k a0 a1 a2 a3) (api_Term_60_at52.f (k + 1) a0 a1 a2 a3) := by
  intro a0 a1 a2 a3 k
  obtain ⟨ih0, ih1, ih2, ih3, ih4, ih5, ih6, ih7, ih8, ih9⟩ := api_Term_60_at52.mono_l k
  exact ih0 a0 a1 a2 a3
def api_Term_60_at52.T5 : Bool × List (List Nat × List Nat) := (true, [([], []), ([], []), ([], []), ([1, 2], [1, 2]), ([3], [3]), ([], []), ([], []), ([5, 6], [5, 6]), ([7], [7]), ([0, 4, 8], [0, 4, 8]), ([9], [9])])
def api_Term_60_at52.B5 : List Nat := [0, 0, 0, 6, 14, 0, 0, 96, 224, 511, 1023]
theorem api_Term_60_at52.tab5 : rtab .any (opsOf Try.f60 5) = api_Term_60_at52.T5 := by kernel_rfl
theorem api_Term_60_at52.bits5 : waitsOk api_Term_60_at52.T5.2 api_Term_60_at52.B5 = true := by kernel_rfl
def api_Term_60_at52.T11 : Bool × List (List Nat × List Nat) := (true, [([], []), ([], []), ([], []), ([], []), ([3], [3]), ([], []), ([], []), ([6], [6]), ([5, 7], [5, 7]), ([8], [8]), ([], []), ([], []), ([10, 11], [10, 11]), ([12], [12]), ([0, 1, 0, 1, 5, 6, 7, 8, 9, 13], [0, 1]), ([14, 9, 0, 1, 5, 6, 7, 8, 9, 13], [9, 14]), ([2, 4, 0, 1, 2, 3, 4, 5, 6, 7, 8, 9, 10, 11, 12, 13, 14, 15], [2, 4]), ([16, 13, 15, 0, 1, 2, 3, 4, 5, 6, 7, 8, 9, 10, 11, 12, 13, 14, 15], [13, 16])])
def api_Term_60_at52.B11 : List Nat := [0, 0, 0, 0, 8, 0, 0, 64, 224, 480, 0, 0, 3072, 7168, 16355, 32739, 65535, 131071]
theorem api_Term_60_at52.tab11 : rtab .any (opsOf Try.f60 11) = api_Term_60_at52.T11 := by kernel_rfl
theorem api_Term_60_at52.bits11 : waitsOk api_Term_60_at52.T11.2 api_Term_60_at52.B11 = true := by kernel_rfl
def api_Term_60_at52.T17 : Bool × List (List Nat × List Nat) := (true, [([], []), ([], []), ([], []), ([1, 2], [1, 2]), ([3], [3]), ([], []), ([], []), ([5, 6], [5, 6]), ([7], [7]), ([0, 4, 8], [0, 4, 8]), ([9], [9]), ([10], [10])])
def api_Term_60_at52.B17 : List Nat := [0, 0, 0, 6, 14, 0, 0, 96, 224, 511, 1023, 2047]
theorem api_Term_60_at52.tab17 : rtab .any (opsOf Try.f60 17) = api_Term_60_at52.T17 := by kernel_rfl
theorem api_Term_60_at52.bits17 : waitsOk api_Term_60_at52.T17.2 api_Term_60_at52.B17 = true := by kernel_rfl
def api_Term_60_at52.T23 : Bool × List (List Nat × List Nat) := (true, [([], []), ([], []), ([], []), ([], []), ([3], [3]), ([], []), ([], []), ([6], [6]), ([5, 7], [5, 7]), ([8], [8]), ([], []), ([], []), ([10, 11], [10, 11]), ([12], [12]), ([0, 1, 0, 1, 5, 6, 7, 8, 9, 13], [0, 1]), ([14, 9, 0, 1, 5, 6, 7, 8, 9, 13], [9, 14]), ([2, 4, 0, 1, 2, 3, 4, 5, 6, 7, 8, 9, 10, 11, 12, 13, 14, 15], [2, 4]), ([16, 13, 15, 0, 1, 2, 3, 4, 5, 6, 7, 8, 9, 10, 11, 12, 13, 14, 15], [13, 16])])
def api_Term_60_at52.B23 : List Nat := [0, 0, 0, 0, 8, 0, 0, 64, 224, 480, 0, 0, 3072, 7168, 16355, 32739, 65535, 131071]
theorem api_Term_60_at52.tab23 : rtab .any (opsOf Try.f60 23) = api_Term_60_at52.T23 := by kernel_rfl
theorem api_Term_60_at52.bits23 : waitsOk api_Term_60_at52.T23.2 api_Term_60_at52.B23 = true := by kernel_rfl
def api_Term_60_at52.T35 : Bool × List (List Nat × List Nat) := (true, [([], []), ([], []), ([], []), ([], []), ([2, 3], [2, 3]), ([1, 4], [1, 4]), ([5], [5]), ([], []), ([], []), ([7, 8], [7, 8]), ([9], [9]), ([0, 6, 10], [0, 6, 10]), ([11], [11]), ([12], [12])])
def api_Term_60_at52.B35 : List Nat := [0, 0, 0, 0, 12, 30, 62, 0, 0, 384, 896, 2047, 4095, 8191]
theorem api_Term_60_at52.tab35 : rtab .any (opsOf Try.f60 35) = api_Term_60_at52.T35 := by kernel_rfl
theorem api_Term_60_at52.bits35 : waitsOk api_Term_60_at52.T35.2 api_Term_60_at52.B35 = true := by kernel_rfl
abbrev api_Term_60_at52.b0 : Array Bool := X.bv102
abbrev api_Term_60_at52.b1 : Array Bool := X.bv103
abbrev api_Term_60_at52.b2 : Array Bool := X.bv104
abbrev api_Term_60_at52.b3 : Array Bool := X.bv105
abbrev api_Term_60_at52.b4 : Array Bool := X.bv106
abbrev api_Term_60_at52.b5 : Array Bool := X.bv107
abbrev api_Term_60_at52.b6 : Array Bool := X.bv108
abbrev api_Term_60_at52.b7 : Array Bool := X.bv109
abbrev api_Term_60_at52.b8 : Array Bool := X.bv110
abbrev api_Term_60_at52.b9 : Array Bool := X.bv111
abbrev api_Term_60_at52.b10 : Array Bool := X.bv112
abbrev api_Term_60_at52.b11 : Array Bool := X.bv113
abbrev api_Term_60_at52.b12 : Array Bool := X.bv54
abbrev api_Term_60_at52.b13 : Array Bool := X.bv55
abbrev api_Term_60_at52.b14 : Array Bool := X.bv56
abbrev api_Term_60_at52.b15 : Array Bool := X.bv57
abbrev api_Term_60_at52.b16 : Array Bool := X.bv58
abbrev api_Term_60_at52.b17 : Array Bool := X.bv59
abbrev api_Term_60_at52.b18 : Array Bool := X.bv60
abbrev api_Term_60_at52.b19 : Array Bool := X.bv61
abbrev api_Term_60_at52.b20 : Array Bool := X.bv62
abbrev api_Term_60_at52.b21 : Array Bool := X.bv63
abbrev api_Term_60_at52.b22 : Array Bool := X.bv64
abbrev api_Term_60_at52.b23 : Array Bool := X.bv65
abbrev api_Term_60_at52.b24 : Array Bool := X.bv66
abbrev api_Term_60_at52.b25 : Array Bool := X.bv67
abbrev api_Term_60_at52.b26 : Array Bool := X.bv68
abbrev api_Term_60_at52.b27 : Array Bool := X.bv69
abbrev api_Term_60_at52.b28 : Array Bool := X.bv70
abbrev api_Term_60_at52.b29 : Array Bool := X.bv71
abbrev api_Term_60_at52.b30 : Array Bool := X.bv72
abbrev api_Term_60_at52.b31 : Array Bool := X.bv114
abbrev api_Term_60_at52.b32 : Array Bool := X.bv115
abbrev api_Term_60_at52.b33 : Array Bool := X.bv116
abbrev api_Term_60_at52.b34 : Array Bool := X.bv117
abbrev api_Term_60_at52.b35 : Array Bool := X.bv118
abbrev api_Term_60_at52.b36 : Array Bool := X.bv119
abbrev api_Term_60_at52.b37 : Array Bool := X.bv120
abbrev api_Term_60_at52.b38 : Array Bool := X.bv121
abbrev api_Term_60_at52.b39 : Array Bool := X.bv122
abbrev api_Term_60_at52.b40 : Array Bool := X.bv123
abbrev api_Term_60_at52.b41 : Array Bool := X.bv124
abbrev api_Term_60_at52.b42 : Array Bool := X.bv125
abbrev api_Term_60_at52.b43 : Array Bool := X.bv126
abbrev api_Term_60_at52.b44 : Array Bool := X.bv127
abbrev api_Term_60_at52.b45 : Array Bool := X.bv128
abbrev api_Term_60_at52.b46 : Array Bool := X.bv129
abbrev api_Term_60_at52.b47 : Array Bool := X.bv130
abbrev api_Term_60_at52.b48 : Array Bool := X.bv131
abbrev api_Term_60_at52.b49 : Array Bool := X.bv132
abbrev api_Term_60_at52.b50 : Array Bool := X.bv133
abbrev api_Term_60_at52.b51 : Array Bool := X.bv134
abbrev api_Term_60_at52.b52 : Array Bool := X.bv135
abbrev api_Term_60_at52.b53 : Array Bool := X.bv136
abbrev api_Term_60_at52.b54 : Array Bool := X.bv137
abbrev api_Term_60_at52.b55 : Array Bool := X.bv138
abbrev api_Term_60_at52.b56 : Array Bool := X.bv139
abbrev api_Term_60_at52.b57 : Array Bool := X.bv140
abbrev api_Term_60_at52.b58 : Array Bool := X.bv141
set_option maxHeartbeats 8000000 in
set_option maxRecDepth 100000 in
theorem api_Term_60_at52.calls (k : Nat) : ∀ (P0_ : Nat → Prop) (u9000_ : Value) (l0 : List (S44)) (a1 : Int) (a2 : Int) (a3 : Int)  (r : List (S44)) (w0 w : World) (hB : Below w0.heap.size w0 w) (ho0 : Kd.R k44 44 w w0.heap.size P0_ u9000_ l0) (h : api_Term_60_at52.f k l0 a1 a2 a3 = some r),
   Calls Try.prog 60 #[u9000_, .int .i64 a1, .int .i64 a2, .int .i64 a3, .func (.func 52) #[] #[]] w fun e w' => e = .returned (.tuple #[]) ∧ Kd.R k44 44 w' w0.heap.size (fun k_ => (P0_ k_ ∨ w.heap.size ≤ k_)) u9000_ r ∧ Below w0.heap.size w0 w' ∧ Kept w w' (fun k_ => P0_ k_) := by
  induction k using Nat.strongRecOn with
  | _ k ih =>
  intro P0_ u9000_ l0 a1 a2 a3 r w0 w hB ho0 h
  cases k with
  | zero => exact absurd h (by simp [api_Term_60_at52.f])
  | succ k =>
  simp only [api_Term_60_at52.f] at h
  have hu44 := Try.underlying44
  have HO0 := Aside0.mk (show Kd.R k44 44 w w0.heap.size (fun k_ => (P0_ k_ ∨ w.heap.size ≤ k_)) u9000_ l0 from Kd.R_mono ho0 (fun k_ hk => (.inl hk)))
  have HK := Aside0.mk (Kept.refl w (fun k_ => P0_ k_))
  have HW0 := Aside0.mk hB.size
  have HB := Aside0.mk hB
  clear hB
  have H : (if (wrap64 (a2 - a1)) = 1 then (api_Term_60_at52.l0 k l0 a1 a2 a3) else (if (wrap64 (a3 - a2)) = 1 then (api_Term_60_at52.l2 k l0 a2 a1 a2) else (if a2 > (wrap64 ((IntKind.u64.wrap (wrap64 (a1 + a3))) / 2)) then (api_Term_60_at52.j4 k l0 a1 a2 a3 (wrap64 ((IntKind.u64.wrap (wrap64 (a1 + a3))) / 2)) (wrap64 ((wrap64 ((IntKind.u64.wrap (wrap64 (a1 + a3))) / 2)) + a2)) (wrap64 ((wrap64 ((wrap64 ((IntKind.u64.wrap (wrap64 (a1 + a3))) / 2)) + a2)) - a3)) (wrap64 ((IntKind.u64.wrap (wrap64 (a1 + a3))) / 2))) else (api_Term_60_at52.j4 k l0 a1 a2 a3 (wrap64 ((IntKind.u64.wrap (wrap64 (a1 + a3))) / 2)) (wrap64 ((wrap64 ((IntKind.u64.wrap (wrap64 (a1 + a3))) / 2)) + a2)) a1 a2)))) = some r := h
  clear h
  by_cases c6 : (wrap64 (a2 - a1)) = 1
  ·rw [if_pos c6] at H
   have c6b0 : ((wrap64 (a2 - a1)) == 1) = true := beq_iff_eq.mpr c6
   have c6b1 : ((wrap64 (a2 - a1)) != 1) = false := bne_eq_false_iff_eq.mpr c6
   clear c6
   have H' := Aside0.mk H
   clear H
   go_enter Try.func60, Try.ntmps60
   go_wp2
   go_loopg [10, 11] k (fun kq v10 v11 w' => ∃ (x10_1 : Int) (x11_1 : Int), v10 = .int .i64 x10_1 ∧ v11 = .int .i64 x11_1 ∧ Aside0 (api_Term_60_at52.l0 kq l0 a1 x10_1 x11_1 = some r) ∧ Aside0 (kq ≤ k) ∧ Aside0 (Kd.R k44 44 w' w0.heap.size (fun k_ => (P0_ k_ ∨ w.heap.size ≤ k_)) u9000_ l0) ∧ Aside0 (Kept w w' (fun k_ => P0_ k_)) ∧ Aside0 (Below w0.heap.size w0 w'))
   case atStart => exact ⟨(a2), (a3), rS, rS, H', ⟨Nat.le_refl _⟩, ⟨rK HO0.out⟩, ⟨kP HK.out⟩, ⟨hB0 HB.out⟩⟩
   case round =>
    clear H'
    try clear c6b0
    try clear c6b1
    obtain ⟨x10_1, x11_1, rfl, rfl, HA, HK1, HO_0, HK, HB⟩ := hrel
    cases gk with
    | zero => exact absurd HA.out (by simp [api_Term_60_at52.l0])
    | succ k1 =>
     have H := HA.out
     clear HA
     simp only [api_Term_60_at52.l0] at H
     by_cases c7 : x10_1 < x11_1
     ·rw [if_pos c7] at H
      have c7b0 : decide (x10_1 < x11_1) = true := decide_eq_true c7
      clear c7
      obtain ⟨ji8, hji8⟩ : ∃ j_ : Int, (wrap64 ((IntKind.u64.wrap (wrap64 (x10_1 + x11_1))) / 2)) = j_ := ⟨_, rfl⟩
      replace H : (if 0 ≤ (ji8) then (if (ji8) < (l0.length : Int) then (if 0 ≤ a1 then (if a1 < (l0.length : Int) then ((fact_gather_1.f ((rd_T44 l0 (ji8)).f0) ((rd_T44 l0 (ji8)).f1) ((rd_T44 l0 a1).f0) ((rd_T44 l0 a1).f1)).bind fun t106 => (if t106 < 0 then (api_Term_60_at52.l0 k1 l0 a1 (wrap64 ((ji8) + 1)) x11_1) else (api_Term_60_at52.l0 k1 l0 a1 x10_1 ji8))) else (none)) else (none)) else (none)) else (none)) = some r := by first | (rw [hji8] at H; exact H) | (simp only [hji8] at H ⊢; exact H)
      have hji8w : (IntKind.i64.wrap ((IntKind.u64.wrap (wrap64 (x10_1 + x11_1))) / 2)) = ji8 := (i64_w _).trans hji8
      by_cases c9 : 0 ≤ (ji8)
      ·rw [if_pos c9] at H
       have c9b0 : decide (0 ≤ (ji8)) = true := decide_eq_true c9
       clear c9
       by_cases c10 : (ji8) < (l0.length : Int)
       ·rw [if_pos c10] at H
        have c10b0 : decide ((ji8) < (l0.length : Int)) = true := decide_eq_true c10
        clear c10
        by_cases c11 : 0 ≤ a1
        ·rw [if_pos c11] at H
         have c11b0 : decide (0 ≤ a1) = true := decide_eq_true c11
         clear c11
         by_cases c12 : a1 < (l0.length : Int)
         ·rw [if_pos c12] at H
          have c12b0 : decide (a1 < (l0.length : Int)) = true := decide_eq_true c12
          clear c12
          replace H := Option.bind_eq_some_iff.mp H
          obtain ⟨t106, A130, H⟩ := H
          replace H : (if t106 < 0 then (api_Term_60_at52.l0 k1 l0 a1 (wrap64 ((ji8) + 1)) x11_1) else (api_Term_60_at52.l0 k1 l0 a1 x10_1 ji8)) = some r := H
          have A13 := Aside0.mk A130
          clear A130
          by_cases c14 : t106 < 0
          ·rw [if_pos c14] at H
           have c14b0 : decide (t106 < 0) = true := decide_eq_true c14
           clear c14
           as_aux_lemma =>
            have H' := Aside0.mk H
            clear H
            try go_wp2
            have n0_ := Aside0.mk (Kd.R_drew HO_0.out)
            have n1_ := Aside0.mk (Kept.drew HK.out)
            have n2_ := Aside0.mk (below_drew1 HB.out)
            clear HO_0
            clear HK
            clear HB
            have HO_0 := n0_
            have HK := n1_
            have HB := n2_
            clear n0_ n1_ n2_
            obtain ⟨Ao16, co16, eo16⟩ := Kd.R_slice HO_0.out
            (first | subst eo16 | (injection eo16 with f1_ f2_ f3_; have f4_ := f1_.symm; have f5_ := f3_.symm; clear f1_ f2_ f3_; subst f4_; subst f5_))
            have p104 : 0 ≤ ((ji8) : Int) := oD
            have q104 : (ji8) < (l0.length : Int) := oD
            obtain ⟨ad104, e104, hx104_0, hx104_1⟩ := at_T44 (Kd.R_reads' HO_0.out).2.2 (ji8) p104 q104
            cases e104
            replace p104 := eq_true p104
            replace q104 := eq_true q104
            have p105 : 0 ≤ (a1 : Int) := oD
            have q105 : a1 < (l0.length : Int) := oD
            obtain ⟨ad105, e105, hx105_0, hx105_1⟩ := at_T44 (Kd.R_reads' HO_0.out).2.2 a1 p105 q105
            obtain rfl : ad104 = ad105 := (by injection e105)
            replace p105 := eq_true p105
            replace q105 := eq_true q105
            refine start_ (n := 11) (S := fun w' => w'.cell? (ad104.add (((ji8)).toNat * 2)) = some (.int .i64 ((rd_T44 l0 (ji8)).f0)) ∧ w'.cell? ⟨(ad104.add (((ji8)).toNat * 2)).block, (ad104.add (((ji8)).toNat * 2)).off + 1, none⟩ = some (.int .i64 ((rd_T44 l0 (ji8)).f1)) ∧ w'.cell? (ad104.add ((a1).toNat * 2)) = some (.int .i64 ((rd_T44 l0 a1).f0)) ∧ w'.cell? ⟨(ad104.add ((a1).toNat * 2)).block, (ad104.add ((a1).toNat * 2)).off + 1, none⟩ = some (.int .i64 ((rd_T44 l0 a1).f1))) (ds := []) api_Term_60_at52.b0 (by kernel_rfl) rfl rfl ⟨hx104_0, hx104_1, hx105_0, hx105_1⟩ (fun hHeld => ?_); refine with_tabW api_Term_60_at52.tab5 api_Term_60_at52.bits5 (fun HT_ HW_ => ?_)
            generalize wr.drew = w15 at HO_0 HK HB hx104_0 hx104_1 hx105_0 hx105_1 hHeld ⊢
            refine pY 0 (some 40) api_Term_60_at52.b1 rfl rfl HT_.out (fun _ _ _ h => h) ?_
            refine pY 1 (some 41) api_Term_60_at52.b2 rfl rfl HT_.out (fun _ _ _ h => h) ?_
            refine pY 2 (some 42) api_Term_60_at52.b3 rfl rfl HT_.out (fun _ _ _ h => h) ?_
            refine pY 3 (some 43) api_Term_60_at52.b4 rfl rfl HT_.out (fun _ _ _ h => h) ?_
            refine pY 5 (some 45) api_Term_60_at52.b5 rfl rfl HT_.out (fun _ _ _ h => h) ?_
            refine pY 6 (some 46) api_Term_60_at52.b6 rfl rfl HT_.out (fun _ _ _ h => h) ?_
            refine pY 7 (some 47) api_Term_60_at52.b7 rfl rfl HT_.out (fun _ _ _ h => h) ?_
            refine take_ (i := 4) (N := some 44) (v := ?_) (a' := ?_) api_Term_60_at52.b8 rfl rfl (take_ofW HT_.out HW_.out (by kernel_rfl)) (fun _ _ _ h => h) (Or.inl ⟨by rfl, ?_⟩) hHeld ?_ ?_
            rotate_left
            ·rintro w' ⟨s0, s1, s2, s3⟩
             go_simp
             with_reducible rfl
            rotate_left
            ·simp only [Act.put, List.setIfInBounds_toArray, List.set_cons_zero, List.set_cons_succ, i64_w, i32_w]
             rfl
            refine take_ (i := 8) (N := some 48) (v := ?_) (a' := ?_) api_Term_60_at52.b9 rfl rfl (take_ofW HT_.out HW_.out (by kernel_rfl)) (fun _ _ _ h => h) (Or.inl ⟨by rfl, ?_⟩) hHeld ?_ ?_
            rotate_left
            ·rintro w' ⟨s0, s1, s2, s3⟩
             go_simp
             with_reducible rfl
            rotate_left
            ·simp only [Act.put, List.setIfInBounds_toArray, List.set_cons_zero, List.set_cons_succ, i64_w, i32_w]
             rfl
            refine one_ (i := 9) (N := some 49) api_Term_60_at52.b10 rfl rfl (one_of HT_.out (by kernel_rfl)) (by decide) (fun K hK => ?_)
            refine goesT_ Try.func52 (by kernel_rfl) rfl #[.agg #[.int .i64 ((rd_T44 l0 (ji8)).f0), .int .i64 ((rd_T44 l0 (ji8)).f1)], .agg #[.int .i64 ((rd_T44 l0 a1).f0), .int .i64 ((rd_T44 l0 a1).f1)]] (by rfl) rfl rfl (by (try simp only [List.map_toArray, List.map_cons, List.map_nil]); first | done | (simp only [hji8]; rfl) | rfl | (simp only [List.length_drop, List.length_take]; rfl)) ?_
            with_reducible refine (fact_gather_1.calls ((rd_T44 l0 (ji8)).f0) ((rd_T44 l0 (ji8)).f1) ((rd_T44 l0 a1).f0) ((rd_T44 l0 a1).f1) t106 _ A13.out).mono ?_
            rintro e w17 ⟨rfl, hb⟩
            have HS0_ := (hb.cell (World.block_lt_of_cell? _ _ (hHeld.1))).trans (hHeld.1)
            have HS1_ := (hb.cell (World.block_lt_of_cell? _ _ (hHeld.2.1))).trans (hHeld.2.1)
            have HS2_ := (hb.cell (World.block_lt_of_cell? _ _ (hHeld.2.2.1))).trans (hHeld.2.2.1)
            have HS3_ := (hb.cell (World.block_lt_of_cell? _ _ (hHeld.2.2.2))).trans (hHeld.2.2.2)
            refine ⟨_, rfl, ?_⟩
            have n0_ := Aside0.mk (Kd.R_below (rK HO_0.out) hb)
            have n1_ := Aside0.mk (Kept.below (S := (fun k_ => P0_ k_)) (kP HK.out) hb)
            have n2_ := Aside0.mk (below_step (hB0 HB.out) hb)
            clear HO_0
            clear HK
            clear HB
            have HO_0 := n0_
            have HK := n1_
            have HB := n2_
            clear n0_ n1_ n2_
            (try clear hb)
            (try clear hb2)
            (try clear hk)
            (try clear hi)
            refine hK.out _ _ ⟨HS0_, HS1_, HS2_, HS3_⟩ (fun hHeld => ?_)
            clear hK K
            refine norm_ (a' := ?_) ?_ ?_
            rotate_left
            ·show Act.put _ (some 49) _ = _
             simp only [Act.put, List.setIfInBounds_toArray, List.set_cons_zero, List.set_cons_succ, i64_w, i32_w]
             rfl
            refine pY 10 (some 50) api_Term_60_at52.b11 rfl rfl HT_.out (fun _ _ _ h => h) ?_
            refine done_ (done_of HT_.out (by kernel_rfl)) ?_
            try go_wp2
            go_roundg k1
            case measure => have := HK1.out; omega
            case rel => exact ⟨(wrap64 ((ji8) + 1)), (x11_1), (by first | rfl | (simp; done) | (simp only [← hji8] <;> (first | rfl | simp)) | (simp [*]; done)), rS, H', ⟨by have := HK1.out; omega⟩, ⟨rK HO_0.out⟩, ⟨kP HK.out⟩, ⟨hB0 HB.out⟩⟩
          ·rw [if_neg c14] at H
           have c14b0 : decide (t106 < 0) = false := decide_eq_false c14
           clear c14
           as_aux_lemma =>
            have H' := Aside0.mk H
            clear H
            try go_wp2
            have n0_ := Aside0.mk (Kd.R_drew HO_0.out)
            have n1_ := Aside0.mk (Kept.drew HK.out)
            have n2_ := Aside0.mk (below_drew1 HB.out)
            clear HO_0
            clear HK
            clear HB
            have HO_0 := n0_
            have HK := n1_
            have HB := n2_
            clear n0_ n1_ n2_
            obtain ⟨Ao19, co19, eo19⟩ := Kd.R_slice HO_0.out
            (first | subst eo19 | (injection eo19 with f1_ f2_ f3_; have f4_ := f1_.symm; have f5_ := f3_.symm; clear f1_ f2_ f3_; subst f4_; subst f5_))
            have p104 : 0 ≤ ((ji8) : Int) := oD
            have q104 : (ji8) < (l0.length : Int) := oD
            obtain ⟨ad104, e104, hx104_0, hx104_1⟩ := at_T44 (Kd.R_reads' HO_0.out).2.2 (ji8) p104 q104
            cases e104
            replace p104 := eq_true p104
            replace q104 := eq_true q104
            have p105 : 0 ≤ (a1 : Int) := oD
            have q105 : a1 < (l0.length : Int) := oD
            obtain ⟨ad105, e105, hx105_0, hx105_1⟩ := at_T44 (Kd.R_reads' HO_0.out).2.2 a1 p105 q105
            obtain rfl : ad104 = ad105 := (by injection e105)
            replace p105 := eq_true p105
            replace q105 := eq_true q105
            refine start_ (n := 11) (S := fun w' => w'.cell? (ad104.add (((ji8)).toNat * 2)) = some (.int .i64 ((rd_T44 l0 (ji8)).f0)) ∧ w'.cell? ⟨(ad104.add (((ji8)).toNat * 2)).block, (ad104.add (((ji8)).toNat * 2)).off + 1, none⟩ = some (.int .i64 ((rd_T44 l0 (ji8)).f1)) ∧ w'.cell? (ad104.add ((a1).toNat * 2)) = some (.int .i64 ((rd_T44 l0 a1).f0)) ∧ w'.cell? ⟨(ad104.add ((a1).toNat * 2)).block, (ad104.add ((a1).toNat * 2)).off + 1, none⟩ = some (.int .i64 ((rd_T44 l0 a1).f1))) (ds := []) api_Term_60_at52.b0 (by kernel_rfl) rfl rfl ⟨hx104_0, hx104_1, hx105_0, hx105_1⟩ (fun hHeld => ?_); refine with_tabW api_Term_60_at52.tab5 api_Term_60_at52.bits5 (fun HT_ HW_ => ?_)
            generalize wr.drew = w18 at HO_0 HK HB hx104_0 hx104_1 hx105_0 hx105_1 hHeld ⊢
            refine pY 0 (some 40) api_Term_60_at52.b1 rfl rfl HT_.out (fun _ _ _ h => h) ?_
            refine pY 1 (some 41) api_Term_60_at52.b2 rfl rfl HT_.out (fun _ _ _ h => h) ?_
            refine pY 2 (some 42) api_Term_60_at52.b3 rfl rfl HT_.out (fun _ _ _ h => h) ?_
            refine pY 3 (some 43) api_Term_60_at52.b4 rfl rfl HT_.out (fun _ _ _ h => h) ?_
            refine pY 5 (some 45) api_Term_60_at52.b5 rfl rfl HT_.out (fun _ _ _ h => h) ?_
            refine pY 6 (some 46) api_Term_60_at52.b6 rfl rfl HT_.out (fun _ _ _ h => h) ?_
            refine pY 7 (some 47) api_Term_60_at52.b7 rfl rfl HT_.out (fun _ _ _ h => h) ?_
            refine take_ (i := 4) (N := some 44) (v := ?_) (a' := ?_) api_Term_60_at52.b8 rfl rfl (take_ofW HT_.out HW_.out (by kernel_rfl)) (fun _ _ _ h => h) (Or.inl ⟨by rfl, ?_⟩) hHeld ?_ ?_
            rotate_left
            ·rintro w' ⟨s0, s1, s2, s3⟩
             go_simp
             with_reducible rfl
            rotate_left
            ·simp only [Act.put, List.setIfInBounds_toArray, List.set_cons_zero, List.set_cons_succ, i64_w, i32_w]
             rfl
            refine take_ (i := 8) (N := some 48) (v := ?_) (a' := ?_) api_Term_60_at52.b9 rfl rfl (take_ofW HT_.out HW_.out (by kernel_rfl)) (fun _ _ _ h => h) (Or.inl ⟨by rfl, ?_⟩) hHeld ?_ ?_
            rotate_left
            ·rintro w' ⟨s0, s1, s2, s3⟩
             go_simp
             with_reducible rfl
            rotate_left
            ·simp only [Act.put, List.setIfInBounds_toArray, List.set_cons_zero, List.set_cons_succ, i64_w, i32_w]
             rfl
            refine one_ (i := 9) (N := some 49) api_Term_60_at52.b10 rfl rfl (one_of HT_.out (by kernel_rfl)) (by decide) (fun K hK => ?_)
            refine goesT_ Try.func52 (by kernel_rfl) rfl #[.agg #[.int .i64 ((rd_T44 l0 (ji8)).f0), .int .i64 ((rd_T44 l0 (ji8)).f1)], .agg #[.int .i64 ((rd_T44 l0 a1).f0), .int .i64 ((rd_T44 l0 a1).f1)]] (by rfl) rfl rfl (by (try simp only [List.map_toArray, List.map_cons, List.map_nil]); first | done | (simp only [hji8]; rfl) | rfl | (simp only [List.length_drop, List.length_take]; rfl)) ?_
            with_reducible refine (fact_gather_1.calls ((rd_T44 l0 (ji8)).f0) ((rd_T44 l0 (ji8)).f1) ((rd_T44 l0 a1).f0) ((rd_T44 l0 a1).f1) t106 _ A13.out).mono ?_
            rintro e w20 ⟨rfl, hb⟩
            have HS0_ := (hb.cell (World.block_lt_of_cell? _ _ (hHeld.1))).trans (hHeld.1)
            have HS1_ := (hb.cell (World.block_lt_of_cell? _ _ (hHeld.2.1))).trans (hHeld.2.1)
            have HS2_ := (hb.cell (World.block_lt_of_cell? _ _ (hHeld.2.2.1))).trans (hHeld.2.2.1)
            have HS3_ := (hb.cell (World.block_lt_of_cell? _ _ (hHeld.2.2.2))).trans (hHeld.2.2.2)
            refine ⟨_, rfl, ?_⟩
            have n0_ := Aside0.mk (Kd.R_below (rK HO_0.out) hb)
            have n1_ := Aside0.mk (Kept.below (S := (fun k_ => P0_ k_)) (kP HK.out) hb)
            have n2_ := Aside0.mk (below_step (hB0 HB.out) hb)
            clear HO_0
            clear HK
            clear HB
            have HO_0 := n0_
            have HK := n1_
            have HB := n2_
            clear n0_ n1_ n2_
            (try clear hb)
            (try clear hb2)
            (try clear hk)
            (try clear hi)
            refine hK.out _ _ ⟨HS0_, HS1_, HS2_, HS3_⟩ (fun hHeld => ?_)
            clear hK K
            refine norm_ (a' := ?_) ?_ ?_
            rotate_left
            ·show Act.put _ (some 49) _ = _
             simp only [Act.put, List.setIfInBounds_toArray, List.set_cons_zero, List.set_cons_succ, i64_w, i32_w]
             rfl
            refine pY 10 (some 50) api_Term_60_at52.b11 rfl rfl HT_.out (fun _ _ _ h => h) ?_
            refine done_ (done_of HT_.out (by kernel_rfl)) ?_
            try go_wp2
            go_roundg k1
            case measure => have := HK1.out; omega
            case rel => exact ⟨(x10_1), (ji8), rS, (by first | rfl | (simp; done) | (simp only [← hji8] <;> (first | rfl | simp)) | (simp [*]; done)), H', ⟨by have := HK1.out; omega⟩, ⟨rK HO_0.out⟩, ⟨kP HK.out⟩, ⟨hB0 HB.out⟩⟩
         ·rw [if_neg c12] at H
          exact absurd H (by simp)
        ·rw [if_neg c11] at H
         exact absurd H (by simp)
       ·rw [if_neg c10] at H
        exact absurd H (by simp)
      ·rw [if_neg c9] at H
       exact absurd H (by simp)
     ·rw [if_neg c7] at H
      have c7b0 : decide (x10_1 < x11_1) = false := decide_eq_false c7
      clear c7
      have H' := Aside0.mk H
      clear H
      go_wp2
      go_loopg [13] k1 (fun kq v13 w' => ∃ (x0_2 : List (S44)) (x13_2 : Int), v13 = .int .i64 x13_2 ∧ Aside0 (api_Term_60_at52.l1 kq x0_2 x10_1 x13_2 = some r) ∧ Aside0 (kq ≤ k1) ∧ Aside0 (Kd.R k44 44 w' w0.heap.size (fun k_ => (P0_ k_ ∨ w.heap.size ≤ k_)) u9000_ x0_2) ∧ Aside0 (Kept w w' (fun k_ => P0_ k_)) ∧ Aside0 (Below w0.heap.size w0 w'))
      case atStart => exact ⟨(l0), (a1), rS, H', ⟨Nat.le_refl _⟩, ⟨rK HO_0.out⟩, ⟨kP HK.out⟩, ⟨hB0 HB.out⟩⟩
      case round =>
       clear H'
       try clear c7b0
       obtain ⟨x0_2, x13_2, rfl, HA, HK2, HO_0, HK, HB⟩ := hrel
       cases gk with
       | zero => exact absurd HA.out (by simp [api_Term_60_at52.l1])
       | succ k2 =>
        have H := HA.out
        clear HA
        simp only [api_Term_60_at52.l1] at H
        by_cases c21 : x13_2 < (wrap64 (x10_1 - 1))
        ·rw [if_pos c21] at H
         have c21b0 : decide (x13_2 < (wrap64 (x10_1 - 1))) = true := decide_eq_true c21
         clear c21
         obtain ⟨ji22, hji22⟩ : ∃ j_ : Int, (wrap64 (x13_2 + 1)) = j_ := ⟨_, rfl⟩
         replace H : (if 0 ≤ (ji22) then (if (ji22) < (x0_2.length : Int) then (if 0 ≤ x13_2 then (if x13_2 < (x0_2.length : Int) then (api_Term_60_at52.l1 k2 ((x0_2.set (x13_2 : Int).toNat (⟨(rd_T44 x0_2 (ji22)).f0, (rd_T44 x0_2 (ji22)).f1⟩ : S44)).set ((ji22) : Int).toNat (⟨(rd_T44 x0_2 x13_2).f0, (rd_T44 x0_2 x13_2).f1⟩ : S44)) x10_1 ji22) else (none)) else (none)) else (none)) else (none)) = some r := by first | (rw [hji22] at H; exact H) | (simp only [hji22] at H ⊢; exact H)
         have hji22w : (IntKind.i64.wrap (x13_2 + 1)) = ji22 := (i64_w _).trans hji22
         by_cases c23 : 0 ≤ (ji22)
         ·rw [if_pos c23] at H
          have c23b0 : decide (0 ≤ (ji22)) = true := decide_eq_true c23
          clear c23
          by_cases c24 : (ji22) < (x0_2.length : Int)
          ·rw [if_pos c24] at H
           have c24b0 : decide ((ji22) < (x0_2.length : Int)) = true := decide_eq_true c24
           clear c24
           by_cases c25 : 0 ≤ x13_2
           ·rw [if_pos c25] at H
            have c25b0 : decide (0 ≤ x13_2) = true := decide_eq_true c25
            clear c25
            by_cases c26 : x13_2 < (x0_2.length : Int)
            ·rw [if_pos c26] at H
             have c26b0 : decide (x13_2 < (x0_2.length : Int)) = true := decide_eq_true c26
             clear c26
             obtain ⟨y109, hy109⟩ : ∃ y_ : List (S44), y_ = (x0_2.set (x13_2 : Int).toNat (⟨(rd_T44 x0_2 (ji22)).f0, (rd_T44 x0_2 (ji22)).f1⟩ : S44)) := ⟨_, rfl⟩
             replace H : (api_Term_60_at52.l1 k2 (y109.set ((ji22) : Int).toNat (⟨(rd_T44 x0_2 x13_2).f0, (rd_T44 x0_2 x13_2).f1⟩ : S44)) x10_1 ji22) = some r := by first | (rw [hy109]; with_reducible exact H) | (have H2_ := (Option.bind_some _ _).symm.trans H; rw [hy109]; with_reducible exact H2_) | (have H2_ := (Option.bind_some _ _).symm.trans H; with_reducible exact H2_) | with_reducible exact H | (rw [hy109]; exact H) | exact H
             have Ny109 := Aside0.mk hy109
             clear hy109
             obtain ⟨y110, hy110⟩ : ∃ y_ : List (S44), y_ = (y109.set ((ji22) : Int).toNat (⟨(rd_T44 x0_2 x13_2).f0, (rd_T44 x0_2 x13_2).f1⟩ : S44)) := ⟨_, rfl⟩
             replace H : (api_Term_60_at52.l1 k2 y110 x10_1 ji22) = some r := by first | (rw [hy110]; with_reducible exact H) | (have H2_ := (Option.bind_some _ _).symm.trans H; rw [hy110]; with_reducible exact H2_) | (have H2_ := (Option.bind_some _ _).symm.trans H; with_reducible exact H2_) | with_reducible exact H | (rw [hy110]; exact H) | exact H
             have Ny110 := Aside0.mk hy110
             clear hy110
             as_aux_lemma =>
              have H' := Aside0.mk H
              clear H
              try go_wp2
              have n0_ := Aside0.mk (Kd.R_drew HO_0.out)
              have n1_ := Aside0.mk (Kept.drew HK.out)
              have n2_ := Aside0.mk (below_drew1 HB.out)
              clear HO_0
              clear HK
              clear HB
              have HO_0 := n0_
              have HK := n1_
              have HB := n2_
              clear n0_ n1_ n2_
              obtain ⟨Ao30, co30, eo30⟩ := Kd.R_slice HO_0.out
              (first | subst eo30 | (injection eo30 with f1_ f2_ f3_; have f4_ := f1_.symm; have f5_ := f3_.symm; clear f1_ f2_ f3_; subst f4_; subst f5_))
              have p107 : 0 ≤ ((ji22) : Int) := oD
              have q107 : (ji22) < (x0_2.length : Int) := oD
              obtain ⟨ad107, e107, hx107_0, hx107_1⟩ := at_T44 (Kd.R_reads' HO_0.out).2.2 (ji22) p107 q107
              cases e107
              replace p107 := eq_true p107
              replace q107 := eq_true q107
              have p108 : 0 ≤ (x13_2 : Int) := oD
              have q108 : x13_2 < (x0_2.length : Int) := oD
              obtain ⟨ad108, e108, hx108_0, hx108_1⟩ := at_T44 (Kd.R_reads' HO_0.out).2.2 x13_2 p108 q108
              obtain rfl : ad107 = ad108 := (by injection e108)
              replace p108 := eq_true p108
              replace q108 := eq_true q108
              have p27 : 0 ≤ (x13_2 : Int) := oD
              have q27 : (x13_2 : Int) < ((x0_2.length : Int) : Int) := oD
              obtain ⟨go27, co27, eo27, gb27, gl27, cl27, HG27⟩ := Kd.R_form HO_0.out (by omega)
              (first | cases eo27 | (injection eo27 with ea_ en_ ec_; (first | subst ea_ | (injection ea_ with ea_; subst ea_)); subst ec_; clear en_))
              have GB27 := Aside0.mk gb27
              have GG27 := Aside0.mk HG27
              clear gb27 gl27 HG27
              have HMgo27 := Aside0.mk (show (P0_ go27 ∨ w.heap.size ≤ go27) from (HO_0.out.1 _ rfl))
              (first | simp only [add_plain] at hx107_0 | skip)
              (first | simp only [add_plain] at hx107_1 | skip)
              (first | simp only [add_plain] at hx108_0 | skip)
              (first | simp only [add_plain] at hx108_1 | skip)
              obtain ⟨ce27, hcl27, hM27, hcc27, hfr27⟩ := Kd.R_elem HO_0.out z44 (x13_2 : Int) p27 q27
              obtain rfl := k44_openM hM27
              have hx27_0 : World.cell? _ ⟨go27, (x13_2 : Int).toNat * 2, none⟩ = some (.int .i64 ((rd_T44 x0_2 x13_2).f0)) := hcc27 0 _ rfl
              have hx27_1 : World.cell? _ ⟨go27, (x13_2 : Int).toNat * 2 + 1, none⟩ = some (.int .i64 ((rd_T44 x0_2 x13_2).f1)) := hcc27 1 _ rfl
              have hf27_0 : World.frozen? _ ⟨go27, (x13_2 : Int).toNat * 2, none⟩ = false := hfr27 0
              have hf27_1 : World.frozen? _ ⟨go27, (x13_2 : Int).toNat * 2 + 1, none⟩ = false := hfr27 1
              clear hcl27 hcc27 hfr27 hM27
              replace p27 := eq_true p27
              replace q27 := eq_true q27
              obtain ⟨ce31, hcl31, hM31, hcc31, hfr31⟩ := Kd.R_elem HO_0.out z44 (x13_2 : Int) (oD) (by have h_ : (x13_2 : Int) < ((x0_2.length : Int) : Int) := oD; first | exact h_ | (have e_ := (Kd.R_reads' HO_0.out).1; omega) | simpa using h_)
              obtain rfl := k44_openM hM31
              have HP31 := (Kd.R_seg HO_0.out (x13_2 : Int) (oD) (by have h_ : (x13_2 : Int) < ((x0_2.length : Int) : Int) := oD; first | exact h_ | (have e_ := (Kd.R_reads' HO_0.out).1; omega) | simpa using h_) (seg := [.int .i64 ((rd_T44 x0_2 (ji22)).f0), .int .i64 ((rd_T44 x0_2 (ji22)).f1)]) (j := 0) hcl31 hcc31 (show 2 ≤ 2 from by decide) (x' := (⟨(rd_T44 x0_2 (ji22)).f0, (rd_T44 x0_2 (ji22)).f1⟩ : S44)) (k44_mkM _ _ _ (⟨(rd_T44 x0_2 (ji22)).f0, (rd_T44 x0_2 (ji22)).f1⟩ : S44) ) (fun _ hk => hk)).1
              rw [← Ny109.out] at HP31
              have HQ31 := Aside0.mk HP31
              clear hcl31 hcc31 hfr31 hM31 HP31
              have p28 : 0 ≤ ((ji22) : Int) := oD
              have q28 : ((ji22) : Int) < ((x0_2.length : Int) : Int) := oD
              obtain ⟨ce28, hcl28, hM28, hcc28, hfr28⟩ := Kd.R_elem HQ31.out z44 ((ji22) : Int) p28 q28
              obtain rfl := k44_openM hM28
              have hx28_0 : World.cell? _ ⟨go27, ((ji22) : Int).toNat * 2, none⟩ = some (.int .i64 ((rd_T44 y109 (ji22)).f0)) := hcc28 0 _ rfl
              have hx28_1 : World.cell? _ ⟨go27, ((ji22) : Int).toNat * 2 + 1, none⟩ = some (.int .i64 ((rd_T44 y109 (ji22)).f1)) := hcc28 1 _ rfl
              have hf28_0 : World.frozen? _ ⟨go27, ((ji22) : Int).toNat * 2, none⟩ = false := hfr28 0
              have hf28_1 : World.frozen? _ ⟨go27, ((ji22) : Int).toNat * 2 + 1, none⟩ = false := hfr28 1
              clear hcl28 hcc28 hfr28 hM28
              replace p28 := eq_true p28
              replace q28 := eq_true q28
              obtain ⟨ce32, hcl32, hM32, hcc32, hfr32⟩ := Kd.R_elem HQ31.out z44 ((ji22) : Int) (oD) (by have h_ : ((ji22) : Int) < ((x0_2.length : Int) : Int) := oD; first | exact h_ | (have e_ := (Kd.R_reads' HO_0.out).1; omega) | simpa using h_)
              obtain rfl := k44_openM hM32
              have HP32 := (Kd.R_seg HQ31.out ((ji22) : Int) (oD) (by have h_ : ((ji22) : Int) < ((x0_2.length : Int) : Int) := oD; first | exact h_ | (have e_ := (Kd.R_reads' HO_0.out).1; omega) | simpa using h_) (seg := [.int .i64 ((rd_T44 x0_2 x13_2).f0), .int .i64 ((rd_T44 x0_2 x13_2).f1)]) (j := 0) hcl32 hcc32 (show 2 ≤ 2 from by decide) (x' := (⟨(rd_T44 x0_2 x13_2).f0, (rd_T44 x0_2 x13_2).f1⟩ : S44)) (k44_mkM _ _ _ (⟨(rd_T44 x0_2 x13_2).f0, (rd_T44 x0_2 x13_2).f1⟩ : S44) ) (fun _ hk => hk)).1
              rw [← Ny110.out] at HP32
              have HQ32 := Aside0.mk HP32
              clear hcl32 hcc32 hfr32 hM32 HP32
              refine start_ (n := 18) (S := fun w' => w'.cell? ⟨go27, ((ji22)).toNat * 2, none⟩ = some (.int .i64 ((rd_T44 x0_2 (ji22)).f0)) ∧ w'.cell? ⟨go27, (((ji22)).toNat * 2) + 1, none⟩ = some (.int .i64 ((rd_T44 x0_2 (ji22)).f1)) ∧ w'.cell? ⟨go27, ((x13_2).toNat * 2), none⟩ = some (.int .i64 ((rd_T44 x0_2 x13_2).f0)) ∧ w'.cell? ⟨go27, ((x13_2).toNat * 2) + 1, none⟩ = some (.int .i64 ((rd_T44 x0_2 x13_2).f1))) (ds := [15, 17]) api_Term_60_at52.b12 (by kernel_rfl) rfl rfl ⟨hx107_0, hx107_1, hx108_0, hx108_1⟩ (fun hHeld => ?_); refine with_tabW api_Term_60_at52.tab11 api_Term_60_at52.bits11 (fun HT_ HW_ => ?_)
              generalize wr.drew = w29 at HO_0 HK HB GG27 HQ31 HQ32 hf27_0 hf27_1 hf28_0 hf28_1 hx107_0 hx107_1 hx108_0 hx108_1 hx27_0 hx27_1 hx28_0 hx28_1 hHeld ⊢
              refine pY 0 (some 61) api_Term_60_at52.b13 rfl rfl HT_.out (fun _ _ _ h => h) ?_
              refine pY 1 (some 62) api_Term_60_at52.b14 rfl rfl HT_.out (fun _ _ _ h => h) ?_
              refine pY 2 (some 63) api_Term_60_at52.b15 rfl rfl HT_.out (fun _ _ _ h => h) ?_
              refine pY 3 (some 64) api_Term_60_at52.b16 rfl rfl HT_.out (fun _ _ _ h => h) ?_
              refine pY 4 (some 65) api_Term_60_at52.b17 rfl rfl HT_.out (fun _ _ _ h => h) ?_
              refine pY 5 (some 66) api_Term_60_at52.b18 rfl rfl HT_.out (fun _ _ _ h => h) ?_
              refine pY 6 (some 67) api_Term_60_at52.b19 rfl rfl HT_.out (fun _ _ _ h => h) ?_
              refine pY 7 (some 68) api_Term_60_at52.b20 rfl rfl HT_.out (fun _ _ _ h => h) ?_
              refine pY 8 (some 69) api_Term_60_at52.b21 rfl rfl HT_.out (fun _ _ _ h => h) ?_
              refine pY 10 (some 71) api_Term_60_at52.b22 rfl rfl HT_.out (fun _ _ _ h => h) ?_
              refine pY 11 (some 72) api_Term_60_at52.b23 rfl rfl HT_.out (fun _ _ _ h => h) ?_
              refine pY 12 (some 73) api_Term_60_at52.b24 rfl rfl HT_.out (fun _ _ _ h => h) ?_
              refine take_ (i := 9) (N := some 70) (v := ?_) (a' := ?_) api_Term_60_at52.b25 rfl rfl (take_ofW HT_.out HW_.out (by kernel_rfl)) (fun _ _ _ h => h) (Or.inl ⟨by rfl, ?_⟩) hHeld ?_ ?_
              rotate_left
              ·rintro w' ⟨s0, s1, s2, s3⟩
               go_simp
               with_reducible rfl
              rotate_left
              ·simp only [Act.put, List.setIfInBounds_toArray, List.set_cons_zero, List.set_cons_succ, i64_w, i32_w]
               rfl
              refine take_ (i := 13) (N := some 74) (v := ?_) (a' := ?_) api_Term_60_at52.b26 rfl rfl (take_ofW HT_.out HW_.out (by kernel_rfl)) (fun _ _ _ h => h) (Or.inl ⟨by rfl, ?_⟩) hHeld ?_ ?_
              rotate_left
              ·rintro w' ⟨s0, s1, s2, s3⟩
               go_simp
               with_reducible rfl
              rotate_left
              ·simp only [Act.put, List.setIfInBounds_toArray, List.set_cons_zero, List.set_cons_succ, i64_w, i32_w]
               rfl
              refine pY 14 (some 75) api_Term_60_at52.b27 rfl rfl HT_.out (fun _ _ _ h => h) ?_
              refine last_ (i := 15) (N := none) api_Term_60_at52.b28 rfl rfl (one_of HT_.out (by kernel_rfl)) (by decide) (fun K hK => ?_)
              refine skip_ (w1 := ?_) (by rfl) rfl ?_ ?_
              rotate_left
              ·(try (obtain ⟨va_, hva_⟩ := cell?_setCell_some (w := w29) (p := ⟨go27, (x13_2 : Int).toNat * 2, none⟩) (x := .int .i64 ((rd_T44 x0_2 (ji22)).f0)) (q := ⟨go27, ((ji22) : Int).toNat * 2, none⟩) (by assumption)))
               (try (obtain ⟨vb_, hvb_⟩ := cell?_setCell_some (w := w29) (p := ⟨go27, (x13_2 : Int).toNat * 2, none⟩) (x := .int .i64 ((rd_T44 x0_2 (ji22)).f0)) (q := ⟨go27, ((ji22) : Int).toNat * 2 + 1, none⟩) (by assumption); obtain ⟨vc_, hvc_⟩ := cell?_setCell_some (w := w29.setCell ⟨go27, (x13_2 : Int).toNat * 2, none⟩ (.int .i64 ((rd_T44 x0_2 (ji22)).f0))) (p := ⟨go27, (x13_2 : Int).toNat * 2 + 1, none⟩) (x := .int .i64 ((rd_T44 x0_2 (ji22)).f1)) (q := ⟨go27, ((ji22) : Int).toNat * 2 + 1, none⟩) hvb_))
               (try (have hfa0_ : w29.frozen? ⟨go27, ((ji22) : Int).toNat * 2, none⟩ = false := by have h_ := hf28_0; rw [World.frozen?_setCells] at h_; exact h_))
               (try (have hfa1_ : w29.frozen? ⟨go27, ((ji22) : Int).toNat * 2 + 1, none⟩ = false := by have h_ := hf28_1; rw [World.frozen?_setCells] at h_; exact h_))
               go_simp
               rfl
              refine hK.out _ _ ?_
              clear hK K
              refine pY 16 (some 76) api_Term_60_at52.b29 rfl rfl HT_.out (fun _ _ _ h => h) ?_
              refine last_ (i := 17) (N := none) api_Term_60_at52.b30 rfl rfl (one_of HT_.out (by kernel_rfl)) (by decide) (fun K hK => ?_)
              refine skip_ (w1 := ?_) (by rfl) rfl ?_ ?_
              rotate_left
              ·(try (obtain ⟨va_, hva_⟩ := cell?_setCell_some (w := w29) (p := ⟨go27, (x13_2 : Int).toNat * 2, none⟩) (x := .int .i64 ((rd_T44 x0_2 (ji22)).f0)) (q := ⟨go27, ((ji22) : Int).toNat * 2, none⟩) (by assumption)))
               (try (obtain ⟨vb_, hvb_⟩ := cell?_setCell_some (w := w29) (p := ⟨go27, (x13_2 : Int).toNat * 2, none⟩) (x := .int .i64 ((rd_T44 x0_2 (ji22)).f0)) (q := ⟨go27, ((ji22) : Int).toNat * 2 + 1, none⟩) (by assumption); obtain ⟨vc_, hvc_⟩ := cell?_setCell_some (w := w29.setCell ⟨go27, (x13_2 : Int).toNat * 2, none⟩ (.int .i64 ((rd_T44 x0_2 (ji22)).f0))) (p := ⟨go27, (x13_2 : Int).toNat * 2 + 1, none⟩) (x := .int .i64 ((rd_T44 x0_2 (ji22)).f1)) (q := ⟨go27, ((ji22) : Int).toNat * 2 + 1, none⟩) hvb_))
               (try (have hfa0_ : w29.frozen? ⟨go27, ((ji22) : Int).toNat * 2, none⟩ = false := by have h_ := hf28_0; rw [World.frozen?_setCells] at h_; exact h_))
               (try (have hfa1_ : w29.frozen? ⟨go27, ((ji22) : Int).toNat * 2 + 1, none⟩ = false := by have h_ := hf28_1; rw [World.frozen?_setCells] at h_; exact h_))
               go_simp
               rfl
              refine hK.out _ _ ?_
              clear hK K
              refine done_ (done_of HT_.out (by kernel_rfl)) ?_
              try go_wp2
              go_roundg k2
              case measure => have := HK1.out; have := HK2.out; omega
              case rel => exact ⟨(y110), (ji22), (by first | rfl | (simp; done) | (simp only [← hji22] <;> (first | rfl | simp)) | (simp [*]; done)), H', ⟨by have := HK1.out; have := HK2.out; omega⟩, ⟨rK HQ32.out⟩, ⟨by repeat (first | (with_reducible first | exact HK.out | apply Kept.alloc | apply Kept.drewN | apply Kept.drew | refine Kept.setCell ?_ HMgo27.out _ | refine Kept.setCell ?_ HMgo27.out _ | refine Kept.setCell ?_ HMgo27.out _ | refine Kept.setCell ?_ HMgo27.out _) | exact HK.out)⟩, ⟨hB4 HB.out GB27.out GB27.out GB27.out GB27.out⟩⟩
            ·rw [if_neg c26] at H
             exact absurd H (by simp)
           ·rw [if_neg c25] at H
            exact absurd H (by simp)
          ·rw [if_neg c24] at H
           exact absurd H (by simp)
         ·rw [if_neg c23] at H
          exact absurd H (by simp)
        ·rw [if_neg c21] at H
         have c21b0 : decide (x13_2 < (wrap64 (x10_1 - 1))) = false := decide_eq_false c21
         clear c21
         as_aux_lemma =>
          obtain rfl := Option.some.inj H
          go_wp2
          first | go_end0 | ((try simp only [Exit.inBlock, Exit.then]); refine bodyPost_ret (results_none rfl _ _ _) rfl ?_)
          exact ⟨eW, by (with_reducible repeat (first | apply Kd.R_alloc | apply Kd.R_drewN | apply Kd.R_drew)); exact HO_0.out, hB0 HB.out, kP HK.out⟩
  ·rw [if_neg c6] at H
   have c6b0 : ((wrap64 (a2 - a1)) == 1) = false := beq_eq_false_iff_ne.mpr c6
   have c6b1 : ((wrap64 (a2 - a1)) != 1) = true := bne_iff_ne.mpr c6
   by_cases c33 : (wrap64 (a3 - a2)) = 1
   ·rw [if_pos c33] at H
    have c33b0 : ((wrap64 (a3 - a2)) == 1) = true := beq_iff_eq.mpr c33
    have c33b1 : ((wrap64 (a3 - a2)) != 1) = false := bne_eq_false_iff_eq.mpr c33
    clear c33
    have H' := Aside0.mk H
    clear H
    go_enter Try.func60, Try.ntmps60
    go_wp2
    go_loopg [14, 15] k (fun kq v14 v15 w' => ∃ (x14_1 : Int) (x15_1 : Int), v14 = .int .i64 x14_1 ∧ v15 = .int .i64 x15_1 ∧ Aside0 (api_Term_60_at52.l2 kq l0 a2 x14_1 x15_1 = some r) ∧ Aside0 (kq ≤ k) ∧ Aside0 (Kd.R k44 44 w' w0.heap.size (fun k_ => (P0_ k_ ∨ w.heap.size ≤ k_)) u9000_ l0) ∧ Aside0 (Kept w w' (fun k_ => P0_ k_)) ∧ Aside0 (Below w0.heap.size w0 w'))
    case atStart => exact ⟨(a1), (a2), rS, rS, H', ⟨Nat.le_refl _⟩, ⟨rK HO0.out⟩, ⟨kP HK.out⟩, ⟨hB0 HB.out⟩⟩
    case round =>
     clear H'
     try clear c6
     try clear c6b0
     try clear c6b1
     try clear c33b0
     try clear c33b1
     obtain ⟨x14_1, x15_1, rfl, rfl, HA, HK1, HO_0, HK, HB⟩ := hrel
     cases gk with
     | zero => exact absurd HA.out (by simp [api_Term_60_at52.l2])
     | succ k1 =>
      have H := HA.out
      clear HA
      simp only [api_Term_60_at52.l2] at H
      by_cases c34 : x14_1 < x15_1
      ·rw [if_pos c34] at H
       have c34b0 : decide (x14_1 < x15_1) = true := decide_eq_true c34
       clear c34
       by_cases c35 : 0 ≤ a2
       ·rw [if_pos c35] at H
        have c35b0 : decide (0 ≤ a2) = true := decide_eq_true c35
        clear c35
        by_cases c36 : a2 < (l0.length : Int)
        ·rw [if_pos c36] at H
         have c36b0 : decide (a2 < (l0.length : Int)) = true := decide_eq_true c36
         clear c36
         obtain ⟨ji37, hji37⟩ : ∃ j_ : Int, (wrap64 ((IntKind.u64.wrap (wrap64 (x14_1 + x15_1))) / 2)) = j_ := ⟨_, rfl⟩
         replace H : (if 0 ≤ (ji37) then (if (ji37) < (l0.length : Int) then ((fact_gather_1.f ((rd_T44 l0 a2).f0) ((rd_T44 l0 a2).f1) ((rd_T44 l0 (ji37)).f0) ((rd_T44 l0 (ji37)).f1)).bind fun t113 => (if t113 < 0 then (api_Term_60_at52.l2 k1 l0 a2 x14_1 ji37) else (api_Term_60_at52.l2 k1 l0 a2 (wrap64 ((ji37) + 1)) x15_1))) else (none)) else (none)) = some r := by first | (rw [hji37] at H; exact H) | (simp only [hji37] at H ⊢; exact H)
         have hji37w : (IntKind.i64.wrap ((IntKind.u64.wrap (wrap64 (x14_1 + x15_1))) / 2)) = ji37 := (i64_w _).trans hji37
         by_cases c38 : 0 ≤ (ji37)
         ·rw [if_pos c38] at H
          have c38b0 : decide (0 ≤ (ji37)) = true := decide_eq_true c38
          clear c38
          by_cases c39 : (ji37) < (l0.length : Int)
          ·rw [if_pos c39] at H
           have c39b0 : decide ((ji37) < (l0.length : Int)) = true := decide_eq_true c39
           clear c39
           replace H := Option.bind_eq_some_iff.mp H
           obtain ⟨t113, A400, H⟩ := H
           replace H : (if t113 < 0 then (api_Term_60_at52.l2 k1 l0 a2 x14_1 ji37) else (api_Term_60_at52.l2 k1 l0 a2 (wrap64 ((ji37) + 1)) x15_1)) = some r := H
           have A40 := Aside0.mk A400
           clear A400
           by_cases c41 : t113 < 0
           ·rw [if_pos c41] at H
            have c41b0 : decide (t113 < 0) = true := decide_eq_true c41
            clear c41
            as_aux_lemma =>
             have H' := Aside0.mk H
             clear H
             try go_wp2
             have n0_ := Aside0.mk (Kd.R_drew HO_0.out)
             have n1_ := Aside0.mk (Kept.drew HK.out)
             have n2_ := Aside0.mk (below_drew1 HB.out)
             clear HO_0
             clear HK
             clear HB
             have HO_0 := n0_
             have HK := n1_
             have HB := n2_
             clear n0_ n1_ n2_
             obtain ⟨Ao43, co43, eo43⟩ := Kd.R_slice HO_0.out
             (first | subst eo43 | (injection eo43 with f1_ f2_ f3_; have f4_ := f1_.symm; have f5_ := f3_.symm; clear f1_ f2_ f3_; subst f4_; subst f5_))
             have p111 : 0 ≤ (a2 : Int) := oD
             have q111 : a2 < (l0.length : Int) := oD
             obtain ⟨ad111, e111, hx111_0, hx111_1⟩ := at_T44 (Kd.R_reads' HO_0.out).2.2 a2 p111 q111
             cases e111
             replace p111 := eq_true p111
             replace q111 := eq_true q111
             have p112 : 0 ≤ ((ji37) : Int) := oD
             have q112 : (ji37) < (l0.length : Int) := oD
             obtain ⟨ad112, e112, hx112_0, hx112_1⟩ := at_T44 (Kd.R_reads' HO_0.out).2.2 (ji37) p112 q112
             obtain rfl : ad111 = ad112 := (by injection e112)
             replace p112 := eq_true p112
             replace q112 := eq_true q112
             refine start_ (n := 12) (S := fun w' => w'.cell? (ad111.add ((a2).toNat * 2)) = some (.int .i64 ((rd_T44 l0 a2).f0)) ∧ w'.cell? ⟨(ad111.add ((a2).toNat * 2)).block, (ad111.add ((a2).toNat * 2)).off + 1, none⟩ = some (.int .i64 ((rd_T44 l0 a2).f1)) ∧ w'.cell? (ad111.add (((ji37)).toNat * 2)) = some (.int .i64 ((rd_T44 l0 (ji37)).f0)) ∧ w'.cell? ⟨(ad111.add (((ji37)).toNat * 2)).block, (ad111.add (((ji37)).toNat * 2)).off + 1, none⟩ = some (.int .i64 ((rd_T44 l0 (ji37)).f1))) (ds := []) api_Term_60_at52.b31 (by kernel_rfl) rfl rfl ⟨hx111_0, hx111_1, hx112_0, hx112_1⟩ (fun hHeld => ?_); refine with_tabW api_Term_60_at52.tab17 api_Term_60_at52.bits17 (fun HT_ HW_ => ?_)
             generalize wr.drew = w42 at HO_0 HK HB hx111_0 hx111_1 hx112_0 hx112_1 hHeld ⊢
             refine pY 0 (some 92) api_Term_60_at52.b32 rfl rfl HT_.out (fun _ _ _ h => h) ?_
             refine pY 1 (some 93) api_Term_60_at52.b33 rfl rfl HT_.out (fun _ _ _ h => h) ?_
             refine pY 2 (some 94) api_Term_60_at52.b34 rfl rfl HT_.out (fun _ _ _ h => h) ?_
             refine pY 3 (some 95) api_Term_60_at52.b35 rfl rfl HT_.out (fun _ _ _ h => h) ?_
             refine pY 5 (some 97) api_Term_60_at52.b36 rfl rfl HT_.out (fun _ _ _ h => h) ?_
             refine pY 6 (some 98) api_Term_60_at52.b37 rfl rfl HT_.out (fun _ _ _ h => h) ?_
             refine pY 7 (some 99) api_Term_60_at52.b38 rfl rfl HT_.out (fun _ _ _ h => h) ?_
             refine take_ (i := 4) (N := some 96) (v := ?_) (a' := ?_) api_Term_60_at52.b39 rfl rfl (take_ofW HT_.out HW_.out (by kernel_rfl)) (fun _ _ _ h => h) (Or.inl ⟨by rfl, ?_⟩) hHeld ?_ ?_
             rotate_left
             ·rintro w' ⟨s0, s1, s2, s3⟩
              go_simp
              with_reducible rfl
             rotate_left
             ·simp only [Act.put, List.setIfInBounds_toArray, List.set_cons_zero, List.set_cons_succ, i64_w, i32_w]
              rfl
             refine take_ (i := 8) (N := some 100) (v := ?_) (a' := ?_) api_Term_60_at52.b40 rfl rfl (take_ofW HT_.out HW_.out (by kernel_rfl)) (fun _ _ _ h => h) (Or.inl ⟨by rfl, ?_⟩) hHeld ?_ ?_
             rotate_left
             ·rintro w' ⟨s0, s1, s2, s3⟩
              go_simp
              with_reducible rfl
             rotate_left
             ·simp only [Act.put, List.setIfInBounds_toArray, List.set_cons_zero, List.set_cons_succ, i64_w, i32_w]
              rfl
             refine one_ (i := 9) (N := some 101) api_Term_60_at52.b41 rfl rfl (one_of HT_.out (by kernel_rfl)) (by decide) (fun K hK => ?_)
             refine goesT_ Try.func52 (by kernel_rfl) rfl #[.agg #[.int .i64 ((rd_T44 l0 a2).f0), .int .i64 ((rd_T44 l0 a2).f1)], .agg #[.int .i64 ((rd_T44 l0 (ji37)).f0), .int .i64 ((rd_T44 l0 (ji37)).f1)]] (by rfl) rfl rfl (by (try simp only [List.map_toArray, List.map_cons, List.map_nil]); first | done | (simp only [hji37]; rfl) | rfl | (simp only [List.length_drop, List.length_take]; rfl)) ?_
             with_reducible refine (fact_gather_1.calls ((rd_T44 l0 a2).f0) ((rd_T44 l0 a2).f1) ((rd_T44 l0 (ji37)).f0) ((rd_T44 l0 (ji37)).f1) t113 _ A40.out).mono ?_
             rintro e w44 ⟨rfl, hb⟩
             have HS0_ := (hb.cell (World.block_lt_of_cell? _ _ (hHeld.1))).trans (hHeld.1)
             have HS1_ := (hb.cell (World.block_lt_of_cell? _ _ (hHeld.2.1))).trans (hHeld.2.1)
             have HS2_ := (hb.cell (World.block_lt_of_cell? _ _ (hHeld.2.2.1))).trans (hHeld.2.2.1)
             have HS3_ := (hb.cell (World.block_lt_of_cell? _ _ (hHeld.2.2.2))).trans (hHeld.2.2.2)
             refine ⟨_, rfl, ?_⟩
             have n0_ := Aside0.mk (Kd.R_below (rK HO_0.out) hb)
             have n1_ := Aside0.mk (Kept.below (S := (fun k_ => P0_ k_)) (kP HK.out) hb)
             have n2_ := Aside0.mk (below_step (hB0 HB.out) hb)
             clear HO_0
             clear HK
             clear HB
             have HO_0 := n0_
             have HK := n1_
             have HB := n2_
             clear n0_ n1_ n2_
             (try clear hb)
             (try clear hb2)
             (try clear hk)
             (try clear hi)
             refine hK.out _ _ ⟨HS0_, HS1_, HS2_, HS3_⟩ (fun hHeld => ?_)
             clear hK K
             refine norm_ (a' := ?_) ?_ ?_
             rotate_left
             ·show Act.put _ (some 101) _ = _
              simp only [Act.put, List.setIfInBounds_toArray, List.set_cons_zero, List.set_cons_succ, i64_w, i32_w]
              rfl
             refine pY 10 (some 102) api_Term_60_at52.b42 rfl rfl HT_.out (fun _ _ _ h => h) ?_
             refine pY 11 (some 103) api_Term_60_at52.b43 rfl rfl HT_.out (fun _ _ _ h => h) ?_
             refine done_ (done_of HT_.out (by kernel_rfl)) ?_
             try go_wp2
             go_roundg k1
             case measure => have := HK1.out; omega
             case rel => exact ⟨(x14_1), (ji37), rS, (by first | rfl | (simp; done) | (simp only [← hji37] <;> (first | rfl | simp)) | (simp [*]; done)), H', ⟨by have := HK1.out; omega⟩, ⟨rK HO_0.out⟩, ⟨kP HK.out⟩, ⟨hB0 HB.out⟩⟩
           ·rw [if_neg c41] at H
            have c41b0 : decide (t113 < 0) = false := decide_eq_false c41
            clear c41
            as_aux_lemma =>
             have H' := Aside0.mk H
             clear H
             try go_wp2
             have n0_ := Aside0.mk (Kd.R_drew HO_0.out)
             have n1_ := Aside0.mk (Kept.drew HK.out)
             have n2_ := Aside0.mk (below_drew1 HB.out)
             clear HO_0
             clear HK
             clear HB
             have HO_0 := n0_
             have HK := n1_
             have HB := n2_
             clear n0_ n1_ n2_
             obtain ⟨Ao46, co46, eo46⟩ := Kd.R_slice HO_0.out
             (first | subst eo46 | (injection eo46 with f1_ f2_ f3_; have f4_ := f1_.symm; have f5_ := f3_.symm; clear f1_ f2_ f3_; subst f4_; subst f5_))
             have p111 : 0 ≤ (a2 : Int) := oD
             have q111 : a2 < (l0.length : Int) := oD
             obtain ⟨ad111, e111, hx111_0, hx111_1⟩ := at_T44 (Kd.R_reads' HO_0.out).2.2 a2 p111 q111
             cases e111
             replace p111 := eq_true p111
             replace q111 := eq_true q111
             have p112 : 0 ≤ ((ji37) : Int) := oD
             have q112 : (ji37) < (l0.length : Int) := oD
             obtain ⟨ad112, e112, hx112_0, hx112_1⟩ := at_T44 (Kd.R_reads' HO_0.out).2.2 (ji37) p112 q112
             obtain rfl : ad111 = ad112 := (by injection e112)
             replace p112 := eq_true p112
             replace q112 := eq_true q112
             refine start_ (n := 12) (S := fun w' => w'.cell? (ad111.add ((a2).toNat * 2)) = some (.int .i64 ((rd_T44 l0 a2).f0)) ∧ w'.cell? ⟨(ad111.add ((a2).toNat * 2)).block, (ad111.add ((a2).toNat * 2)).off + 1, none⟩ = some (.int .i64 ((rd_T44 l0 a2).f1)) ∧ w'.cell? (ad111.add (((ji37)).toNat * 2)) = some (.int .i64 ((rd_T44 l0 (ji37)).f0)) ∧ w'.cell? ⟨(ad111.add (((ji37)).toNat * 2)).block, (ad111.add (((ji37)).toNat * 2)).off + 1, none⟩ = some (.int .i64 ((rd_T44 l0 (ji37)).f1))) (ds := []) api_Term_60_at52.b31 (by kernel_rfl) rfl rfl ⟨hx111_0, hx111_1, hx112_0, hx112_1⟩ (fun hHeld => ?_); refine with_tabW api_Term_60_at52.tab17 api_Term_60_at52.bits17 (fun HT_ HW_ => ?_)
             generalize wr.drew = w45 at HO_0 HK HB hx111_0 hx111_1 hx112_0 hx112_1 hHeld ⊢
             refine pY 0 (some 92) api_Term_60_at52.b32 rfl rfl HT_.out (fun _ _ _ h => h) ?_
             refine pY 1 (some 93) api_Term_60_at52.b33 rfl rfl HT_.out (fun _ _ _ h => h) ?_
             refine pY 2 (some 94) api_Term_60_at52.b34 rfl rfl HT_.out (fun _ _ _ h => h) ?_
             refine pY 3 (some 95) api_Term_60_at52.b35 rfl rfl HT_.out (fun _ _ _ h => h) ?_
             refine pY 5 (some 97) api_Term_60_at52.b36 rfl rfl HT_.out (fun _ _ _ h => h) ?_
             refine pY 6 (some 98) api_Term_60_at52.b37 rfl rfl HT_.out (fun _ _ _ h => h) ?_
             refine pY 7 (some 99) api_Term_60_at52.b38 rfl rfl HT_.out (fun _ _ _ h => h) ?_
             refine take_ (i := 4) (N := some 96) (v := ?_) (a' := ?_) api_Term_60_at52.b39 rfl rfl (take_ofW HT_.out HW_.out (by kernel_rfl)) (fun _ _ _ h => h) (Or.inl ⟨by rfl, ?_⟩) hHeld ?_ ?_
             rotate_left
             ·rintro w' ⟨s0, s1, s2, s3⟩
              go_simp
              with_reducible rfl
             rotate_left
             ·simp only [Act.put, List.setIfInBounds_toArray, List.set_cons_zero, List.set_cons_succ, i64_w, i32_w]
              rfl
             refine take_ (i := 8) (N := some 100) (v := ?_) (a' := ?_) api_Term_60_at52.b40 rfl rfl (take_ofW HT_.out HW_.out (by kernel_rfl)) (fun _ _ _ h => h) (Or.inl ⟨by rfl, ?_⟩) hHeld ?_ ?_
             rotate_left
             ·rintro w' ⟨s0, s1, s2, s3⟩
              go_simp
              with_reducible rfl
             rotate_left
             ·simp only [Act.put, List.setIfInBounds_toArray, List.set_cons_zero, List.set_cons_succ, i64_w, i32_w]
              rfl
             refine one_ (i := 9) (N := some 101) api_Term_60_at52.b41 rfl rfl (one_of HT_.out (by kernel_rfl)) (by decide) (fun K hK => ?_)
             refine goesT_ Try.func52 (by kernel_rfl) rfl #[.agg #[.int .i64 ((rd_T44 l0 a2).f0), .int .i64 ((rd_T44 l0 a2).f1)], .agg #[.int .i64 ((rd_T44 l0 (ji37)).f0), .int .i64 ((rd_T44 l0 (ji37)).f1)]] (by rfl) rfl rfl (by (try simp only [List.map_toArray, List.map_cons, List.map_nil]); first | done | (simp only [hji37]; rfl) | rfl | (simp only [List.length_drop, List.length_take]; rfl)) ?_
             with_reducible refine (fact_gather_1.calls ((rd_T44 l0 a2).f0) ((rd_T44 l0 a2).f1) ((rd_T44 l0 (ji37)).f0) ((rd_T44 l0 (ji37)).f1) t113 _ A40.out).mono ?_
             rintro e w47 ⟨rfl, hb⟩
             have HS0_ := (hb.cell (World.block_lt_of_cell? _ _ (hHeld.1))).trans (hHeld.1)
             have HS1_ := (hb.cell (World.block_lt_of_cell? _ _ (hHeld.2.1))).trans (hHeld.2.1)
             have HS2_ := (hb.cell (World.block_lt_of_cell? _ _ (hHeld.2.2.1))).trans (hHeld.2.2.1)
             have HS3_ := (hb.cell (World.block_lt_of_cell? _ _ (hHeld.2.2.2))).trans (hHeld.2.2.2)
             refine ⟨_, rfl, ?_⟩
             have n0_ := Aside0.mk (Kd.R_below (rK HO_0.out) hb)
             have n1_ := Aside0.mk (Kept.below (S := (fun k_ => P0_ k_)) (kP HK.out) hb)
             have n2_ := Aside0.mk (below_step (hB0 HB.out) hb)
             clear HO_0
             clear HK
             clear HB
             have HO_0 := n0_
             have HK := n1_
             have HB := n2_
             clear n0_ n1_ n2_
             (try clear hb)
             (try clear hb2)
             (try clear hk)
             (try clear hi)
             refine hK.out _ _ ⟨HS0_, HS1_, HS2_, HS3_⟩ (fun hHeld => ?_)
             clear hK K
             refine norm_ (a' := ?_) ?_ ?_
             rotate_left
             ·show Act.put _ (some 101) _ = _
              simp only [Act.put, List.setIfInBounds_toArray, List.set_cons_zero, List.set_cons_succ, i64_w, i32_w]
              rfl
             refine pY 10 (some 102) api_Term_60_at52.b42 rfl rfl HT_.out (fun _ _ _ h => h) ?_
             refine pY 11 (some 103) api_Term_60_at52.b43 rfl rfl HT_.out (fun _ _ _ h => h) ?_
             refine done_ (done_of HT_.out (by kernel_rfl)) ?_
             try go_wp2
             go_roundg k1
             case measure => have := HK1.out; omega
             case rel => exact ⟨(wrap64 ((ji37) + 1)), (x15_1), (by first | rfl | (simp; done) | (simp only [← hji37] <;> (first | rfl | simp)) | (simp [*]; done)), rS, H', ⟨by have := HK1.out; omega⟩, ⟨rK HO_0.out⟩, ⟨kP HK.out⟩, ⟨hB0 HB.out⟩⟩
          ·rw [if_neg c39] at H
           exact absurd H (by simp)
         ·rw [if_neg c38] at H
          exact absurd H (by simp)
        ·rw [if_neg c36] at H
         exact absurd H (by simp)
       ·rw [if_neg c35] at H
        exact absurd H (by simp)
      ·rw [if_neg c34] at H
       have c34b0 : decide (x14_1 < x15_1) = false := decide_eq_false c34
       clear c34
       have H' := Aside0.mk H
       clear H
       go_wp2
       go_loopg [17] k1 (fun kq v17 w' => ∃ (x0_2 : List (S44)) (x17_2 : Int), v17 = .int .i64 x17_2 ∧ Aside0 (api_Term_60_at52.l3 kq x0_2 x14_1 x17_2 = some r) ∧ Aside0 (kq ≤ k1) ∧ Aside0 (Kd.R k44 44 w' w0.heap.size (fun k_ => (P0_ k_ ∨ w.heap.size ≤ k_)) u9000_ x0_2) ∧ Aside0 (Kept w w' (fun k_ => P0_ k_)) ∧ Aside0 (Below w0.heap.size w0 w'))
       case atStart => exact ⟨(l0), (a2), rS, H', ⟨Nat.le_refl _⟩, ⟨rK HO_0.out⟩, ⟨kP HK.out⟩, ⟨hB0 HB.out⟩⟩
       case round =>
        clear H'
        try clear c34b0
        obtain ⟨x0_2, x17_2, rfl, HA, HK2, HO_0, HK, HB⟩ := hrel
        cases gk with
        | zero => exact absurd HA.out (by simp [api_Term_60_at52.l3])
        | succ k2 =>
         have H := HA.out
         clear HA
         simp only [api_Term_60_at52.l3] at H
         by_cases c48 : x17_2 > x14_1
         ·rw [if_pos c48] at H
          have c48b0 : decide (x14_1 < x17_2) = true := decide_eq_true c48
          clear c48
          obtain ⟨ji49, hji49⟩ : ∃ j_ : Int, (wrap64 (x17_2 - 1)) = j_ := ⟨_, rfl⟩
          replace H : (if 0 ≤ (ji49) then (if (ji49) < (x0_2.length : Int) then (if 0 ≤ x17_2 then (if x17_2 < (x0_2.length : Int) then (api_Term_60_at52.l3 k2 ((x0_2.set (x17_2 : Int).toNat (⟨(rd_T44 x0_2 (ji49)).f0, (rd_T44 x0_2 (ji49)).f1⟩ : S44)).set ((ji49) : Int).toNat (⟨(rd_T44 x0_2 x17_2).f0, (rd_T44 x0_2 x17_2).f1⟩ : S44)) x14_1 ji49) else (none)) else (none)) else (none)) else (none)) = some r := by first | (rw [hji49] at H; exact H) | (simp only [hji49] at H ⊢; exact H)
          have hji49w : (IntKind.i64.wrap (x17_2 - 1)) = ji49 := (i64_w _).trans hji49
          by_cases c50 : 0 ≤ (ji49)
          ·rw [if_pos c50] at H
           have c50b0 : decide (0 ≤ (ji49)) = true := decide_eq_true c50
           clear c50
           by_cases c51 : (ji49) < (x0_2.length : Int)
           ·rw [if_pos c51] at H
            have c51b0 : decide ((ji49) < (x0_2.length : Int)) = true := decide_eq_true c51
            clear c51
            by_cases c52 : 0 ≤ x17_2
            ·rw [if_pos c52] at H
             have c52b0 : decide (0 ≤ x17_2) = true := decide_eq_true c52
             clear c52
             by_cases c53 : x17_2 < (x0_2.length : Int)
             ·rw [if_pos c53] at H
              have c53b0 : decide (x17_2 < (x0_2.length : Int)) = true := decide_eq_true c53
              clear c53
              obtain ⟨y116, hy116⟩ : ∃ y_ : List (S44), y_ = (x0_2.set (x17_2 : Int).toNat (⟨(rd_T44 x0_2 (ji49)).f0, (rd_T44 x0_2 (ji49)).f1⟩ : S44)) := ⟨_, rfl⟩
              replace H : (api_Term_60_at52.l3 k2 (y116.set ((ji49) : Int).toNat (⟨(rd_T44 x0_2 x17_2).f0, (rd_T44 x0_2 x17_2).f1⟩ : S44)) x14_1 ji49) = some r := by first | (rw [hy116]; with_reducible exact H) | (have H2_ := (Option.bind_some _ _).symm.trans H; rw [hy116]; with_reducible exact H2_) | (have H2_ := (Option.bind_some _ _).symm.trans H; with_reducible exact H2_) | with_reducible exact H | (rw [hy116]; exact H) | exact H
              have Ny116 := Aside0.mk hy116
              clear hy116
              obtain ⟨y117, hy117⟩ : ∃ y_ : List (S44), y_ = (y116.set ((ji49) : Int).toNat (⟨(rd_T44 x0_2 x17_2).f0, (rd_T44 x0_2 x17_2).f1⟩ : S44)) := ⟨_, rfl⟩
              replace H : (api_Term_60_at52.l3 k2 y117 x14_1 ji49) = some r := by first | (rw [hy117]; with_reducible exact H) | (have H2_ := (Option.bind_some _ _).symm.trans H; rw [hy117]; with_reducible exact H2_) | (have H2_ := (Option.bind_some _ _).symm.trans H; with_reducible exact H2_) | with_reducible exact H | (rw [hy117]; exact H) | exact H
              have Ny117 := Aside0.mk hy117
              clear hy117
              as_aux_lemma =>
               have H' := Aside0.mk H
               clear H
               try go_wp2
               have n0_ := Aside0.mk (Kd.R_drew HO_0.out)
               have n1_ := Aside0.mk (Kept.drew HK.out)
               have n2_ := Aside0.mk (below_drew1 HB.out)
               clear HO_0
               clear HK
               clear HB
               have HO_0 := n0_
               have HK := n1_
               have HB := n2_
               clear n0_ n1_ n2_
               obtain ⟨Ao57, co57, eo57⟩ := Kd.R_slice HO_0.out
               (first | subst eo57 | (injection eo57 with f1_ f2_ f3_; have f4_ := f1_.symm; have f5_ := f3_.symm; clear f1_ f2_ f3_; subst f4_; subst f5_))
               have p114 : 0 ≤ ((ji49) : Int) := oD
               have q114 : (ji49) < (x0_2.length : Int) := oD
               obtain ⟨ad114, e114, hx114_0, hx114_1⟩ := at_T44 (Kd.R_reads' HO_0.out).2.2 (ji49) p114 q114
               cases e114
               replace p114 := eq_true p114
               replace q114 := eq_true q114
               have p115 : 0 ≤ (x17_2 : Int) := oD
               have q115 : x17_2 < (x0_2.length : Int) := oD
               obtain ⟨ad115, e115, hx115_0, hx115_1⟩ := at_T44 (Kd.R_reads' HO_0.out).2.2 x17_2 p115 q115
               obtain rfl : ad114 = ad115 := (by injection e115)
               replace p115 := eq_true p115
               replace q115 := eq_true q115
               have p54 : 0 ≤ (x17_2 : Int) := oD
               have q54 : (x17_2 : Int) < ((x0_2.length : Int) : Int) := oD
               obtain ⟨go54, co54, eo54, gb54, gl54, cl54, HG54⟩ := Kd.R_form HO_0.out (by omega)
               (first | cases eo54 | (injection eo54 with ea_ en_ ec_; (first | subst ea_ | (injection ea_ with ea_; subst ea_)); subst ec_; clear en_))
               have GB54 := Aside0.mk gb54
               have GG54 := Aside0.mk HG54
               clear gb54 gl54 HG54
               have HMgo54 := Aside0.mk (show (P0_ go54 ∨ w.heap.size ≤ go54) from (HO_0.out.1 _ rfl))
               (first | simp only [add_plain] at hx114_0 | skip)
               (first | simp only [add_plain] at hx114_1 | skip)
               (first | simp only [add_plain] at hx115_0 | skip)
               (first | simp only [add_plain] at hx115_1 | skip)
               obtain ⟨ce54, hcl54, hM54, hcc54, hfr54⟩ := Kd.R_elem HO_0.out z44 (x17_2 : Int) p54 q54
               obtain rfl := k44_openM hM54
               have hx54_0 : World.cell? _ ⟨go54, (x17_2 : Int).toNat * 2, none⟩ = some (.int .i64 ((rd_T44 x0_2 x17_2).f0)) := hcc54 0 _ rfl
               have hx54_1 : World.cell? _ ⟨go54, (x17_2 : Int).toNat * 2 + 1, none⟩ = some (.int .i64 ((rd_T44 x0_2 x17_2).f1)) := hcc54 1 _ rfl
               have hf54_0 : World.frozen? _ ⟨go54, (x17_2 : Int).toNat * 2, none⟩ = false := hfr54 0
               have hf54_1 : World.frozen? _ ⟨go54, (x17_2 : Int).toNat * 2 + 1, none⟩ = false := hfr54 1
               clear hcl54 hcc54 hfr54 hM54
               replace p54 := eq_true p54
               replace q54 := eq_true q54
               obtain ⟨ce58, hcl58, hM58, hcc58, hfr58⟩ := Kd.R_elem HO_0.out z44 (x17_2 : Int) (oD) (by have h_ : (x17_2 : Int) < ((x0_2.length : Int) : Int) := oD; first | exact h_ | (have e_ := (Kd.R_reads' HO_0.out).1; omega) | simpa using h_)
               obtain rfl := k44_openM hM58
               have HP58 := (Kd.R_seg HO_0.out (x17_2 : Int) (oD) (by have h_ : (x17_2 : Int) < ((x0_2.length : Int) : Int) := oD; first | exact h_ | (have e_ := (Kd.R_reads' HO_0.out).1; omega) | simpa using h_) (seg := [.int .i64 ((rd_T44 x0_2 (ji49)).f0), .int .i64 ((rd_T44 x0_2 (ji49)).f1)]) (j := 0) hcl58 hcc58 (show 2 ≤ 2 from by decide) (x' := (⟨(rd_T44 x0_2 (ji49)).f0, (rd_T44 x0_2 (ji49)).f1⟩ : S44)) (k44_mkM _ _ _ (⟨(rd_T44 x0_2 (ji49)).f0, (rd_T44 x0_2 (ji49)).f1⟩ : S44) ) (fun _ hk => hk)).1
               rw [← Ny116.out] at HP58
               have HQ58 := Aside0.mk HP58
               clear hcl58 hcc58 hfr58 hM58 HP58
               have p55 : 0 ≤ ((ji49) : Int) := oD
               have q55 : ((ji49) : Int) < ((x0_2.length : Int) : Int) := oD
               obtain ⟨ce55, hcl55, hM55, hcc55, hfr55⟩ := Kd.R_elem HQ58.out z44 ((ji49) : Int) p55 q55
               obtain rfl := k44_openM hM55
               have hx55_0 : World.cell? _ ⟨go54, ((ji49) : Int).toNat * 2, none⟩ = some (.int .i64 ((rd_T44 y116 (ji49)).f0)) := hcc55 0 _ rfl
               have hx55_1 : World.cell? _ ⟨go54, ((ji49) : Int).toNat * 2 + 1, none⟩ = some (.int .i64 ((rd_T44 y116 (ji49)).f1)) := hcc55 1 _ rfl
               have hf55_0 : World.frozen? _ ⟨go54, ((ji49) : Int).toNat * 2, none⟩ = false := hfr55 0
               have hf55_1 : World.frozen? _ ⟨go54, ((ji49) : Int).toNat * 2 + 1, none⟩ = false := hfr55 1
               clear hcl55 hcc55 hfr55 hM55
               replace p55 := eq_true p55
               replace q55 := eq_true q55
               obtain ⟨ce59, hcl59, hM59, hcc59, hfr59⟩ := Kd.R_elem HQ58.out z44 ((ji49) : Int) (oD) (by have h_ : ((ji49) : Int) < ((x0_2.length : Int) : Int) := oD; first | exact h_ | (have e_ := (Kd.R_reads' HO_0.out).1; omega) | simpa using h_)
               obtain rfl := k44_openM hM59
               have HP59 := (Kd.R_seg HQ58.out ((ji49) : Int) (oD) (by have h_ : ((ji49) : Int) < ((x0_2.length : Int) : Int) := oD; first | exact h_ | (have e_ := (Kd.R_reads' HO_0.out).1; omega) | simpa using h_) (seg := [.int .i64 ((rd_T44 x0_2 x17_2).f0), .int .i64 ((rd_T44 x0_2 x17_2).f1)]) (j := 0) hcl59 hcc59 (show 2 ≤ 2 from by decide) (x' := (⟨(rd_T44 x0_2 x17_2).f0, (rd_T44 x0_2 x17_2).f1⟩ : S44)) (k44_mkM _ _ _ (⟨(rd_T44 x0_2 x17_2).f0, (rd_T44 x0_2 x17_2).f1⟩ : S44) ) (fun _ hk => hk)).1
               rw [← Ny117.out] at HP59
               have HQ59 := Aside0.mk HP59
               clear hcl59 hcc59 hfr59 hM59 HP59
               refine start_ (n := 18) (S := fun w' => w'.cell? ⟨go54, ((ji49)).toNat * 2, none⟩ = some (.int .i64 ((rd_T44 x0_2 (ji49)).f0)) ∧ w'.cell? ⟨go54, (((ji49)).toNat * 2) + 1, none⟩ = some (.int .i64 ((rd_T44 x0_2 (ji49)).f1)) ∧ w'.cell? ⟨go54, ((x17_2).toNat * 2), none⟩ = some (.int .i64 ((rd_T44 x0_2 x17_2).f0)) ∧ w'.cell? ⟨go54, ((x17_2).toNat * 2) + 1, none⟩ = some (.int .i64 ((rd_T44 x0_2 x17_2).f1))) (ds := [15, 17]) api_Term_60_at52.b12 (by kernel_rfl) rfl rfl ⟨hx114_0, hx114_1, hx115_0, hx115_1⟩ (fun hHeld => ?_); refine with_tabW api_Term_60_at52.tab23 api_Term_60_at52.bits23 (fun HT_ HW_ => ?_)
               generalize wr.drew = w56 at HO_0 HK HB GG54 HQ58 HQ59 hf54_0 hf54_1 hf55_0 hf55_1 hx114_0 hx114_1 hx115_0 hx115_1 hx54_0 hx54_1 hx55_0 hx55_1 hHeld ⊢
               refine pY 0 (some 113) api_Term_60_at52.b13 rfl rfl HT_.out (fun _ _ _ h => h) ?_
               refine pY 1 (some 114) api_Term_60_at52.b14 rfl rfl HT_.out (fun _ _ _ h => h) ?_
               refine pY 2 (some 115) api_Term_60_at52.b15 rfl rfl HT_.out (fun _ _ _ h => h) ?_
               refine pY 3 (some 116) api_Term_60_at52.b16 rfl rfl HT_.out (fun _ _ _ h => h) ?_
               refine pY 4 (some 117) api_Term_60_at52.b17 rfl rfl HT_.out (fun _ _ _ h => h) ?_
               refine pY 5 (some 118) api_Term_60_at52.b18 rfl rfl HT_.out (fun _ _ _ h => h) ?_
               refine pY 6 (some 119) api_Term_60_at52.b19 rfl rfl HT_.out (fun _ _ _ h => h) ?_
               refine pY 7 (some 120) api_Term_60_at52.b20 rfl rfl HT_.out (fun _ _ _ h => h) ?_
               refine pY 8 (some 121) api_Term_60_at52.b21 rfl rfl HT_.out (fun _ _ _ h => h) ?_
               refine pY 10 (some 123) api_Term_60_at52.b22 rfl rfl HT_.out (fun _ _ _ h => h) ?_
               refine pY 11 (some 124) api_Term_60_at52.b23 rfl rfl HT_.out (fun _ _ _ h => h) ?_
               refine pY 12 (some 125) api_Term_60_at52.b24 rfl rfl HT_.out (fun _ _ _ h => h) ?_
               refine take_ (i := 9) (N := some 122) (v := ?_) (a' := ?_) api_Term_60_at52.b25 rfl rfl (take_ofW HT_.out HW_.out (by kernel_rfl)) (fun _ _ _ h => h) (Or.inl ⟨by rfl, ?_⟩) hHeld ?_ ?_
               rotate_left
               ·rintro w' ⟨s0, s1, s2, s3⟩
                go_simp
                with_reducible rfl
               rotate_left
               ·simp only [Act.put, List.setIfInBounds_toArray, List.set_cons_zero, List.set_cons_succ, i64_w, i32_w]
                rfl
               refine take_ (i := 13) (N := some 126) (v := ?_) (a' := ?_) api_Term_60_at52.b26 rfl rfl (take_ofW HT_.out HW_.out (by kernel_rfl)) (fun _ _ _ h => h) (Or.inl ⟨by rfl, ?_⟩) hHeld ?_ ?_
               rotate_left
               ·rintro w' ⟨s0, s1, s2, s3⟩
                go_simp
                with_reducible rfl
               rotate_left
               ·simp only [Act.put, List.setIfInBounds_toArray, List.set_cons_zero, List.set_cons_succ, i64_w, i32_w]
                rfl
               refine pY 14 (some 127) api_Term_60_at52.b27 rfl rfl HT_.out (fun _ _ _ h => h) ?_
               refine last_ (i := 15) (N := none) api_Term_60_at52.b28 rfl rfl (one_of HT_.out (by kernel_rfl)) (by decide) (fun K hK => ?_)
               refine skip_ (w1 := ?_) (by rfl) rfl ?_ ?_
               rotate_left
               ·(try (obtain ⟨va_, hva_⟩ := cell?_setCell_some (w := w56) (p := ⟨go54, (x17_2 : Int).toNat * 2, none⟩) (x := .int .i64 ((rd_T44 x0_2 (ji49)).f0)) (q := ⟨go54, ((ji49) : Int).toNat * 2, none⟩) (by assumption)))
                (try (obtain ⟨vb_, hvb_⟩ := cell?_setCell_some (w := w56) (p := ⟨go54, (x17_2 : Int).toNat * 2, none⟩) (x := .int .i64 ((rd_T44 x0_2 (ji49)).f0)) (q := ⟨go54, ((ji49) : Int).toNat * 2 + 1, none⟩) (by assumption); obtain ⟨vc_, hvc_⟩ := cell?_setCell_some (w := w56.setCell ⟨go54, (x17_2 : Int).toNat * 2, none⟩ (.int .i64 ((rd_T44 x0_2 (ji49)).f0))) (p := ⟨go54, (x17_2 : Int).toNat * 2 + 1, none⟩) (x := .int .i64 ((rd_T44 x0_2 (ji49)).f1)) (q := ⟨go54, ((ji49) : Int).toNat * 2 + 1, none⟩) hvb_))
                (try (have hfa0_ : w56.frozen? ⟨go54, ((ji49) : Int).toNat * 2, none⟩ = false := by have h_ := hf55_0; rw [World.frozen?_setCells] at h_; exact h_))
                (try (have hfa1_ : w56.frozen? ⟨go54, ((ji49) : Int).toNat * 2 + 1, none⟩ = false := by have h_ := hf55_1; rw [World.frozen?_setCells] at h_; exact h_))
                go_simp
                rfl
               refine hK.out _ _ ?_
               clear hK K
               refine pY 16 (some 128) api_Term_60_at52.b29 rfl rfl HT_.out (fun _ _ _ h => h) ?_
               refine last_ (i := 17) (N := none) api_Term_60_at52.b30 rfl rfl (one_of HT_.out (by kernel_rfl)) (by decide) (fun K hK => ?_)
               refine skip_ (w1 := ?_) (by rfl) rfl ?_ ?_
               rotate_left
               ·(try (obtain ⟨va_, hva_⟩ := cell?_setCell_some (w := w56) (p := ⟨go54, (x17_2 : Int).toNat * 2, none⟩) (x := .int .i64 ((rd_T44 x0_2 (ji49)).f0)) (q := ⟨go54, ((ji49) : Int).toNat * 2, none⟩) (by assumption)))
                (try (obtain ⟨vb_, hvb_⟩ := cell?_setCell_some (w := w56) (p := ⟨go54, (x17_2 : Int).toNat * 2, none⟩) (x := .int .i64 ((rd_T44 x0_2 (ji49)).f0)) (q := ⟨go54, ((ji49) : Int).toNat * 2 + 1, none⟩) (by assumption); obtain ⟨vc_, hvc_⟩ := cell?_setCell_some (w := w56.setCell ⟨go54, (x17_2 : Int).toNat * 2, none⟩ (.int .i64 ((rd_T44 x0_2 (ji49)).f0))) (p := ⟨go54, (x17_2 : Int).toNat * 2 + 1, none⟩) (x := .int .i64 ((rd_T44 x0_2 (ji49)).f1)) (q := ⟨go54, ((ji49) : Int).toNat * 2 + 1, none⟩) hvb_))
                (try (have hfa0_ : w56.frozen? ⟨go54, ((ji49) : Int).toNat * 2, none⟩ = false := by have h_ := hf55_0; rw [World.frozen?_setCells] at h_; exact h_))
                (try (have hfa1_ : w56.frozen? ⟨go54, ((ji49) : Int).toNat * 2 + 1, none⟩ = false := by have h_ := hf55_1; rw [World.frozen?_setCells] at h_; exact h_))
                go_simp
                rfl
               refine hK.out _ _ ?_
               clear hK K
               refine done_ (done_of HT_.out (by kernel_rfl)) ?_
               try go_wp2
               go_roundg k2
               case measure => have := HK1.out; have := HK2.out; omega
               case rel => exact ⟨(y117), (ji49), (by first | rfl | (simp; done) | (simp only [← hji49] <;> (first | rfl | simp)) | (simp [*]; done)), H', ⟨by have := HK1.out; have := HK2.out; omega⟩, ⟨rK HQ59.out⟩, ⟨by repeat (first | (with_reducible first | exact HK.out | apply Kept.alloc | apply Kept.drewN | apply Kept.drew | refine Kept.setCell ?_ HMgo54.out _ | refine Kept.setCell ?_ HMgo54.out _ | refine Kept.setCell ?_ HMgo54.out _ | refine Kept.setCell ?_ HMgo54.out _) | exact HK.out)⟩, ⟨hB4 HB.out GB54.out GB54.out GB54.out GB54.out⟩⟩
             ·rw [if_neg c53] at H
              exact absurd H (by simp)
            ·rw [if_neg c52] at H
             exact absurd H (by simp)
           ·rw [if_neg c51] at H
            exact absurd H (by simp)
          ·rw [if_neg c50] at H
           exact absurd H (by simp)
         ·rw [if_neg c48] at H
          have c48b0 : decide (x14_1 < x17_2) = false := decide_eq_false c48
          clear c48
          as_aux_lemma =>
           obtain rfl := Option.some.inj H
           go_wp2
           first | go_end0 | ((try simp only [Exit.inBlock, Exit.then]); refine bodyPost_ret (results_none rfl _ _ _) rfl ?_)
           exact ⟨eW, by (with_reducible repeat (first | apply Kd.R_alloc | apply Kd.R_drewN | apply Kd.R_drew)); exact HO_0.out, hB0 HB.out, kP HK.out⟩
   ·rw [if_neg c33] at H
    have c33b0 : ((wrap64 (a3 - a2)) == 1) = false := beq_eq_false_iff_ne.mpr c33
    have c33b1 : ((wrap64 (a3 - a2)) != 1) = true := bne_iff_ne.mpr c33
    have HC60 := Aside0.mk H
    clear H
    go_enter Try.func60, Try.ntmps60
    go_upto_if 140 with (fail)
    go_cut [20, 21] (fun v20 v21 wc => ∃ (kq : Nat) (x20_59 : Int) (x21_59 : Int), v20 = .int .i64 x20_59 ∧ v21 = .int .i64 x21_59 ∧ Aside0 (api_Term_60_at52.j4 kq l0 a1 a2 a3 (wrap64 ((IntKind.u64.wrap (wrap64 (a1 + a3))) / 2)) (wrap64 ((wrap64 ((IntKind.u64.wrap (wrap64 (a1 + a3))) / 2)) + a2)) x20_59 x21_59 = some r) ∧ Aside0 (kq ≤ k) ∧ Aside0 (Kd.R k44 44 wc w0.heap.size (fun k_ => (P0_ k_ ∨ w.heap.size ≤ k_)) u9000_ l0) ∧ Aside0 (Kept w wc (fun k_ => P0_ k_)) ∧ Aside0 (Below w0.heap.size w0 wc))
    case first =>
     have H := HC60.out
     clear HC60
     by_cases c61 : a2 > (wrap64 ((IntKind.u64.wrap (wrap64 (a1 + a3))) / 2))
     ·rw [if_pos c61] at H
      have c61b0 : decide ((wrap64 ((IntKind.u64.wrap (wrap64 (a1 + a3))) / 2)) < a2) = true := decide_eq_true c61
      clear c61
      (first | rw [c61b0] | (simp only [i64_w, i32_w]; rw [c61b0]) | skip)
      as_aux_lemma =>
       have H' := Aside0.mk H
       clear H
       go_wp2
       go_meet
       case rel => exact ⟨_, (wrap64 ((wrap64 ((wrap64 ((IntKind.u64.wrap (wrap64 (a1 + a3))) / 2)) + a2)) - a3)), (wrap64 ((IntKind.u64.wrap (wrap64 (a1 + a3))) / 2)), rS, rS, H', ⟨by first | omega | exact Nat.le_refl _⟩, ⟨rK HO0.out⟩, ⟨kP HK.out⟩, ⟨hB0 HB.out⟩⟩
     ·rw [if_neg c61] at H
      have c61b0 : decide ((wrap64 ((IntKind.u64.wrap (wrap64 (a1 + a3))) / 2)) < a2) = false := decide_eq_false c61
      clear c61
      (first | rw [c61b0] | (simp only [i64_w, i32_w]; rw [c61b0]) | skip)
      as_aux_lemma =>
       have H' := Aside0.mk H
       clear H
       go_wp2
       go_meet
       case rel => exact ⟨_, (a1), (a2), rS, rS, H', ⟨by first | omega | exact Nat.le_refl _⟩, ⟨rK HO0.out⟩, ⟨kP HK.out⟩, ⟨hB0 HB.out⟩⟩
    case rest =>
     clear HC60
     try clear c6
     try clear c6b0
     try clear c6b1
     try clear c33
     try clear c33b0
     try clear c33b1
     obtain ⟨kq, x20_59, x21_59, rfl, rfl, HA, HJ59, HO_0, HK, HB⟩ := hcut
     cases kq with
     | zero => exact absurd HA.out (by simp [api_Term_60_at52.j4])
     | succ kj59 =>
      have H := HA.out
      clear HA
      simp only [api_Term_60_at52.j4] at H
      have H' := Aside0.mk H
      clear H
      go_wp2
      go_loopg [20, 21] kj59 (fun kq v20 v21 w' => ∃ (x20_2 : Int) (x21_2 : Int), v20 = .int .i64 x20_2 ∧ v21 = .int .i64 x21_2 ∧ Aside0 (api_Term_60_at52.l4 kq l0 a1 a2 a3 (wrap64 ((IntKind.u64.wrap (wrap64 (a1 + a3))) / 2)) (wrap64 ((wrap64 ((IntKind.u64.wrap (wrap64 (a1 + a3))) / 2)) + a2)) x20_2 x21_2 (wrap64 ((wrap64 ((wrap64 ((IntKind.u64.wrap (wrap64 (a1 + a3))) / 2)) + a2)) - 1)) = some r) ∧ Aside0 (kq ≤ kj59) ∧ Aside0 (Kd.R k44 44 w' w0.heap.size (fun k_ => (P0_ k_ ∨ w.heap.size ≤ k_)) u9000_ l0) ∧ Aside0 (Kept w w' (fun k_ => P0_ k_)) ∧ Aside0 (Below w0.heap.size w0 w'))
      case atStart => exact ⟨(x20_59), (x21_59), rS, rS, H', ⟨Nat.le_refl _⟩, ⟨rK HO_0.out⟩, ⟨kP HK.out⟩, ⟨hB0 HB.out⟩⟩
      case round =>
       clear H'
       obtain ⟨x20_2, x21_2, rfl, rfl, HA, HK2, HO_0, HK, HB⟩ := hrel
       cases gk with
       | zero => exact absurd HA.out (by simp [api_Term_60_at52.l4])
       | succ k2 =>
        have H := HA.out
        clear HA
        simp only [api_Term_60_at52.l4] at H
        by_cases c62 : x20_2 < x21_2
        ·rw [if_pos c62] at H
         have c62b0 : decide (x20_2 < x21_2) = true := decide_eq_true c62
         clear c62
         obtain ⟨ji63, hji63⟩ : ∃ j_ : Int, (wrap64 ((wrap64 ((wrap64 ((wrap64 ((IntKind.u64.wrap (wrap64 (a1 + a3))) / 2)) + a2)) - 1)) - (wrap64 ((IntKind.u64.wrap (wrap64 (x20_2 + x21_2))) / 2)))) = j_ := ⟨_, rfl⟩
         replace H : (if 0 ≤ (ji63) then (if (ji63) < (l0.length : Int) then (if 0 ≤ (wrap64 ((IntKind.u64.wrap (wrap64 (x20_2 + x21_2))) / 2)) then (if (wrap64 ((IntKind.u64.wrap (wrap64 (x20_2 + x21_2))) / 2)) < (l0.length : Int) then ((fact_gather_1.f ((rd_T44 l0 (ji63)).f0) ((rd_T44 l0 (ji63)).f1) ((rd_T44 l0 (wrap64 ((IntKind.u64.wrap (wrap64 (x20_2 + x21_2))) / 2))).f0) ((rd_T44 l0 (wrap64 ((IntKind.u64.wrap (wrap64 (x20_2 + x21_2))) / 2))).f1)).bind fun t120 => (if t120 < 0 then (api_Term_60_at52.l4 k2 l0 a1 a2 a3 (wrap64 ((IntKind.u64.wrap (wrap64 (a1 + a3))) / 2)) (wrap64 ((wrap64 ((IntKind.u64.wrap (wrap64 (a1 + a3))) / 2)) + a2)) x20_2 (wrap64 ((IntKind.u64.wrap (wrap64 (x20_2 + x21_2))) / 2)) (wrap64 ((wrap64 ((wrap64 ((IntKind.u64.wrap (wrap64 (a1 + a3))) / 2)) + a2)) - 1))) else (api_Term_60_at52.l4 k2 l0 a1 a2 a3 (wrap64 ((IntKind.u64.wrap (wrap64 (a1 + a3))) / 2)) (wrap64 ((wrap64 ((IntKind.u64.wrap (wrap64 (a1 + a3))) / 2)) + a2)) (wrap64 ((wrap64 ((IntKind.u64.wrap (wrap64 (x20_2 + x21_2))) / 2)) + 1)) x21_2 (wrap64 ((wrap64 ((wrap64 ((IntKind.u64.wrap (wrap64 (a1 + a3))) / 2)) + a2)) - 1))))) else (none)) else (none)) else (none)) else (none)) = some r := by first | (rw [hji63] at H; exact H) | (simp only [hji63] at H ⊢; exact H)
         have hji63w : (IntKind.i64.wrap ((wrap64 ((wrap64 ((wrap64 ((IntKind.u64.wrap (wrap64 (a1 + a3))) / 2)) + a2)) - 1)) - (wrap64 ((IntKind.u64.wrap (wrap64 (x20_2 + x21_2))) / 2)))) = ji63 := (i64_w _).trans hji63
         by_cases c64 : 0 ≤ (ji63)
         ·rw [if_pos c64] at H
          have c64b0 : decide (0 ≤ (ji63)) = true := decide_eq_true c64
          clear c64
          by_cases c65 : (ji63) < (l0.length : Int)
          ·rw [if_pos c65] at H
           have c65b0 : decide ((ji63) < (l0.length : Int)) = true := decide_eq_true c65
           clear c65
           obtain ⟨ji66, hji66⟩ : ∃ j_ : Int, (wrap64 ((IntKind.u64.wrap (wrap64 (x20_2 + x21_2))) / 2)) = j_ := ⟨_, rfl⟩
           replace H : (if 0 ≤ (ji66) then (if (ji66) < (l0.length : Int) then ((fact_gather_1.f ((rd_T44 l0 (ji63)).f0) ((rd_T44 l0 (ji63)).f1) ((rd_T44 l0 (ji66)).f0) ((rd_T44 l0 (ji66)).f1)).bind fun t120 => (if t120 < 0 then (api_Term_60_at52.l4 k2 l0 a1 a2 a3 (wrap64 ((IntKind.u64.wrap (wrap64 (a1 + a3))) / 2)) (wrap64 ((wrap64 ((IntKind.u64.wrap (wrap64 (a1 + a3))) / 2)) + a2)) x20_2 ji66 (wrap64 ((wrap64 ((wrap64 ((IntKind.u64.wrap (wrap64 (a1 + a3))) / 2)) + a2)) - 1))) else (api_Term_60_at52.l4 k2 l0 a1 a2 a3 (wrap64 ((IntKind.u64.wrap (wrap64 (a1 + a3))) / 2)) (wrap64 ((wrap64 ((IntKind.u64.wrap (wrap64 (a1 + a3))) / 2)) + a2)) (wrap64 ((ji66) + 1)) x21_2 (wrap64 ((wrap64 ((wrap64 ((IntKind.u64.wrap (wrap64 (a1 + a3))) / 2)) + a2)) - 1))))) else (none)) else (none)) = some r := by first | (rw [hji66] at H; exact H) | (simp only [hji66] at H ⊢; exact H)
           (try rw [hji66] at hji63)
           (try rw [hji66] at hji63w)
           have hji66w : (IntKind.i64.wrap ((IntKind.u64.wrap (wrap64 (x20_2 + x21_2))) / 2)) = ji66 := (i64_w _).trans hji66
           by_cases c67 : 0 ≤ (ji66)
           ·rw [if_pos c67] at H
            have c67b0 : decide (0 ≤ (ji66)) = true := decide_eq_true c67
            clear c67
            by_cases c68 : (ji66) < (l0.length : Int)
            ·rw [if_pos c68] at H
             have c68b0 : decide ((ji66) < (l0.length : Int)) = true := decide_eq_true c68
             clear c68
             replace H := Option.bind_eq_some_iff.mp H
             obtain ⟨t120, A690, H⟩ := H
             replace H : (if t120 < 0 then (api_Term_60_at52.l4 k2 l0 a1 a2 a3 (wrap64 ((IntKind.u64.wrap (wrap64 (a1 + a3))) / 2)) (wrap64 ((wrap64 ((IntKind.u64.wrap (wrap64 (a1 + a3))) / 2)) + a2)) x20_2 ji66 (wrap64 ((wrap64 ((wrap64 ((IntKind.u64.wrap (wrap64 (a1 + a3))) / 2)) + a2)) - 1))) else (api_Term_60_at52.l4 k2 l0 a1 a2 a3 (wrap64 ((IntKind.u64.wrap (wrap64 (a1 + a3))) / 2)) (wrap64 ((wrap64 ((IntKind.u64.wrap (wrap64 (a1 + a3))) / 2)) + a2)) (wrap64 ((ji66) + 1)) x21_2 (wrap64 ((wrap64 ((wrap64 ((IntKind.u64.wrap (wrap64 (a1 + a3))) / 2)) + a2)) - 1)))) = some r := H
             have A69 := Aside0.mk A690
             clear A690
             by_cases c70 : t120 < 0
             ·rw [if_pos c70] at H
              have c70b0 : decide (t120 < 0) = true := decide_eq_true c70
              clear c70
              as_aux_lemma =>
               have H' := Aside0.mk H
               clear H
               try go_wp2
               have n0_ := Aside0.mk (Kd.R_drew HO_0.out)
               have n1_ := Aside0.mk (Kept.drew HK.out)
               have n2_ := Aside0.mk (below_drew1 HB.out)
               clear HO_0
               clear HK
               clear HB
               have HO_0 := n0_
               have HK := n1_
               have HB := n2_
               clear n0_ n1_ n2_
               obtain ⟨Ao72, co72, eo72⟩ := Kd.R_slice HO_0.out
               (first | subst eo72 | (injection eo72 with f1_ f2_ f3_; have f4_ := f1_.symm; have f5_ := f3_.symm; clear f1_ f2_ f3_; subst f4_; subst f5_))
               have p118 : 0 ≤ ((ji63) : Int) := oD
               have q118 : (ji63) < (l0.length : Int) := oD
               obtain ⟨ad118, e118, hx118_0, hx118_1⟩ := at_T44 (Kd.R_reads' HO_0.out).2.2 (ji63) p118 q118
               cases e118
               replace p118 := eq_true p118
               replace q118 := eq_true q118
               have p119 : 0 ≤ ((ji66) : Int) := oD
               have q119 : (ji66) < (l0.length : Int) := oD
               obtain ⟨ad119, e119, hx119_0, hx119_1⟩ := at_T44 (Kd.R_reads' HO_0.out).2.2 (ji66) p119 q119
               obtain rfl : ad118 = ad119 := (by injection e119)
               replace p119 := eq_true p119
               replace q119 := eq_true q119
               refine start_ (n := 14) (S := fun w' => w'.cell? (ad118.add (((ji63)).toNat * 2)) = some (.int .i64 ((rd_T44 l0 (ji63)).f0)) ∧ w'.cell? ⟨(ad118.add (((ji63)).toNat * 2)).block, (ad118.add (((ji63)).toNat * 2)).off + 1, none⟩ = some (.int .i64 ((rd_T44 l0 (ji63)).f1)) ∧ w'.cell? (ad118.add (((ji66)).toNat * 2)) = some (.int .i64 ((rd_T44 l0 (ji66)).f0)) ∧ w'.cell? ⟨(ad118.add (((ji66)).toNat * 2)).block, (ad118.add (((ji66)).toNat * 2)).off + 1, none⟩ = some (.int .i64 ((rd_T44 l0 (ji66)).f1))) (ds := []) api_Term_60_at52.b44 (by kernel_rfl) rfl rfl ⟨hx118_0, hx118_1, hx119_0, hx119_1⟩ (fun hHeld => ?_); refine with_tabW api_Term_60_at52.tab35 api_Term_60_at52.bits35 (fun HT_ HW_ => ?_)
               generalize wr.drew = w71 at HO_0 HK HB hx118_0 hx118_1 hx119_0 hx119_1 hHeld ⊢
               refine pY 0 (some 158) api_Term_60_at52.b45 rfl rfl HT_.out (fun _ _ _ h => h) ?_
               refine pY 1 (some 159) api_Term_60_at52.b46 rfl rfl HT_.out (fun _ _ _ h => h) ?_
               refine pY 2 (some 160) api_Term_60_at52.b47 rfl rfl HT_.out (fun _ _ _ h => h) ?_
               refine pY 3 (some 161) api_Term_60_at52.b48 rfl rfl HT_.out (fun _ _ _ h => h) ?_
               refine pY 4 (some 162) api_Term_60_at52.b49 rfl rfl HT_.out (fun _ _ _ h => h) ?_
               refine pY 5 (some 163) api_Term_60_at52.b50 rfl rfl HT_.out (fun _ _ _ h => h) ?_
               refine pY 7 (some 165) api_Term_60_at52.b51 rfl rfl HT_.out (fun _ _ _ h => h) ?_
               refine pY 8 (some 166) api_Term_60_at52.b52 rfl rfl HT_.out (fun _ _ _ h => h) ?_
               refine pY 9 (some 167) api_Term_60_at52.b53 rfl rfl HT_.out (fun _ _ _ h => h) ?_
               refine take_ (i := 6) (N := some 164) (v := ?_) (a' := ?_) api_Term_60_at52.b54 rfl rfl (take_ofW HT_.out HW_.out (by kernel_rfl)) (fun _ _ _ h => h) (Or.inl ⟨by rfl, ?_⟩) hHeld ?_ ?_
               rotate_left
               ·rintro w' ⟨s0, s1, s2, s3⟩
                go_simp
                with_reducible rfl
               rotate_left
               ·simp only [Act.put, List.setIfInBounds_toArray, List.set_cons_zero, List.set_cons_succ, i64_w, i32_w]
                rfl
               refine take_ (i := 10) (N := some 168) (v := ?_) (a' := ?_) api_Term_60_at52.b55 rfl rfl (take_ofW HT_.out HW_.out (by kernel_rfl)) (fun _ _ _ h => h) (Or.inl ⟨by rfl, ?_⟩) hHeld ?_ ?_
               rotate_left
               ·rintro w' ⟨s0, s1, s2, s3⟩
                go_simp
                with_reducible rfl
               rotate_left
               ·simp only [Act.put, List.setIfInBounds_toArray, List.set_cons_zero, List.set_cons_succ, i64_w, i32_w]
                rfl
               refine one_ (i := 11) (N := some 169) api_Term_60_at52.b56 rfl rfl (one_of HT_.out (by kernel_rfl)) (by decide) (fun K hK => ?_)
               refine goesT_ Try.func52 (by kernel_rfl) rfl #[.agg #[.int .i64 ((rd_T44 l0 (ji63)).f0), .int .i64 ((rd_T44 l0 (ji63)).f1)], .agg #[.int .i64 ((rd_T44 l0 (ji66)).f0), .int .i64 ((rd_T44 l0 (ji66)).f1)]] (by rfl) rfl rfl (by (try simp only [List.map_toArray, List.map_cons, List.map_nil]); first | done | (simp only [hji63, hji66]; rfl) | rfl | (simp only [List.length_drop, List.length_take]; rfl)) ?_
               with_reducible refine (fact_gather_1.calls ((rd_T44 l0 (ji63)).f0) ((rd_T44 l0 (ji63)).f1) ((rd_T44 l0 (ji66)).f0) ((rd_T44 l0 (ji66)).f1) t120 _ A69.out).mono ?_
               rintro e w73 ⟨rfl, hb⟩
               have HS0_ := (hb.cell (World.block_lt_of_cell? _ _ (hHeld.1))).trans (hHeld.1)
               have HS1_ := (hb.cell (World.block_lt_of_cell? _ _ (hHeld.2.1))).trans (hHeld.2.1)
               have HS2_ := (hb.cell (World.block_lt_of_cell? _ _ (hHeld.2.2.1))).trans (hHeld.2.2.1)
               have HS3_ := (hb.cell (World.block_lt_of_cell? _ _ (hHeld.2.2.2))).trans (hHeld.2.2.2)
               refine ⟨_, rfl, ?_⟩
               have n0_ := Aside0.mk (Kd.R_below (rK HO_0.out) hb)
               have n1_ := Aside0.mk (Kept.below (S := (fun k_ => P0_ k_)) (kP HK.out) hb)
               have n2_ := Aside0.mk (below_step (hB0 HB.out) hb)
               clear HO_0
               clear HK
               clear HB
               have HO_0 := n0_
               have HK := n1_
               have HB := n2_
               clear n0_ n1_ n2_
               (try clear hb)
               (try clear hb2)
               (try clear hk)
               (try clear hi)
               refine hK.out _ _ ⟨HS0_, HS1_, HS2_, HS3_⟩ (fun hHeld => ?_)
               clear hK K
               refine norm_ (a' := ?_) ?_ ?_
               rotate_left
               ·show Act.put _ (some 169) _ = _
                simp only [Act.put, List.setIfInBounds_toArray, List.set_cons_zero, List.set_cons_succ, i64_w, i32_w]
                rfl
               refine pY 12 (some 170) api_Term_60_at52.b57 rfl rfl HT_.out (fun _ _ _ h => h) ?_
               refine pY 13 (some 171) api_Term_60_at52.b58 rfl rfl HT_.out (fun _ _ _ h => h) ?_
               refine done_ (done_of HT_.out (by kernel_rfl)) ?_
               try go_wp2
               go_roundg k2
               case measure => have := HJ59.out; have := HK2.out; omega
               case rel => exact ⟨(x20_2), (ji66), rS, (by first | rfl | (simp; done) | (simp only [← hji66] <;> (first | rfl | simp)) | (simp [*]; done)), H', ⟨by have := HJ59.out; have := HK2.out; omega⟩, ⟨rK HO_0.out⟩, ⟨kP HK.out⟩, ⟨hB0 HB.out⟩⟩
             ·rw [if_neg c70] at H
              have c70b0 : decide (t120 < 0) = false := decide_eq_false c70
              clear c70
              as_aux_lemma =>
               have H' := Aside0.mk H
               clear H
               try go_wp2
               have n0_ := Aside0.mk (Kd.R_drew HO_0.out)
               have n1_ := Aside0.mk (Kept.drew HK.out)
               have n2_ := Aside0.mk (below_drew1 HB.out)
               clear HO_0
               clear HK
               clear HB
               have HO_0 := n0_
               have HK := n1_
               have HB := n2_
               clear n0_ n1_ n2_
               obtain ⟨Ao75, co75, eo75⟩ := Kd.R_slice HO_0.out
               (first | subst eo75 | (injection eo75 with f1_ f2_ f3_; have f4_ := f1_.symm; have f5_ := f3_.symm; clear f1_ f2_ f3_; subst f4_; subst f5_))
               have p118 : 0 ≤ ((ji63) : Int) := oD
               have q118 : (ji63) < (l0.length : Int) := oD
               obtain ⟨ad118, e118, hx118_0, hx118_1⟩ := at_T44 (Kd.R_reads' HO_0.out).2.2 (ji63) p118 q118
               cases e118
               replace p118 := eq_true p118
               replace q118 := eq_true q118
               have p119 : 0 ≤ ((ji66) : Int) := oD
               have q119 : (ji66) < (l0.length : Int) := oD
               obtain ⟨ad119, e119, hx119_0, hx119_1⟩ := at_T44 (Kd.R_reads' HO_0.out).2.2 (ji66) p119 q119
               obtain rfl : ad118 = ad119 := (by injection e119)
               replace p119 := eq_true p119
               replace q119 := eq_true q119
               refine start_ (n := 14) (S := fun w' => w'.cell? (ad118.add (((ji63)).toNat * 2)) = some (.int .i64 ((rd_T44 l0 (ji63)).f0)) ∧ w'.cell? ⟨(ad118.add (((ji63)).toNat * 2)).block, (ad118.add (((ji63)).toNat * 2)).off + 1, none⟩ = some (.int .i64 ((rd_T44 l0 (ji63)).f1)) ∧ w'.cell? (ad118.add (((ji66)).toNat * 2)) = some (.int .i64 ((rd_T44 l0 (ji66)).f0)) ∧ w'.cell? ⟨(ad118.add (((ji66)).toNat * 2)).block, (ad118.add (((ji66)).toNat * 2)).off + 1, none⟩ = some (.int .i64 ((rd_T44 l0 (ji66)).f1))) (ds := []) api_Term_60_at52.b44 (by kernel_rfl) rfl rfl ⟨hx118_0, hx118_1, hx119_0, hx119_1⟩ (fun hHeld => ?_); refine with_tabW api_Term_60_at52.tab35 api_Term_60_at52.bits35 (fun HT_ HW_ => ?_)
               generalize wr.drew = w74 at HO_0 HK HB hx118_0 hx118_1 hx119_0 hx119_1 hHeld ⊢
               refine pY 0 (some 158) api_Term_60_at52.b45 rfl rfl HT_.out (fun _ _ _ h => h) ?_
               refine pY 1 (some 159) api_Term_60_at52.b46 rfl rfl HT_.out (fun _ _ _ h => h) ?_
               refine pY 2 (some 160) api_Term_60_at52.b47 rfl rfl HT_.out (fun _ _ _ h => h) ?_
               refine pY 3 (some 161) api_Term_60_at52.b48 rfl rfl HT_.out (fun _ _ _ h => h) ?_
               refine pY 4 (some 162) api_Term_60_at52.b49 rfl rfl HT_.out (fun _ _ _ h => h) ?_
               refine pY 5 (some 163) api_Term_60_at52.b50 rfl rfl HT_.out (fun _ _ _ h => h) ?_
               refine pY 7 (some 165) api_Term_60_at52.b51 rfl rfl HT_.out (fun _ _ _ h => h) ?_
               refine pY 8 (some 166) api_Term_60_at52.b52 rfl rfl HT_.out (fun _ _ _ h => h) ?_
               refine pY 9 (some 167) api_Term_60_at52.b53 rfl rfl HT_.out (fun _ _ _ h => h) ?_
               refine take_ (i := 6) (N := some 164) (v := ?_) (a' := ?_) api_Term_60_at52.b54 rfl rfl (take_ofW HT_.out HW_.out (by kernel_rfl)) (fun _ _ _ h => h) (Or.inl ⟨by rfl, ?_⟩) hHeld ?_ ?_
               rotate_left
               ·rintro w' ⟨s0, s1, s2, s3⟩
                go_simp
                with_reducible rfl
               rotate_left
               ·simp only [Act.put, List.setIfInBounds_toArray, List.set_cons_zero, List.set_cons_succ, i64_w, i32_w]
                rfl
               refine take_ (i := 10) (N := some 168) (v := ?_) (a' := ?_) api_Term_60_at52.b55 rfl rfl (take_ofW HT_.out HW_.out (by kernel_rfl)) (fun _ _ _ h => h) (Or.inl ⟨by rfl, ?_⟩) hHeld ?_ ?_
               rotate_left
               ·rintro w' ⟨s0, s1, s2, s3⟩
                go_simp
                with_reducible rfl
               rotate_left
               ·simp only [Act.put, List.setIfInBounds_toArray, List.set_cons_zero, List.set_cons_succ, i64_w, i32_w]
                rfl
               refine one_ (i := 11) (N := some 169) api_Term_60_at52.b56 rfl rfl (one_of HT_.out (by kernel_rfl)) (by decide) (fun K hK => ?_)
               refine goesT_ Try.func52 (by kernel_rfl) rfl #[.agg #[.int .i64 ((rd_T44 l0 (ji63)).f0), .int .i64 ((rd_T44 l0 (ji63)).f1)], .agg #[.int .i64 ((rd_T44 l0 (ji66)).f0), .int .i64 ((rd_T44 l0 (ji66)).f1)]] (by rfl) rfl rfl (by (try simp only [List.map_toArray, List.map_cons, List.map_nil]); first | done | (simp only [hji63, hji66]; rfl) | rfl | (simp only [List.length_drop, List.length_take]; rfl)) ?_
               with_reducible refine (fact_gather_1.calls ((rd_T44 l0 (ji63)).f0) ((rd_T44 l0 (ji63)).f1) ((rd_T44 l0 (ji66)).f0) ((rd_T44 l0 (ji66)).f1) t120 _ A69.out).mono ?_
               rintro e w76 ⟨rfl, hb⟩
               have HS0_ := (hb.cell (World.block_lt_of_cell? _ _ (hHeld.1))).trans (hHeld.1)
               have HS1_ := (hb.cell (World.block_lt_of_cell? _ _ (hHeld.2.1))).trans (hHeld.2.1)
               have HS2_ := (hb.cell (World.block_lt_of_cell? _ _ (hHeld.2.2.1))).trans (hHeld.2.2.1)
               have HS3_ := (hb.cell (World.block_lt_of_cell? _ _ (hHeld.2.2.2))).trans (hHeld.2.2.2)
               refine ⟨_, rfl, ?_⟩
               have n0_ := Aside0.mk (Kd.R_below (rK HO_0.out) hb)
               have n1_ := Aside0.mk (Kept.below (S := (fun k_ => P0_ k_)) (kP HK.out) hb)
               have n2_ := Aside0.mk (below_step (hB0 HB.out) hb)
               clear HO_0
               clear HK
               clear HB
               have HO_0 := n0_
               have HK := n1_
               have HB := n2_
               clear n0_ n1_ n2_
               (try clear hb)
               (try clear hb2)
               (try clear hk)
               (try clear hi)
               refine hK.out _ _ ⟨HS0_, HS1_, HS2_, HS3_⟩ (fun hHeld => ?_)
               clear hK K
               refine norm_ (a' := ?_) ?_ ?_
               rotate_left
               ·show Act.put _ (some 169) _ = _
                simp only [Act.put, List.setIfInBounds_toArray, List.set_cons_zero, List.set_cons_succ, i64_w, i32_w]
                rfl
               refine pY 12 (some 170) api_Term_60_at52.b57 rfl rfl HT_.out (fun _ _ _ h => h) ?_
               refine pY 13 (some 171) api_Term_60_at52.b58 rfl rfl HT_.out (fun _ _ _ h => h) ?_
               refine done_ (done_of HT_.out (by kernel_rfl)) ?_
               try go_wp2
               go_roundg k2
               case measure => have := HJ59.out; have := HK2.out; omega
               case rel => exact ⟨(wrap64 ((ji66) + 1)), (x21_2), (by first | rfl | (simp; done) | (simp only [← hji66] <;> (first | rfl | simp)) | (simp [*]; done)), rS, H', ⟨by have := HJ59.out; have := HK2.out; omega⟩, ⟨rK HO_0.out⟩, ⟨kP HK.out⟩, ⟨hB0 HB.out⟩⟩
            ·rw [if_neg c68] at H
             exact absurd H (by simp)
           ·rw [if_neg c67] at H
            exact absurd H (by simp)
          ·rw [if_neg c65] at H
           exact absurd H (by simp)
         ·rw [if_neg c64] at H
          exact absurd H (by simp)
        ·rw [if_neg c62] at H
         have c62b0 : decide (x20_2 < x21_2) = false := decide_eq_false c62
         clear c62
         have HC77 := Aside0.mk H
         clear H
         go_upto_region 39 with (fail)
         go_cut [185] (fun v185 wc => ∃ (kq : Nat) (x185_76 : Bool), v185 = .bool x185_76 ∧ Aside0 (api_Term_60_at52.j6 kq l0 a1 a2 a3 (wrap64 ((IntKind.u64.wrap (wrap64 (a1 + a3))) / 2)) x20_2 (wrap64 ((wrap64 ((wrap64 ((IntKind.u64.wrap (wrap64 (a1 + a3))) / 2)) + a2)) - x20_2)) x185_76 = some r) ∧ Aside0 (kq ≤ k2) ∧ Aside0 (Kd.R k44 44 wc w0.heap.size (fun k_ => (P0_ k_ ∨ w.heap.size ≤ k_)) u9000_ l0) ∧ Aside0 (Kept w wc (fun k_ => P0_ k_)) ∧ Aside0 (Below w0.heap.size w0 wc))
         case first =>
          have H := HC77.out
          clear HC77
          by_cases c78 : x20_2 < a2
          ·rw [if_pos c78] at H
           have c78b0 : decide (x20_2 < a2) = true := decide_eq_true c78
           clear c78
           (first | rw [c78b0] | (simp only [i64_w, i32_w]; rw [c78b0]) | skip)
           as_aux_lemma =>
            have H' := Aside0.mk H
            clear H
            go_wp2
            go_meet
            case rel => exact ⟨_, (decide (a2 < (wrap64 ((wrap64 ((wrap64 ((IntKind.u64.wrap (wrap64 (a1 + a3))) / 2)) + a2)) - x20_2)))), rS, H', ⟨by have := HJ59.out; have := HK2.out; first | omega | exact Nat.le_refl _⟩, ⟨rK HO_0.out⟩, ⟨kP HK.out⟩, ⟨hB0 HB.out⟩⟩
          ·rw [if_neg c78] at H
           have c78b0 : decide (x20_2 < a2) = false := decide_eq_false c78
           clear c78
           (first | rw [c78b0] | (simp only [i64_w, i32_w]; rw [c78b0]) | skip)
           as_aux_lemma =>
            have H' := Aside0.mk H
            clear H
            go_wp2
            go_meet
            case rel => exact ⟨_, (false), rS, H', ⟨by have := HJ59.out; have := HK2.out; first | omega | exact Nat.le_refl _⟩, ⟨rK HO_0.out⟩, ⟨kP HK.out⟩, ⟨hB0 HB.out⟩⟩
         case rest =>
          clear HC77
          try clear c62b0
          obtain ⟨kq, x185_76, rfl, HA, HJ76, HO_0, HK, HB⟩ := hcut
          cases kq with
          | zero => exact absurd HA.out (by simp [api_Term_60_at52.j6])
          | succ kj76 =>
           have H := HA.out
           clear HA
           simp only [api_Term_60_at52.j6] at H
           have HC79 := Aside0.mk H
           clear H
           go_upto_if 185 with (fail)
           go_cut [] (fun wc => ∃ (kq : Nat) (x0_78 : List (S44)), Aside0 (api_Term_60_at52.j7 kq x0_78 a1 a3 (wrap64 ((IntKind.u64.wrap (wrap64 (a1 + a3))) / 2)) x20_2 (wrap64 ((wrap64 ((wrap64 ((IntKind.u64.wrap (wrap64 (a1 + a3))) / 2)) + a2)) - x20_2)) = some r) ∧ Aside0 (kq ≤ kj76) ∧ Aside0 (Kd.R k44 44 wc w0.heap.size (fun k_ => (P0_ k_ ∨ w.heap.size ≤ k_)) u9000_ x0_78) ∧ Aside0 (Kept w wc (fun k_ => P0_ k_)) ∧ Aside0 (Below w0.heap.size w0 wc))
           case first =>
            have H := HC79.out
            clear HC79
            by_cases c80 : x185_76 = true
            ·subst c80
             have H1 : ((api_Term_61_at52.f kj76 l0 x20_2 a2 (wrap64 ((wrap64 ((wrap64 ((IntKind.u64.wrap (wrap64 (a1 + a3))) / 2)) + a2)) - x20_2))).bind fun t121 => (api_Term_60_at52.j7 kj76 t121 a1 a3 (wrap64 ((IntKind.u64.wrap (wrap64 (a1 + a3))) / 2)) x20_2 (wrap64 ((wrap64 ((wrap64 ((IntKind.u64.wrap (wrap64 (a1 + a3))) / 2)) + a2)) - x20_2)))) = some r := by rw [if_pos rfl] at H; exact H
             clear H
             have H := H1
             clear H1
             replace H := Option.bind_eq_some_iff.mp H
             obtain ⟨t121, A810, H⟩ := H
             replace H : (api_Term_60_at52.j7 kj76 t121 a1 a3 (wrap64 ((IntKind.u64.wrap (wrap64 (a1 + a3))) / 2)) x20_2 (wrap64 ((wrap64 ((wrap64 ((IntKind.u64.wrap (wrap64 (a1 + a3))) / 2)) + a2)) - x20_2))) = some r := H
             have A81 := Aside0.mk A810
             clear A810
             as_aux_lemma =>
              have H' := Aside0.mk H
              clear H
              obtain ⟨Ao82, co82, eo82⟩ := Kd.R_slice HO_0.out
              subst eo82
              go_wp2_with (first | ((with_reducible refine gate_callee (f := 61) rfl ?_); refine goesL_ (some 191) rfl rfl Try.func61 (by kernel_rfl) rfl #[.slice Ao82 l0.length co82, .int .i64 x20_2, .int .i64 a2, .int .i64 (wrap64 ((wrap64 ((wrap64 ((IntKind.u64.wrap (wrap64 (a1 + a3))) / 2)) + a2)) - x20_2)), .func (.func 52) #[] #[]] rfl aM ?_; (with_reducible refine (api_Term_61_at52.calls kj76 (fun k_ => some k_ = (.slice Ao82 l0.length co82 : Value).ownBlock) (.slice Ao82 l0.length co82) l0 x20_2 a2 (wrap64 ((wrap64 ((wrap64 ((IntKind.u64.wrap (wrap64 (a1 + a3))) / 2)) + a2)) - x20_2))  t121 w0 _ ?side1 ?side2 A81.out).mono ?_); (case side1 => repeat (first | (with_reducible first | exact HB.out | apply below_alloc | apply pw_below_drewN | apply below_drew1) | exact HB.out)); (case side2 => exact Kd.R_tight rfl HO_0.out); rintro e w83 ⟨rfl, hy0, hb, hkp⟩; refine ⟨_, rfl, ?_⟩; have n0_ := Aside0.mk (Kd.R_reok rfl hy0 (fun k_ e_ => HO_0.out.1 k_ e_)); have n1_ := Aside0.mk (Kept.then_ (S := (fun k_ => P0_ k_)) (kP HK.out) hkp (fun k_ hs_ => (fun e_ => (HO_0.out.1 k_ e_.symm)) hs_)); have n2_ := Aside0.mk (hb); clear HO_0 HK HB; have HO_0 := n0_; have HK := n1_; have HB := n2_; clear n0_ n1_ n2_; (try clear hb); (try clear hkp); (try clear hy0)))
              go_meet
              case rel => exact ⟨_, (t121), H', ⟨by have := HJ59.out; have := HK2.out; have := HJ76.out; first | omega | exact Nat.le_refl _⟩, ⟨rK HO_0.out⟩, ⟨kP HK.out⟩, ⟨hB0 HB.out⟩⟩
            ·replace c80 := Bool.eq_false_iff.mpr c80
             subst c80
             have H1 : (api_Term_60_at52.j7 kj76 l0 a1 a3 (wrap64 ((IntKind.u64.wrap (wrap64 (a1 + a3))) / 2)) x20_2 (wrap64 ((wrap64 ((wrap64 ((IntKind.u64.wrap (wrap64 (a1 + a3))) / 2)) + a2)) - x20_2))) = some r := by rw [if_neg (show ¬ (false = true) by decide)] at H; exact H
             clear H
             have H := H1
             clear H1
             as_aux_lemma =>
              have H' := Aside0.mk H
              clear H
              go_wp2
              go_meet
              case rel => exact ⟨_, (l0), H', ⟨by have := HJ59.out; have := HK2.out; have := HJ76.out; first | omega | exact Nat.le_refl _⟩, ⟨rK HO_0.out⟩, ⟨kP HK.out⟩, ⟨hB0 HB.out⟩⟩
           case rest =>
            clear HC79
            obtain ⟨kq, x0_78, HA, HJ78, HO_0, HK, HB⟩ := hcut
            cases kq with
            | zero => exact absurd HA.out (by simp [api_Term_60_at52.j7])
            | succ kj78 =>
             have H := HA.out
             clear HA
             simp only [api_Term_60_at52.j7] at H
             have HC84 := Aside0.mk H
             clear H
             go_upto_region 41 with (fail)
             go_cut [199] (fun v199 wc => ∃ (kq : Nat) (x199_83 : Bool), v199 = .bool x199_83 ∧ Aside0 (api_Term_60_at52.j8 kq x0_78 a1 a3 (wrap64 ((IntKind.u64.wrap (wrap64 (a1 + a3))) / 2)) x20_2 (wrap64 ((wrap64 ((wrap64 ((IntKind.u64.wrap (wrap64 (a1 + a3))) / 2)) + a2)) - x20_2)) x199_83 = some r) ∧ Aside0 (kq ≤ kj78) ∧ Aside0 (Kd.R k44 44 wc w0.heap.size (fun k_ => (P0_ k_ ∨ w.heap.size ≤ k_)) u9000_ x0_78) ∧ Aside0 (Kept w wc (fun k_ => P0_ k_)) ∧ Aside0 (Below w0.heap.size w0 wc))
             case first =>
              have H := HC84.out
              clear HC84
              by_cases c85 : a1 < x20_2
              ·rw [if_pos c85] at H
               have c85b0 : decide (a1 < x20_2) = true := decide_eq_true c85
               clear c85
               (first | rw [c85b0] | (simp only [i64_w, i32_w]; rw [c85b0]) | skip)
               as_aux_lemma =>
                have H' := Aside0.mk H
                clear H
                go_wp2
                go_meet
                case rel => exact ⟨_, (decide (x20_2 < (wrap64 ((IntKind.u64.wrap (wrap64 (a1 + a3))) / 2)))), rS, H', ⟨by have := HJ59.out; have := HK2.out; have := HJ76.out; have := HJ78.out; first | omega | exact Nat.le_refl _⟩, ⟨rK HO_0.out⟩, ⟨kP HK.out⟩, ⟨hB0 HB.out⟩⟩
              ·rw [if_neg c85] at H
               have c85b0 : decide (a1 < x20_2) = false := decide_eq_false c85
               clear c85
               (first | rw [c85b0] | (simp only [i64_w, i32_w]; rw [c85b0]) | skip)
               as_aux_lemma =>
                have H' := Aside0.mk H
                clear H
                go_wp2
                go_meet
                case rel => exact ⟨_, (false), rS, H', ⟨by have := HJ59.out; have := HK2.out; have := HJ76.out; have := HJ78.out; first | omega | exact Nat.le_refl _⟩, ⟨rK HO_0.out⟩, ⟨kP HK.out⟩, ⟨hB0 HB.out⟩⟩
             case rest =>
              clear HC84
              obtain ⟨kq, x199_83, rfl, HA, HJ83, HO_0, HK, HB⟩ := hcut
              cases kq with
              | zero => exact absurd HA.out (by simp [api_Term_60_at52.j8])
              | succ kj83 =>
               have H := HA.out
               clear HA
               simp only [api_Term_60_at52.j8] at H
               by_cases c86 : x199_83 = true
               ·subst c86
                have H1 : ((api_Term_60_at52.f kj83 x0_78 a1 x20_2 (wrap64 ((IntKind.u64.wrap (wrap64 (a1 + a3))) / 2))).bind fun t122 => (if (wrap64 ((IntKind.u64.wrap (wrap64 (a1 + a3))) / 2)) < (wrap64 ((wrap64 ((wrap64 ((IntKind.u64.wrap (wrap64 (a1 + a3))) / 2)) + a2)) - x20_2)) then (if (wrap64 ((wrap64 ((wrap64 ((IntKind.u64.wrap (wrap64 (a1 + a3))) / 2)) + a2)) - x20_2)) < a3 then ((api_Term_60_at52.f kj83 t122 (wrap64 ((IntKind.u64.wrap (wrap64 (a1 + a3))) / 2)) (wrap64 ((wrap64 ((wrap64 ((IntKind.u64.wrap (wrap64 (a1 + a3))) / 2)) + a2)) - x20_2)) a3).bind fun t123 => (some t123)) else (some t122)) else (some t122))) = some r := by rw [if_pos rfl] at H; exact H
                clear H
                have H := H1
                clear H1
                replace H := Option.bind_eq_some_iff.mp H
                obtain ⟨t122, A870, H⟩ := H
                replace H : (if (wrap64 ((IntKind.u64.wrap (wrap64 (a1 + a3))) / 2)) < (wrap64 ((wrap64 ((wrap64 ((IntKind.u64.wrap (wrap64 (a1 + a3))) / 2)) + a2)) - x20_2)) then (if (wrap64 ((wrap64 ((wrap64 ((IntKind.u64.wrap (wrap64 (a1 + a3))) / 2)) + a2)) - x20_2)) < a3 then ((api_Term_60_at52.f kj83 t122 (wrap64 ((IntKind.u64.wrap (wrap64 (a1 + a3))) / 2)) (wrap64 ((wrap64 ((wrap64 ((IntKind.u64.wrap (wrap64 (a1 + a3))) / 2)) + a2)) - x20_2)) a3).bind fun t123 => (some t123)) else (some t122)) else (some t122)) = some r := H
                have A87 := Aside0.mk A870
                clear A870
                by_cases c88 : (wrap64 ((IntKind.u64.wrap (wrap64 (a1 + a3))) / 2)) < (wrap64 ((wrap64 ((wrap64 ((IntKind.u64.wrap (wrap64 (a1 + a3))) / 2)) + a2)) - x20_2))
                ·rw [if_pos c88] at H
                 have c88b0 : decide ((wrap64 ((IntKind.u64.wrap (wrap64 (a1 + a3))) / 2)) < (wrap64 ((wrap64 ((wrap64 ((IntKind.u64.wrap (wrap64 (a1 + a3))) / 2)) + a2)) - x20_2))) = true := decide_eq_true c88
                 clear c88
                 by_cases c89 : (wrap64 ((wrap64 ((wrap64 ((IntKind.u64.wrap (wrap64 (a1 + a3))) / 2)) + a2)) - x20_2)) < a3
                 ·rw [if_pos c89] at H
                  have c89b0 : decide ((wrap64 ((wrap64 ((wrap64 ((IntKind.u64.wrap (wrap64 (a1 + a3))) / 2)) + a2)) - x20_2)) < a3) = true := decide_eq_true c89
                  clear c89
                  replace H := Option.bind_eq_some_iff.mp H
                  obtain ⟨t123, A900, H⟩ := H
                  replace H : (some t123) = some r := H
                  have A90 := Aside0.mk A900
                  clear A900
                  as_aux_lemma =>
                   obtain rfl := Option.some.inj H
                   obtain ⟨Ao91, co91, eo91⟩ := Kd.R_slice HO_0.out
                   subst eo91
                   go_wp2_with (first | ((with_reducible refine gate_callee (f := 60) rfl ?_); refine goesL_ (some 205) rfl rfl Try.func60 (by kernel_rfl) rfl #[.slice Ao91 x0_78.length co91, .int .i64 a1, .int .i64 x20_2, .int .i64 (wrap64 ((IntKind.u64.wrap (wrap64 (a1 + a3))) / 2)), .func (.func 52) #[] #[]] rfl aM ?_; (with_reducible refine (ih kj83 (by have := HJ59.out; have := HK2.out; have := HJ76.out; have := HJ78.out; have := HJ83.out; omega) (fun k_ => some k_ = (.slice Ao91 x0_78.length co91 : Value).ownBlock) (.slice Ao91 x0_78.length co91) x0_78 a1 x20_2 (wrap64 ((IntKind.u64.wrap (wrap64 (a1 + a3))) / 2))  t122 w0 _ ?side1 ?side2 A87.out).mono ?_); (case side1 => repeat (first | (with_reducible first | exact HB.out | apply below_alloc | apply pw_below_drewN | apply below_drew1) | exact HB.out)); (case side2 => exact Kd.R_tight rfl HO_0.out); rintro e w92 ⟨rfl, hy0, hb, hkp⟩; refine ⟨_, rfl, ?_⟩; have n0_ := Aside0.mk (Kd.R_reok rfl hy0 (fun k_ e_ => HO_0.out.1 k_ e_)); have n1_ := Aside0.mk (Kept.then_ (S := (fun k_ => P0_ k_)) (kP HK.out) hkp (fun k_ hs_ => (fun e_ => (HO_0.out.1 k_ e_.symm)) hs_)); have n2_ := Aside0.mk (hb); clear HO_0 HK HB; have HO_0 := n0_; have HK := n1_; have HB := n2_; clear n0_ n1_ n2_; (try clear hb); (try clear hkp); (try clear hy0)) | ((with_reducible refine gate_callee (f := 60) rfl ?_); refine goesL_ (some 219) rfl rfl Try.func60 (by kernel_rfl) rfl #[.slice Ao91 x0_78.length co91, .int .i64 (wrap64 ((IntKind.u64.wrap (wrap64 (a1 + a3))) / 2)), .int .i64 (wrap64 ((wrap64 ((wrap64 ((IntKind.u64.wrap (wrap64 (a1 + a3))) / 2)) + a2)) - x20_2)), .int .i64 a3, .func (.func 52) #[] #[]] rfl aM ?_; (with_reducible refine (ih kj83 (by have := HJ59.out; have := HK2.out; have := HJ76.out; have := HJ78.out; have := HJ83.out; omega) (fun k_ => some k_ = (.slice Ao91 x0_78.length co91 : Value).ownBlock) (.slice Ao91 x0_78.length co91) t122 (wrap64 ((IntKind.u64.wrap (wrap64 (a1 + a3))) / 2)) (wrap64 ((wrap64 ((wrap64 ((IntKind.u64.wrap (wrap64 (a1 + a3))) / 2)) + a2)) - x20_2)) a3  t123 w0 _ ?side1 ?side2 A90.out).mono ?_); (case side1 => repeat (first | (with_reducible first | exact HB.out | apply below_alloc | apply pw_below_drewN | apply below_drew1) | exact HB.out)); (case side2 => exact Kd.R_tight rfl HO_0.out); rintro e w93 ⟨rfl, hy0, hb, hkp⟩; refine ⟨_, rfl, ?_⟩; have n0_ := Aside0.mk (Kd.R_reok rfl hy0 (fun k_ e_ => HO_0.out.1 k_ e_)); have n1_ := Aside0.mk (Kept.then_ (S := (fun k_ => P0_ k_)) (kP HK.out) hkp (fun k_ hs_ => (fun e_ => (HO_0.out.1 k_ e_.symm)) hs_)); have n2_ := Aside0.mk (hb); clear HO_0 HK HB; have HO_0 := n0_; have HK := n1_; have HB := n2_; clear n0_ n1_ n2_; (try clear hb); (try clear hkp); (try clear hy0)))
                   first | go_end0 | ((try simp only [Exit.inBlock, Exit.then]); refine bodyPost_ret (results_none rfl _ _ _) rfl ?_)
                   exact ⟨eW, by (with_reducible repeat (first | apply Kd.R_alloc | apply Kd.R_drewN | apply Kd.R_drew)); exact HO_0.out, hB0 HB.out, kP HK.out⟩
                 ·rw [if_neg c89] at H
                  have c89b0 : decide ((wrap64 ((wrap64 ((wrap64 ((IntKind.u64.wrap (wrap64 (a1 + a3))) / 2)) + a2)) - x20_2)) < a3) = false := decide_eq_false c89
                  clear c89
                  as_aux_lemma =>
                   obtain rfl := Option.some.inj H
                   obtain ⟨Ao94, co94, eo94⟩ := Kd.R_slice HO_0.out
                   subst eo94
                   go_wp2_with (first | ((with_reducible refine gate_callee (f := 60) rfl ?_); refine goesL_ (some 205) rfl rfl Try.func60 (by kernel_rfl) rfl #[.slice Ao94 x0_78.length co94, .int .i64 a1, .int .i64 x20_2, .int .i64 (wrap64 ((IntKind.u64.wrap (wrap64 (a1 + a3))) / 2)), .func (.func 52) #[] #[]] rfl aM ?_; (with_reducible refine (ih kj83 (by have := HJ59.out; have := HK2.out; have := HJ76.out; have := HJ78.out; have := HJ83.out; omega) (fun k_ => some k_ = (.slice Ao94 x0_78.length co94 : Value).ownBlock) (.slice Ao94 x0_78.length co94) x0_78 a1 x20_2 (wrap64 ((IntKind.u64.wrap (wrap64 (a1 + a3))) / 2))  t122 w0 _ ?side1 ?side2 A87.out).mono ?_); (case side1 => repeat (first | (with_reducible first | exact HB.out | apply below_alloc | apply pw_below_drewN | apply below_drew1) | exact HB.out)); (case side2 => exact Kd.R_tight rfl HO_0.out); rintro e w95 ⟨rfl, hy0, hb, hkp⟩; refine ⟨_, rfl, ?_⟩; have n0_ := Aside0.mk (Kd.R_reok rfl hy0 (fun k_ e_ => HO_0.out.1 k_ e_)); have n1_ := Aside0.mk (Kept.then_ (S := (fun k_ => P0_ k_)) (kP HK.out) hkp (fun k_ hs_ => (fun e_ => (HO_0.out.1 k_ e_.symm)) hs_)); have n2_ := Aside0.mk (hb); clear HO_0 HK HB; have HO_0 := n0_; have HK := n1_; have HB := n2_; clear n0_ n1_ n2_; (try clear hb); (try clear hkp); (try clear hy0)))
                   first | go_end0 | ((try simp only [Exit.inBlock, Exit.then]); refine bodyPost_ret (results_none rfl _ _ _) rfl ?_)
                   exact ⟨eW, by (with_reducible repeat (first | apply Kd.R_alloc | apply Kd.R_drewN | apply Kd.R_drew)); exact HO_0.out, hB0 HB.out, kP HK.out⟩
                ·rw [if_neg c88] at H
                 have c88b0 : decide ((wrap64 ((IntKind.u64.wrap (wrap64 (a1 + a3))) / 2)) < (wrap64 ((wrap64 ((wrap64 ((IntKind.u64.wrap (wrap64 (a1 + a3))) / 2)) + a2)) - x20_2))) = false := decide_eq_false c88
                 clear c88
                 as_aux_lemma =>
                  obtain rfl := Option.some.inj H
                  obtain ⟨Ao96, co96, eo96⟩ := Kd.R_slice HO_0.out
                  subst eo96
                  go_wp2_with (first | ((with_reducible refine gate_callee (f := 60) rfl ?_); refine goesL_ (some 205) rfl rfl Try.func60 (by kernel_rfl) rfl #[.slice Ao96 x0_78.length co96, .int .i64 a1, .int .i64 x20_2, .int .i64 (wrap64 ((IntKind.u64.wrap (wrap64 (a1 + a3))) / 2)), .func (.func 52) #[] #[]] rfl aM ?_; (with_reducible refine (ih kj83 (by have := HJ59.out; have := HK2.out; have := HJ76.out; have := HJ78.out; have := HJ83.out; omega) (fun k_ => some k_ = (.slice Ao96 x0_78.length co96 : Value).ownBlock) (.slice Ao96 x0_78.length co96) x0_78 a1 x20_2 (wrap64 ((IntKind.u64.wrap (wrap64 (a1 + a3))) / 2))  t122 w0 _ ?side1 ?side2 A87.out).mono ?_); (case side1 => repeat (first | (with_reducible first | exact HB.out | apply below_alloc | apply pw_below_drewN | apply below_drew1) | exact HB.out)); (case side2 => exact Kd.R_tight rfl HO_0.out); rintro e w97 ⟨rfl, hy0, hb, hkp⟩; refine ⟨_, rfl, ?_⟩; have n0_ := Aside0.mk (Kd.R_reok rfl hy0 (fun k_ e_ => HO_0.out.1 k_ e_)); have n1_ := Aside0.mk (Kept.then_ (S := (fun k_ => P0_ k_)) (kP HK.out) hkp (fun k_ hs_ => (fun e_ => (HO_0.out.1 k_ e_.symm)) hs_)); have n2_ := Aside0.mk (hb); clear HO_0 HK HB; have HO_0 := n0_; have HK := n1_; have HB := n2_; clear n0_ n1_ n2_; (try clear hb); (try clear hkp); (try clear hy0)))
                  first | go_end0 | ((try simp only [Exit.inBlock, Exit.then]); refine bodyPost_ret (results_none rfl _ _ _) rfl ?_)
                  exact ⟨eW, by (with_reducible repeat (first | apply Kd.R_alloc | apply Kd.R_drewN | apply Kd.R_drew)); exact HO_0.out, hB0 HB.out, kP HK.out⟩
               ·replace c86 := Bool.eq_false_iff.mpr c86
                subst c86
                have H1 : (if (wrap64 ((IntKind.u64.wrap (wrap64 (a1 + a3))) / 2)) < (wrap64 ((wrap64 ((wrap64 ((IntKind.u64.wrap (wrap64 (a1 + a3))) / 2)) + a2)) - x20_2)) then (if (wrap64 ((wrap64 ((wrap64 ((IntKind.u64.wrap (wrap64 (a1 + a3))) / 2)) + a2)) - x20_2)) < a3 then ((api_Term_60_at52.f kj83 x0_78 (wrap64 ((IntKind.u64.wrap (wrap64 (a1 + a3))) / 2)) (wrap64 ((wrap64 ((wrap64 ((IntKind.u64.wrap (wrap64 (a1 + a3))) / 2)) + a2)) - x20_2)) a3).bind fun t124 => (some t124)) else (some x0_78)) else (some x0_78)) = some r := by rw [if_neg (show ¬ (false = true) by decide)] at H; exact H
                clear H
                have H := H1
                clear H1
                by_cases c98 : (wrap64 ((IntKind.u64.wrap (wrap64 (a1 + a3))) / 2)) < (wrap64 ((wrap64 ((wrap64 ((IntKind.u64.wrap (wrap64 (a1 + a3))) / 2)) + a2)) - x20_2))
                ·rw [if_pos c98] at H
                 have c98b0 : decide ((wrap64 ((IntKind.u64.wrap (wrap64 (a1 + a3))) / 2)) < (wrap64 ((wrap64 ((wrap64 ((IntKind.u64.wrap (wrap64 (a1 + a3))) / 2)) + a2)) - x20_2))) = true := decide_eq_true c98
                 clear c98
                 by_cases c99 : (wrap64 ((wrap64 ((wrap64 ((IntKind.u64.wrap (wrap64 (a1 + a3))) / 2)) + a2)) - x20_2)) < a3
                 ·rw [if_pos c99] at H
                  have c99b0 : decide ((wrap64 ((wrap64 ((wrap64 ((IntKind.u64.wrap (wrap64 (a1 + a3))) / 2)) + a2)) - x20_2)) < a3) = true := decide_eq_true c99
                  clear c99
                  replace H := Option.bind_eq_some_iff.mp H
                  obtain ⟨t124, A1000, H⟩ := H
                  replace H : (some t124) = some r := H
                  have A100 := Aside0.mk A1000
                  clear A1000
                  as_aux_lemma =>
                   obtain rfl := Option.some.inj H
                   obtain ⟨Ao101, co101, eo101⟩ := Kd.R_slice HO_0.out
                   subst eo101
                   go_wp2_with (first | ((with_reducible refine gate_callee (f := 60) rfl ?_); refine goesL_ (some 219) rfl rfl Try.func60 (by kernel_rfl) rfl #[.slice Ao101 x0_78.length co101, .int .i64 (wrap64 ((IntKind.u64.wrap (wrap64 (a1 + a3))) / 2)), .int .i64 (wrap64 ((wrap64 ((wrap64 ((IntKind.u64.wrap (wrap64 (a1 + a3))) / 2)) + a2)) - x20_2)), .int .i64 a3, .func (.func 52) #[] #[]] rfl aM ?_; (with_reducible refine (ih kj83 (by have := HJ59.out; have := HK2.out; have := HJ76.out; have := HJ78.out; have := HJ83.out; omega) (fun k_ => some k_ = (.slice Ao101 x0_78.length co101 : Value).ownBlock) (.slice Ao101 x0_78.length co101) x0_78 (wrap64 ((IntKind.u64.wrap (wrap64 (a1 + a3))) / 2)) (wrap64 ((wrap64 ((wrap64 ((IntKind.u64.wrap (wrap64 (a1 + a3))) / 2)) + a2)) - x20_2)) a3  t124 w0 _ ?side1 ?side2 A100.out).mono ?_); (case side1 => repeat (first | (with_reducible first | exact HB.out | apply below_alloc | apply pw_below_drewN | apply below_drew1) | exact HB.out)); (case side2 => exact Kd.R_tight rfl HO_0.out); rintro e w102 ⟨rfl, hy0, hb, hkp⟩; refine ⟨_, rfl, ?_⟩; have n0_ := Aside0.mk (Kd.R_reok rfl hy0 (fun k_ e_ => HO_0.out.1 k_ e_)); have n1_ := Aside0.mk (Kept.then_ (S := (fun k_ => P0_ k_)) (kP HK.out) hkp (fun k_ hs_ => (fun e_ => (HO_0.out.1 k_ e_.symm)) hs_)); have n2_ := Aside0.mk (hb); clear HO_0 HK HB; have HO_0 := n0_; have HK := n1_; have HB := n2_; clear n0_ n1_ n2_; (try clear hb); (try clear hkp); (try clear hy0)))
                   first | go_end0 | ((try simp only [Exit.inBlock, Exit.then]); refine bodyPost_ret (results_none rfl _ _ _) rfl ?_)
                   exact ⟨eW, by (with_reducible repeat (first | apply Kd.R_alloc | apply Kd.R_drewN | apply Kd.R_drew)); exact HO_0.out, hB0 HB.out, kP HK.out⟩
                 ·rw [if_neg c99] at H
                  have c99b0 : decide ((wrap64 ((wrap64 ((wrap64 ((IntKind.u64.wrap (wrap64 (a1 + a3))) / 2)) + a2)) - x20_2)) < a3) = false := decide_eq_false c99
                  clear c99
                  as_aux_lemma =>
                   obtain rfl := Option.some.inj H
                   go_wp2
                   first | go_end0 | ((try simp only [Exit.inBlock, Exit.then]); refine bodyPost_ret (results_none rfl _ _ _) rfl ?_)
                   exact ⟨eW, by (with_reducible repeat (first | apply Kd.R_alloc | apply Kd.R_drewN | apply Kd.R_drew)); exact HO_0.out, hB0 HB.out, kP HK.out⟩
                ·rw [if_neg c98] at H
                 have c98b0 : decide ((wrap64 ((IntKind.u64.wrap (wrap64 (a1 + a3))) / 2)) < (wrap64 ((wrap64 ((wrap64 ((IntKind.u64.wrap (wrap64 (a1 + a3))) / 2)) + a2)) - x20_2))) = false := decide_eq_false c98
                 clear c98
                 as_aux_lemma =>
                  obtain rfl := Option.some.inj H
                  go_wp2
                  first | go_end0 | ((try simp only [Exit.inBlock, Exit.then]); refine bodyPost_ret (results_none rfl _ _ _) rfl ?_)
                  exact ⟨eW, by (with_reducible repeat (first | apply Kd.R_alloc | apply Kd.R_drewN | apply Kd.R_drew)); exact HO_0.out, hB0 HB.out, kP HK.out⟩
mutual
def api_Term_58_at52.l0 : Nat → List (S44) → Int → Int → Int → Int → Option ((List (S44)))
  | 0, _, _, _, _, _ => none
  | k + 1, x0, x1, x6, x7, x8 => if x8 ≤ x1 then ((api_Term_59_at52.f k x0 x7 x8).bind fun t125 => (api_Term_58_at52.l0 k t125 x1 x6 x8 (wrap64 (x8 + x6)))) else ((api_Term_59_at52.f k x0 x7 x1).bind fun t126 => (api_Term_58_at52.l1 k t126 x1 x6))
def api_Term_58_at52.l1 : Nat → List (S44) → Int → Int → Option ((List (S44)))
  | 0, _, _, _ => none
  | k + 1, x0, x1, x6 => if x6 < x1 then (api_Term_58_at52.l2 k x0 x1 x6 0 (wrap64 (2 * x6))) else (some x0)
def api_Term_58_at52.l2 : Nat → List (S44) → Int → Int → Int → Int → Option ((List (S44)))
  | 0, _, _, _, _, _ => none
  | k + 1, x0, x1, x6, x7, x8 => if x8 ≤ x1 then ((api_Term_60_at52.f k x0 x7 (wrap64 (x7 + x6)) x8).bind fun t127 => (api_Term_58_at52.l2 k t127 x1 x6 x8 (wrap64 (x8 + (wrap64 (2 * x6)))))) else (if (wrap64 (x7 + x6)) < x1 then ((api_Term_60_at52.f k x0 x7 (wrap64 (x7 + x6)) x1).bind fun t128 => (api_Term_58_at52.l1 k t128 x1 (wrap64 (x6 * 2)))) else (api_Term_58_at52.l1 k x0 x1 (wrap64 (x6 * 2))))
end
def api_Term_58_at52.f (k : Nat) (l0 : List (S44)) (a1 : Int)  : Option ((List (S44))) := api_Term_58_at52.l0 k l0 a1 20 0 20
theorem api_Term_58_at52.mono_l : ∀ k, (∀ y0 y1 y2 y3 y4, LeO (api_Term_58_at52.l0 k y0 y1 y2 y3 y4) (api_Term_58_at52.l0 (k + 1) y0 y1 y2 y3 y4)) ∧ (∀ y0 y1 y2, LeO (api_Term_58_at52.l1 k y0 y1 y2) (api_Term_58_at52.l1 (k + 1) y0 y1 y2)) ∧ (∀ y0 y1 y2 y3 y4, LeO (api_Term_58_at52.l2 k y0 y1 y2 y3 y4) (api_Term_58_at52.l2 (k + 1) y0 y1 y2 y3 y4))
  | 0 => ⟨fun _ _ _ _ _ r h => by simp [api_Term_58_at52.l0] at h, fun _ _ _ r h => by simp [api_Term_58_at52.l1] at h, fun _ _ _ _ _ r h => by simp [api_Term_58_at52.l2] at h⟩
  | k + 1 => by
   obtain ⟨ih0, ih1, ih2⟩ := api_Term_58_at52.mono_l k
   refine ⟨?_, ?_, ?_⟩
   ·intro y0 y1 y2 y3 y4
    unfold api_Term_58_at52.l0
    repeat' first
    | (with_reducible exact ih0 _ _ _ _ _)
    | (with_reducible exact ih1 _ _ _)
    | (with_reducible exact ih2 _ _ _ _ _)
    | (with_reducible exact api_Term_59_at52.mono _ _ _ _)
    | (with_reducible exact api_Term_60_at52.mono _ _ _ _ _)
    | (with_reducible exact LeO.refl _)
    | (with_reducible exact LeO.none _)
    | (with_reducible refine LeO.ite ?_ ?_)
    | (with_reducible refine LeO.bind ?_ (fun _ => ?_))
    | exact ih0 _ _ _ _ _
    | exact ih1 _ _ _
    | exact ih2 _ _ _ _ _
    | exact api_Term_59_at52.mono _ _ _ _
    | exact api_Term_60_at52.mono _ _ _ _ _
    | exact LeO.none _
    | refine LeO.ite ?_ ?_
    | refine LeO.bind ?_ (fun _ => ?_)
   ·intro y0 y1 y2
    unfold api_Term_58_at52.l1
    repeat' first
    | (with_reducible exact ih0 _ _ _ _ _)
    | (with_reducible exact ih1 _ _ _)
    | (with_reducible exact ih2 _ _ _ _ _)
    | (with_reducible exact api_Term_59_at52.mono _ _ _ _)
    | (with_reducible exact api_Term_60_at52.mono _ _ _ _ _)
    | (with_reducible exact LeO.refl _)
    | (with_reducible exact LeO.none _)
    | (with_reducible refine LeO.ite ?_ ?_)
    | (with_reducible refine LeO.bind ?_ (fun _ => ?_))
    | exact ih0 _ _ _ _ _
    | exact ih1 _ _ _
    | exact ih2 _ _ _ _ _
    | exact api_Term_59_at52.mono _ _ _ _
    | exact api_Term_60_at52.mono _ _ _ _ _
    | exact LeO.none _
    | refine LeO.ite ?_ ?_
    | refine LeO.bind ?_ (fun _ => ?_)
   ·intro y0 y1 y2 y3 y4
    unfold api_Term_58_at52.l2
    repeat' first
    | (with_reducible exact ih0 _ _ _ _ _)
    | (with_reducible exact ih1 _ _ _)
    | (with_reducible exact ih2 _ _ _ _ _)
    | (with_reducible exact api_Term_59_at52.mono _ _ _ _)
    | (with_reducible exact api_Term_60_at52.mono _ _ _ _ _)
    | (with_reducible exact LeO.refl _)
    | (with_reducible exact LeO.none _)
    | (with_reducible refine LeO.ite ?_ ?_)
    | (with_reducible refine LeO.bind ?_ (fun _ => ?_))
    | exact ih0 _ _ _ _ _
    | exact ih1 _ _ _
    | exact ih2 _ _ _ _ _
    | exact api_Term_59_at52.mono _ _ _ _
    | exact api_Term_60_at52.mono _ _ _ _ _
    | exact LeO.none _
    | refine LeO.ite ?_ ?_
    | refine LeO.bind ?_ (fun _ => ?_)
theorem api_Term_58_at52.mono : ∀ a0 a1 k, LeO (api_Term_58_at52.f k a0 a1) (api_Term_58_at52.f (k + 1) a0 a1) := by
  intro a0 a1 k
  obtain ⟨ih0, ih1, ih2⟩ := api_Term_58_at52.mono_l k
  unfold api_Term_58_at52.f
  repeat' first
    | (with_reducible exact ih0 _ _ _ _ _)
    | (with_reducible exact ih1 _ _ _)
    | (with_reducible exact ih2 _ _ _ _ _)
    | (with_reducible exact api_Term_59_at52.mono _ _ _ _)
    | (with_reducible exact api_Term_60_at52.mono _ _ _ _ _)
    | (with_reducible exact LeO.refl _)
    | (with_reducible exact LeO.none _)
    | (with_reducible refine LeO.ite ?_ ?_)
    | (with_reducible refine LeO.bind ?_ (fun _ => ?_))
    | exact ih0 _ _ _ _ _
    | exact ih1 _ _ _
    | exact ih2 _ _ _ _ _
    | exact api_Term_59_at52.mono _ _ _ _
    | exact api_Term_60_at52.mono _ _ _ _ _
    | exact LeO.none _
    | refine LeO.ite ?_ ?_
    | refine LeO.bind ?_ (fun _ => ?_)
set_option maxHeartbeats 8000000 in
set_option maxRecDepth 100000 in
theorem api_Term_58_at52.calls (k : Nat) (P0_ : Nat → Prop) (u9000_ : Value) (l0 : List (S44)) (a1 : Int)  (r : List (S44)) (w0 w : World) (hB : Below w0.heap.size w0 w) (ho0 : Kd.R k44 44 w w0.heap.size P0_ u9000_ l0) (h : api_Term_58_at52.f k l0 a1 = some r) :
   Calls Try.prog 58 #[u9000_, .int .i64 a1, .func (.func 52) #[] #[]] w fun e w' => e = .returned (.tuple #[]) ∧ Kd.R k44 44 w' w0.heap.size (fun k_ => (P0_ k_ ∨ w.heap.size ≤ k_)) u9000_ r ∧ Below w0.heap.size w0 w' ∧ Kept w w' (fun k_ => P0_ k_) := by
  have HO0 := Aside0.mk (show Kd.R k44 44 w w0.heap.size (fun k_ => (P0_ k_ ∨ w.heap.size ≤ k_)) u9000_ l0 from Kd.R_mono ho0 (fun k_ hk => (.inl hk)))
  have HK := Aside0.mk (Kept.refl w (fun k_ => P0_ k_))
  have HW0 := Aside0.mk hB.size
  have HB := Aside0.mk hB
  clear hB
  have H : (api_Term_58_at52.l0 k l0 a1 20 0 20) = some r := h
  clear h
  have H' := Aside0.mk H
  clear H
  go_enter Try.func58, Try.ntmps58
  go_wp2
  go_loopg [7, 8] k (fun kq v7 v8 w' => ∃ (x0_1 : List (S44)) (x7_1 : Int) (x8_1 : Int), v7 = .int .i64 x7_1 ∧ v8 = .int .i64 x8_1 ∧ Aside0 (api_Term_58_at52.l0 kq x0_1 a1 20 x7_1 x8_1 = some r) ∧ Aside0 (kq ≤ k) ∧ Aside0 (Kd.R k44 44 w' w0.heap.size (fun k_ => (P0_ k_ ∨ w.heap.size ≤ k_)) u9000_ x0_1) ∧ Aside0 (Kept w w' (fun k_ => P0_ k_)) ∧ Aside0 (Below w0.heap.size w0 w'))
  case atStart => exact ⟨(l0), (0), (20), rS, rS, H', ⟨Nat.le_refl _⟩, ⟨rK HO0.out⟩, ⟨kP HK.out⟩, ⟨hB0 HB.out⟩⟩
  case round =>
   clear H'
   obtain ⟨x0_1, x7_1, x8_1, rfl, rfl, HA, HK1, HO_0, HK, HB⟩ := hrel
   cases gk with
   | zero => exact absurd HA.out (by simp [api_Term_58_at52.l0])
   | succ k1 =>
    have H := HA.out
    clear HA
    simp only [api_Term_58_at52.l0] at H
    by_cases c4 : x8_1 ≤ a1
    ·rw [if_pos c4] at H
     have c4b0 : decide (x8_1 ≤ a1) = true := decide_eq_true c4
     clear c4
     replace H := Option.bind_eq_some_iff.mp H
     obtain ⟨t125, A50, H⟩ := H
     replace H : (api_Term_58_at52.l0 k1 t125 a1 20 x8_1 (wrap64 (x8_1 + 20))) = some r := H
     have A5 := Aside0.mk A50
     clear A50
     have H' := Aside0.mk H
     clear H
     obtain ⟨Ao6, co6, eo6⟩ := Kd.R_slice HO_0.out
     subst eo6
     go_wp2_with (first | ((with_reducible refine gate_callee (f := 59) rfl ?_); refine goesL_ (some 18) rfl rfl Try.func59 (by kernel_rfl) rfl #[.slice Ao6 x0_1.length co6, .int .i64 x7_1, .int .i64 x8_1, .func (.func 52) #[] #[]] rfl aM ?_; (with_reducible refine (api_Term_59_at52.calls k1 (fun k_ => some k_ = (.slice Ao6 x0_1.length co6 : Value).ownBlock) (.slice Ao6 x0_1.length co6) x0_1 x7_1 x8_1  t125 w0 _ ?side1 ?side2 A5.out).mono ?_); (case side1 => repeat (first | (with_reducible first | exact HB.out | apply below_alloc | apply pw_below_drewN | apply below_drew1) | exact HB.out)); (case side2 => exact Kd.R_tight rfl HO_0.out); rintro e w7 ⟨rfl, hy0, hb, hkp⟩; refine ⟨_, rfl, ?_⟩; have n0_ := Aside0.mk (Kd.R_reok rfl hy0 (fun k_ e_ => HO_0.out.1 k_ e_)); have n1_ := Aside0.mk (Kept.then_ (S := (fun k_ => P0_ k_)) (kP HK.out) hkp (fun k_ hs_ => (fun e_ => (HO_0.out.1 k_ e_.symm)) hs_)); have n2_ := Aside0.mk (hb); clear HO_0 HK HB; have HO_0 := n0_; have HK := n1_; have HB := n2_; clear n0_ n1_ n2_; (try clear hb); (try clear hkp); (try clear hy0)))
     go_roundg k1
     case measure => have := HK1.out; omega
     case rel => exact ⟨(t125), (x8_1), (wrap64 (x8_1 + 20)), rS, rS, H', ⟨by have := HK1.out; omega⟩, ⟨rK HO_0.out⟩, ⟨kP HK.out⟩, ⟨hB0 HB.out⟩⟩
    ·rw [if_neg c4] at H
     have c4b0 : decide (x8_1 ≤ a1) = false := decide_eq_false c4
     clear c4
     replace H := Option.bind_eq_some_iff.mp H
     obtain ⟨t126, A80, H⟩ := H
     replace H : (api_Term_58_at52.l1 k1 t126 a1 20) = some r := H
     have A8 := Aside0.mk A80
     clear A80
     have H' := Aside0.mk H
     clear H
     obtain ⟨Ao9, co9, eo9⟩ := Kd.R_slice HO_0.out
     subst eo9
     go_wp2_with (first | ((with_reducible refine gate_callee (f := 59) rfl ?_); refine goesL_ (some 27) rfl rfl Try.func59 (by kernel_rfl) rfl #[.slice Ao9 x0_1.length co9, .int .i64 x7_1, .int .i64 a1, .func (.func 52) #[] #[]] rfl aM ?_; (with_reducible refine (api_Term_59_at52.calls k1 (fun k_ => some k_ = (.slice Ao9 x0_1.length co9 : Value).ownBlock) (.slice Ao9 x0_1.length co9) x0_1 x7_1 a1  t126 w0 _ ?side1 ?side2 A8.out).mono ?_); (case side1 => repeat (first | (with_reducible first | exact HB.out | apply below_alloc | apply pw_below_drewN | apply below_drew1) | exact HB.out)); (case side2 => exact Kd.R_tight rfl HO_0.out); rintro e w10 ⟨rfl, hy0, hb, hkp⟩; refine ⟨_, rfl, ?_⟩; have n0_ := Aside0.mk (Kd.R_reok rfl hy0 (fun k_ e_ => HO_0.out.1 k_ e_)); have n1_ := Aside0.mk (Kept.then_ (S := (fun k_ => P0_ k_)) (kP HK.out) hkp (fun k_ hs_ => (fun e_ => (HO_0.out.1 k_ e_.symm)) hs_)); have n2_ := Aside0.mk (hb); clear HO_0 HK HB; have HO_0 := n0_; have HK := n1_; have HB := n2_; clear n0_ n1_ n2_; (try clear hb); (try clear hkp); (try clear hy0)))
     (try simp only [Act.put, List.setIfInBounds_toArray, List.set_cons_zero, List.set_cons_succ])
     go_loopg [6] k1 (fun kq v6 w' => ∃ (x0_2 : List (S44)) (x6_2 : Int), v6 = .int .i64 x6_2 ∧ Aside0 (api_Term_58_at52.l1 kq x0_2 a1 x6_2 = some r) ∧ Aside0 (kq ≤ k1) ∧ Aside0 (Kd.R k44 44 w' w0.heap.size (fun k_ => (P0_ k_ ∨ w.heap.size ≤ k_)) (.slice Ao9 x0_1.length co9) x0_2) ∧ Aside0 (Kept w w' (fun k_ => P0_ k_)) ∧ Aside0 (Below w0.heap.size w0 w'))
     case atStart => exact ⟨(t126), (20), rS, H', ⟨Nat.le_refl _⟩, ⟨rK HO_0.out⟩, ⟨kP HK.out⟩, ⟨hB0 HB.out⟩⟩
     case round =>
      clear H'
      try clear c4b0
      obtain ⟨x0_2, x6_2, rfl, HA, HK2, HO_0, HK, HB⟩ := hrel
      have hl0_2 := (Kd.R_reads' HO_0.out).1
      rw [hl0_2] at HO_0
      (try simp only [hl0_2])
      cases gk with
      | zero => exact absurd HA.out (by simp [api_Term_58_at52.l1])
      | succ k2 =>
       have H := HA.out
       clear HA
       simp only [api_Term_58_at52.l1] at H
       by_cases c11 : x6_2 < a1
       ·rw [if_pos c11] at H
        have c11b0 : decide (x6_2 < a1) = true := decide_eq_true c11
        clear c11
        have H' := Aside0.mk H
        clear H
        go_wp2
        go_loopg [7, 8] k2 (fun kq v7 v8 w' => ∃ (x0_3 : List (S44)) (x7_3 : Int) (x8_3 : Int), v7 = .int .i64 x7_3 ∧ v8 = .int .i64 x8_3 ∧ Aside0 (api_Term_58_at52.l2 kq x0_3 a1 x6_2 x7_3 x8_3 = some r) ∧ Aside0 (kq ≤ k2) ∧ Aside0 (Kd.R k44 44 w' w0.heap.size (fun k_ => (P0_ k_ ∨ w.heap.size ≤ k_)) (.slice Ao9 x0_2.length co9) x0_3) ∧ Aside0 (Kept w w' (fun k_ => P0_ k_)) ∧ Aside0 (Below w0.heap.size w0 w'))
        case atStart => exact ⟨(x0_2), (0), (wrap64 (2 * x6_2)), rS, rS, H', ⟨Nat.le_refl _⟩, ⟨by (try simp only [hl0_2]); (with_reducible repeat (first | apply Kd.R_alloc | apply Kd.R_drewN | apply Kd.R_drew)); exact HO_0.out⟩, ⟨kP HK.out⟩, ⟨hB0 HB.out⟩⟩
        case round =>
         clear H'
         try clear c11b0
         obtain ⟨x0_3, x7_3, x8_3, rfl, rfl, HA, HK3, HO_0, HK, HB⟩ := hrel
         have hl0_3 := (Kd.R_reads' HO_0.out).1
         rw [hl0_3] at HO_0
         (try simp only [hl0_3])
         cases gk with
         | zero => exact absurd HA.out (by simp [api_Term_58_at52.l2])
         | succ k3 =>
          have H := HA.out
          clear HA
          simp only [api_Term_58_at52.l2] at H
          by_cases c12 : x8_3 ≤ a1
          ·rw [if_pos c12] at H
           have c12b0 : decide (x8_3 ≤ a1) = true := decide_eq_true c12
           clear c12
           replace H := Option.bind_eq_some_iff.mp H
           obtain ⟨t127, A130, H⟩ := H
           replace H : (api_Term_58_at52.l2 k3 t127 a1 x6_2 x8_3 (wrap64 (x8_3 + (wrap64 (2 * x6_2))))) = some r := H
           have A13 := Aside0.mk A130
           clear A130
           have H' := Aside0.mk H
           clear H
           go_wp2_with (first | ((with_reducible refine gate_callee (f := 60) rfl ?_); refine goesL_ (some 43) rfl rfl Try.func60 (by kernel_rfl) rfl #[.slice Ao9 x0_3.length co9, .int .i64 x7_3, .int .i64 (wrap64 (x7_3 + x6_2)), .int .i64 x8_3, .func (.func 52) #[] #[]] rfl aM ?_; (with_reducible refine (api_Term_60_at52.calls k3 (fun k_ => some k_ = (.slice Ao9 x0_3.length co9 : Value).ownBlock) (.slice Ao9 x0_3.length co9) x0_3 x7_3 (wrap64 (x7_3 + x6_2)) x8_3  t127 w0 _ ?side1 ?side2 A13.out).mono ?_); (case side1 => repeat (first | (with_reducible first | exact HB.out | apply below_alloc | apply pw_below_drewN | apply below_drew1) | exact HB.out)); (case side2 => exact Kd.R_tight rfl HO_0.out); rintro e w14 ⟨rfl, hy0, hb, hkp⟩; refine ⟨_, rfl, ?_⟩; have n0_ := Aside0.mk (Kd.R_reok rfl hy0 (fun k_ e_ => HO_0.out.1 k_ e_)); have n1_ := Aside0.mk (Kept.then_ (S := (fun k_ => P0_ k_)) (kP HK.out) hkp (fun k_ hs_ => (fun e_ => (HO_0.out.1 k_ e_.symm)) hs_)); have n2_ := Aside0.mk (hb); clear HO_0 HK HB; have HO_0 := n0_; have HK := n1_; have HB := n2_; clear n0_ n1_ n2_; (try clear hb); (try clear hkp); (try clear hy0)))
           (try simp only [← hl0_3])
           go_roundg k3
           case measure => have := HK1.out; have := HK2.out; have := HK3.out; omega
           case rel => exact ⟨(t127), (x8_3), (wrap64 (x8_3 + (wrap64 (2 * x6_2)))), rS, rS, H', ⟨by have := HK1.out; have := HK2.out; have := HK3.out; omega⟩, ⟨by (try simp only [hl0_2]); (try simp only [hl0_3]); (with_reducible repeat (first | apply Kd.R_alloc | apply Kd.R_drewN | apply Kd.R_drew)); exact HO_0.out⟩, ⟨kP HK.out⟩, ⟨hB0 HB.out⟩⟩
          ·rw [if_neg c12] at H
           have c12b0 : decide (x8_3 ≤ a1) = false := decide_eq_false c12
           clear c12
           by_cases c15 : (wrap64 (x7_3 + x6_2)) < a1
           ·rw [if_pos c15] at H
            have c15b0 : decide ((wrap64 (x7_3 + x6_2)) < a1) = true := decide_eq_true c15
            clear c15
            replace H := Option.bind_eq_some_iff.mp H
            obtain ⟨t128, A160, H⟩ := H
            replace H : (api_Term_58_at52.l1 k3 t128 a1 (wrap64 (x6_2 * 2))) = some r := H
            have A16 := Aside0.mk A160
            clear A160
            have H' := Aside0.mk H
            clear H
            go_wp2_with (first | ((with_reducible refine gate_callee (f := 60) rfl ?_); refine goesL_ (some 60) rfl rfl Try.func60 (by kernel_rfl) rfl #[.slice Ao9 x0_3.length co9, .int .i64 x7_3, .int .i64 (wrap64 (x7_3 + x6_2)), .int .i64 a1, .func (.func 52) #[] #[]] rfl aM ?_; (with_reducible refine (api_Term_60_at52.calls k3 (fun k_ => some k_ = (.slice Ao9 x0_3.length co9 : Value).ownBlock) (.slice Ao9 x0_3.length co9) x0_3 x7_3 (wrap64 (x7_3 + x6_2)) a1  t128 w0 _ ?side1 ?side2 A16.out).mono ?_); (case side1 => repeat (first | (with_reducible first | exact HB.out | apply below_alloc | apply pw_below_drewN | apply below_drew1) | exact HB.out)); (case side2 => exact Kd.R_tight rfl HO_0.out); rintro e w17 ⟨rfl, hy0, hb, hkp⟩; refine ⟨_, rfl, ?_⟩; have n0_ := Aside0.mk (Kd.R_reok rfl hy0 (fun k_ e_ => HO_0.out.1 k_ e_)); have n1_ := Aside0.mk (Kept.then_ (S := (fun k_ => P0_ k_)) (kP HK.out) hkp (fun k_ hs_ => (fun e_ => (HO_0.out.1 k_ e_.symm)) hs_)); have n2_ := Aside0.mk (hb); clear HO_0 HK HB; have HO_0 := n0_; have HK := n1_; have HB := n2_; clear n0_ n1_ n2_; (try clear hb); (try clear hkp); (try clear hy0)))
            (try simp only [← hl0_2, ← hl0_3])
            go_roundg k3
            case measure => have := HK1.out; have := HK2.out; have := HK3.out; omega
            case rel => exact ⟨(t128), (wrap64 (x6_2 * 2)), rS, H', ⟨by have := HK1.out; have := HK2.out; have := HK3.out; omega⟩, ⟨by (try simp only [hl0_2]); (try simp only [hl0_3]); (with_reducible repeat (first | apply Kd.R_alloc | apply Kd.R_drewN | apply Kd.R_drew)); exact HO_0.out⟩, ⟨kP HK.out⟩, ⟨hB0 HB.out⟩⟩
           ·rw [if_neg c15] at H
            have c15b0 : decide ((wrap64 (x7_3 + x6_2)) < a1) = false := decide_eq_false c15
            clear c15
            have H' := Aside0.mk H
            clear H
            go_wp2
            (try simp only [← hl0_2, ← hl0_3])
            go_roundg k3
            case measure => have := HK1.out; have := HK2.out; have := HK3.out; omega
            case rel => exact ⟨(x0_3), (wrap64 (x6_2 * 2)), rS, H', ⟨by have := HK1.out; have := HK2.out; have := HK3.out; omega⟩, ⟨by (try simp only [hl0_2]); (try simp only [hl0_3]); (with_reducible repeat (first | apply Kd.R_alloc | apply Kd.R_drewN | apply Kd.R_drew)); exact HO_0.out⟩, ⟨kP HK.out⟩, ⟨hB0 HB.out⟩⟩
       ·rw [if_neg c11] at H
        have c11b0 : decide (x6_2 < a1) = false := decide_eq_false c11
        clear c11
        obtain rfl := Option.some.inj H
        go_wp2
        first | go_end0 | ((try simp only [Exit.inBlock, Exit.then]); refine bodyPost_ret (results_none rfl _ _ _) rfl ?_)
        exact ⟨eW, (by first | exact (rK HO_0.out) | (simp only [hl0_2]; exact (rK HO_0.out))), hB0 HB.out, kP HK.out⟩
def api_Term_51_at52.f (k : Nat) (l0 : List (S44))  : Option ((List (S44))) := (api_Term_58_at52.f k l0 (l0.length : Int)).bind fun t101 => (some t101)
theorem api_Term_51_at52.mono : ∀ a0 k, LeO (api_Term_51_at52.f k a0) (api_Term_51_at52.f (k + 1) a0) := by
  intro a0 k
  unfold api_Term_51_at52.f
  repeat' first
    | (with_reducible exact api_Term_58_at52.mono _ _ _)
    | (with_reducible exact LeO.refl _)
    | (with_reducible exact LeO.none _)
    | (with_reducible refine LeO.ite ?_ ?_)
    | (with_reducible refine LeO.bind ?_ (fun _ => ?_))
    | exact api_Term_58_at52.mono _ _ _
    | exact LeO.none _
    | refine LeO.ite ?_ ?_
    | refine LeO.bind ?_ (fun _ => ?_)
set_option maxHeartbeats 8000000 in
set_option maxRecDepth 100000 in
theorem api_Term_51_at52.calls (k : Nat) (P0_ : Nat → Prop) (u9000_ : Value) (l0 : List (S44))  (r : List (S44)) (w0 w : World) (hB : Below w0.heap.size w0 w) (ho0 : Kd.R k44 44 w w0.heap.size P0_ u9000_ l0) (h : api_Term_51_at52.f k l0 = some r) :
   Calls Try.prog 51 #[u9000_, .func (.func 52) #[] #[]] w fun e w' => e = .returned (.tuple #[]) ∧ Kd.R k44 44 w' w0.heap.size (fun k_ => (P0_ k_ ∨ w.heap.size ≤ k_)) u9000_ r ∧ Below w0.heap.size w0 w' ∧ Kept w w' (fun k_ => P0_ k_) := by
  have HO0 := Aside0.mk (show Kd.R k44 44 w w0.heap.size (fun k_ => (P0_ k_ ∨ w.heap.size ≤ k_)) u9000_ l0 from Kd.R_mono ho0 (fun k_ hk => (.inl hk)))
  have HK := Aside0.mk (Kept.refl w (fun k_ => P0_ k_))
  have HW0 := Aside0.mk hB.size
  have HB := Aside0.mk hB
  clear hB
  have H : ((api_Term_58_at52.f k l0 (l0.length : Int)).bind fun t101 => (some t101)) = some r := h
  clear h
  replace H := Option.bind_eq_some_iff.mp H
  obtain ⟨t101, A30, H⟩ := H
  replace H : (some t101) = some r := H
  have A3 := Aside0.mk A30
  clear A30
  obtain rfl := Option.some.inj H
  obtain ⟨Ao4, co4, eo4⟩ := Kd.R_slice HO0.out
  subst eo4
  go_enter Try.func51, Try.ntmps51
  go_wp2_with (first | ((with_reducible refine gate_callee (f := 58) rfl ?_); refine goesL_ (some 8) rfl rfl Try.func58 (by kernel_rfl) rfl #[.slice Ao4 l0.length co4, .int .i64 (l0.length : Int), .func (.func 52) #[] #[]] rfl aM ?_; (with_reducible refine (api_Term_58_at52.calls k (fun k_ => some k_ = (.slice Ao4 l0.length co4 : Value).ownBlock) (.slice Ao4 l0.length co4) l0 (l0.length : Int)  t101 w0 _ ?side1 ?side2 A3.out).mono ?_); (case side1 => repeat (first | (with_reducible first | exact HB.out | apply below_alloc | apply pw_below_drewN | apply below_drew1) | exact HB.out)); (case side2 => exact Kd.R_tight rfl HO0.out); rintro e w5 ⟨rfl, hy0, hb, hkp⟩; refine ⟨_, rfl, ?_⟩; have n0_ := Aside0.mk (Kd.R_reok rfl hy0 (fun k_ e_ => HO0.out.1 k_ e_)); have n1_ := Aside0.mk (Kept.then_ (S := (fun k_ => P0_ k_)) (kP HK.out) hkp (fun k_ hs_ => (fun e_ => (HO0.out.1 k_ e_.symm)) hs_)); have n2_ := Aside0.mk (hb); clear HO0 HK HB; have HO0 := n0_; have HK := n1_; have HB := n2_; clear n0_ n1_ n2_; (try clear hb); (try clear hkp); (try clear hy0)))
  first | go_end0 | ((try simp only [Exit.inBlock, Exit.then]); refine bodyPost_ret (results_none rfl _ _ _) rfl ?_)
  exact ⟨eW, by (with_reducible repeat (first | apply Kd.R_alloc | apply Kd.R_drewN | apply Kd.R_drew)); exact HO0.out, hB0 HB.out, kP HK.out⟩
def fact_gather_2.f (a0_0 : Int) (a0_1 : Int) : Option (Bool) := some (a0_1 == 0)
set_option maxHeartbeats 8000000 in
set_option maxRecDepth 100000 in
theorem fact_gather_2.calls (a0_0 : Int) (a0_1 : Int) (r : Bool) (w : World) (h : fact_gather_2.f a0_0 a0_1 = some r) :
   Calls Try.prog 54 #[.agg #[.int .i64 a0_0, .int .i64 a0_1]] w fun e w' => e = .returned (.bool r) ∧ Below w.heap.size w w' := by
  have hu44 := Try.underlying44
  have HB := Aside0.mk (Below.refl w.heap.size w)
  have H : (some (a0_1 == 0)) = some r := h
  clear h
  obtain rfl := Option.some.inj H
  go_enter Try.func54, Try.ntmps54
  go_wp2_with (first | ((with_reducible refine gate_dst (N := 1) rfl ?_); refine box_event ?hg (N := 1) ?hd (cs := #[.int .i64 a0_0, .int .i64 a0_1]) (t := 44) ?hr ?_; (case hd => rfl); (case hg => rfl); (case hr => first | (go_simp; done) | (go_simp; rfl)); intro gb101 hg w2 hbox hb; have n0_ := Aside0.mk (below_step (hB0 HB.out) hb); have n1_ := Aside0.mk (hbox); have n2_ := Aside0.mk ((by rw [hg]; exact (below_size (hB0 HB.out)) : w.heap.size ≤ gb101)); have n3_ := Aside0.mk ((by rw [hg]; exact (below_size (hB0 HB.out)) : w.heap.size ≤ gb101)); clear HB; have HB := n0_; have BK101 := n1_; have GW101 := n2_; have GE101 := n3_; clear n0_ n1_ n2_ n3_; clear hb hbox hg; have hcz3_0 : w2.cell? ⟨gb101, 0, none⟩ = some (.int .i64 a0_0) := (blk_cell BK101.out 0).trans rfl; have hcz3_1 : w2.cell? ⟨gb101, 1, none⟩ = some (.int .i64 a0_1) := (blk_cell BK101.out 1).trans rfl; have hfz3_0 := blk_frozen BK101.out 0; have hfz3_1 := blk_frozen BK101.out 1))
  go_ret
  exact ⟨eW, hB1 HB.out GE101.out⟩
def api_Term_49_at54.l0 : Nat → List (S44) → Int → Int → Option (Int)
  | 0, _, _, _ => none
  | k + 1, x0, x7, x8 => if x8 < x7 then (if 0 ≤ x8 then (if x8 < (x0.length : Int) then ((fact_gather_2.f ((rd_T44 x0 x8).f0) ((rd_T44 x0 x8).f1)).bind fun t103 => (if t103 = true then (some x8) else (api_Term_49_at54.l0 k x0 x7 (wrap64 (x8 + 1))))) else (none)) else (none)) else (some (-1))
def api_Term_49_at54.f (k : Nat) (l0 : List (S44))  : Option (Int) := api_Term_49_at54.l0 k l0 (l0.length : Int) 0
theorem api_Term_49_at54.mono_l : ∀ k, (∀ y0 y1 y2, LeO (api_Term_49_at54.l0 k y0 y1 y2) (api_Term_49_at54.l0 (k + 1) y0 y1 y2))
  | 0 => fun _ _ _ r h => by simp [api_Term_49_at54.l0] at h
  | k + 1 => by
   have ih0 := api_Term_49_at54.mono_l k
   ·intro y0 y1 y2
    unfold api_Term_49_at54.l0
    repeat' first
    | (with_reducible exact ih0 _ _ _)
    | (with_reducible exact LeO.refl _)
    | (with_reducible exact LeO.none _)
    | (with_reducible refine LeO.ite ?_ ?_)
    | (with_reducible refine LeO.bind ?_ (fun _ => ?_))
    | exact ih0 _ _ _
    | exact LeO.none _
    | refine LeO.ite ?_ ?_
    | refine LeO.bind ?_ (fun _ => ?_)
theorem api_Term_49_at54.mono : ∀ a0 k, LeO (api_Term_49_at54.f k a0) (api_Term_49_at54.f (k + 1) a0) := by
  intro a0 k
  have ih0 := api_Term_49_at54.mono_l k
  unfold api_Term_49_at54.f
  repeat' first
    | (with_reducible exact ih0 _ _ _)
    | (with_reducible exact LeO.refl _)
    | (with_reducible exact LeO.none _)
    | (with_reducible refine LeO.ite ?_ ?_)
    | (with_reducible refine LeO.bind ?_ (fun _ => ?_))
    | exact ih0 _ _ _
    | exact LeO.none _
    | refine LeO.ite ?_ ?_
    | refine LeO.bind ?_ (fun _ => ?_)
set_option maxHeartbeats 8000000 in
set_option maxRecDepth 100000 in
theorem api_Term_49_at54.calls (k : Nat) (A0 : Option Addr) (c0 : Nat) (l0 : List (S44))  (r : Int) (w : World) (hr0 : Kd.C k44 w A0 l0.length l0) (hc0 : l0.length ≤ c0) (h : api_Term_49_at54.f k l0 = some r) :
   Calls Try.prog 49 #[.slice A0 l0.length c0, .func (.func 54) #[] #[]] w fun e w' => e = .returned (.int .i64 r) ∧ Below w.heap.size w w' := by
  have hu44 := Try.underlying44
  have HR0 := Aside0.mk hr0
  have HC0 := Aside0.mk hc0
  clear hr0 hc0
  have HB := Aside0.mk (Below.refl w.heap.size w)
  have H : (api_Term_49_at54.l0 k l0 (l0.length : Int) 0) = some r := h
  clear h
  have H' := Aside0.mk H
  clear H
  go_enter Try.func49, Try.ntmps49
  go_wp2
  go_loopg [8] k (fun kq v8 w' => ∃ (x8_1 : Int), v8 = .int .i64 x8_1 ∧ Aside0 (api_Term_49_at54.l0 kq l0 (l0.length : Int) x8_1 = some r) ∧ Aside0 (kq ≤ k) ∧ Aside0 (Below w.heap.size w w'))
  case atStart => exact ⟨(0), rS, H', ⟨Nat.le_refl _⟩, ⟨hB0 HB.out⟩⟩
  case round =>
   clear H'
   obtain ⟨x8_1, rfl, HA, HK1, HB⟩ := hrel
   cases gk with
   | zero => exact absurd HA.out (by simp [api_Term_49_at54.l0])
   | succ k1 =>
    have H := HA.out
    clear HA
    simp only [api_Term_49_at54.l0] at H
    by_cases c3 : x8_1 < (l0.length : Int)
    ·rw [if_pos c3] at H
     have c3b0 : decide (x8_1 < (l0.length : Int)) = true := decide_eq_true c3
     clear c3
     by_cases c4 : 0 ≤ x8_1
     ·rw [if_pos c4] at H
      have c4b0 : decide (0 ≤ x8_1) = true := decide_eq_true c4
      clear c4
      by_cases c5 : x8_1 < (l0.length : Int)
      ·rw [if_pos c5] at H
       have c5b0 : decide (x8_1 < (l0.length : Int)) = true := decide_eq_true c5
       clear c5
       replace H := Option.bind_eq_some_iff.mp H
       obtain ⟨t103, A60, H⟩ := H
       replace H : (if t103 = true then (some x8_1) else (api_Term_49_at54.l0 k1 l0 (l0.length : Int) (wrap64 (x8_1 + 1)))) = some r := H
       have A6 := Aside0.mk A60
       clear A60
       by_cases c7 : t103 = true
       ·subst c7
        have H1 : (some x8_1) = some r := by rw [if_pos rfl] at H; exact H
        clear H
        have H := H1
        clear H1
        obtain rfl := Option.some.inj H
        have p102 : 0 ≤ (x8_1 : Int) := oD
        have q102 : x8_1 < (l0.length : Int) := oD
        obtain ⟨ad102, e102, hx102_0, hx102_1⟩ := at_T44 HR0.out x8_1 p102 q102
        cases e102
        replace hx102_0 := (HB.out.cell (World.block_lt_of_cell? w _ hx102_0)).trans hx102_0
        replace hx102_1 := (HB.out.cell (World.block_lt_of_cell? w _ hx102_1)).trans hx102_1
        replace p102 := eq_true p102
        replace q102 := eq_true q102
        go_wp2_with (first | (go_at_call 54; (with_reducible refine (fact_gather_2.calls ((rd_T44 l0 x8_1).f0) ((rd_T44 l0 x8_1).f1) true _ A6.out).mono ?_); rintro e w8 ⟨rfl, hb⟩; have n0_ := Aside0.mk (below_step (hB0 HB.out) hb); clear HB; have HB := n0_; clear n0_; (try clear hb)))
        go_ret
        exact ⟨eW, hB0 HB.out⟩
       ·replace c7 := Bool.eq_false_iff.mpr c7
        subst c7
        have H1 : (api_Term_49_at54.l0 k1 l0 (l0.length : Int) (wrap64 (x8_1 + 1))) = some r := by rw [if_neg (show ¬ (false = true) by decide)] at H; exact H
        clear H
        have H := H1
        clear H1
        have H' := Aside0.mk H
        clear H
        have p102 : 0 ≤ (x8_1 : Int) := oD
        have q102 : x8_1 < (l0.length : Int) := oD
        obtain ⟨ad102, e102, hx102_0, hx102_1⟩ := at_T44 HR0.out x8_1 p102 q102
        cases e102
        replace hx102_0 := (HB.out.cell (World.block_lt_of_cell? w _ hx102_0)).trans hx102_0
        replace hx102_1 := (HB.out.cell (World.block_lt_of_cell? w _ hx102_1)).trans hx102_1
        replace p102 := eq_true p102
        replace q102 := eq_true q102
        go_wp2_with (first | (go_at_call 54; (with_reducible refine (fact_gather_2.calls ((rd_T44 l0 x8_1).f0) ((rd_T44 l0 x8_1).f1) false _ A6.out).mono ?_); rintro e w9 ⟨rfl, hb⟩; have n0_ := Aside0.mk (below_step (hB0 HB.out) hb); clear HB; have HB := n0_; clear n0_; (try clear hb)))
        go_roundg k1
        case measure => have := HK1.out; omega
        case rel => exact ⟨(wrap64 (x8_1 + 1)), rS, H', ⟨by have := HK1.out; omega⟩, ⟨hB0 HB.out⟩⟩
      ·rw [if_neg c5] at H
       exact absurd H (by simp)
     ·rw [if_neg c4] at H
      exact absurd H (by simp)
    ·rw [if_neg c3] at H
     have c3b0 : decide (x8_1 < (l0.length : Int)) = false := decide_eq_false c3
     clear c3
     obtain rfl := Option.some.inj H
     go_wp2
     go_ret
     exact ⟨eW, hB0 HB.out⟩
def api_Term_53_at54.l0 : Nat → List (S44) → Int → Int → Option ((List (S44)))
  | 0, _, _, _ => none
  | k + 1, x0, x5, x6 => if x6 < (x0.length : Int) then (if 0 ≤ x6 then ((fact_gather_2.f ((rd_T44 x0 x6).f0) ((rd_T44 x0 x6).f1)).bind fun t104 => (if t104 = true then (api_Term_53_at54.l0 k x0 x5 (wrap64 (x6 + 1))) else (if 0 ≤ x5 then (if x5 < (x0.length : Int) then (api_Term_53_at54.l0 k (x0.set (x5 : Int).toNat (⟨(rd_T44 x0 x6).f0, (rd_T44 x0 x6).f1⟩ : S44)) (wrap64 (x5 + 1)) (wrap64 (x6 + 1))) else (none)) else (none)))) else (none)) else (if 0 ≤ x5 then (if x5 ≤ (x0.length : Int) then (some ((x0.take (x5 : Int).toNat ++ List.replicate (x0.length - (x5 : Int).toNat) z44).take (x5 : Int).toNat)) else (none)) else (none))
def api_Term_53_at54.f (k : Nat) (l0 : List (S44))  : Option ((List (S44))) := (api_Term_49_at54.f k l0).bind fun t101 => (if t101 = (-1) then (some l0) else (api_Term_53_at54.l0 k l0 t101 (wrap64 (t101 + 1))))
theorem api_Term_53_at54.mono_l : ∀ k, (∀ y0 y1 y2, LeO (api_Term_53_at54.l0 k y0 y1 y2) (api_Term_53_at54.l0 (k + 1) y0 y1 y2))
  | 0 => fun _ _ _ r h => by simp [api_Term_53_at54.l0] at h
  | k + 1 => by
   have ih0 := api_Term_53_at54.mono_l k
   ·intro y0 y1 y2
    unfold api_Term_53_at54.l0
    repeat' first
    | (with_reducible exact ih0 _ _ _)
    | (with_reducible exact api_Term_49_at54.mono _ _)
    | (with_reducible exact LeO.refl _)
    | (with_reducible exact LeO.none _)
    | (with_reducible refine LeO.ite ?_ ?_)
    | (with_reducible refine LeO.bind ?_ (fun _ => ?_))
    | exact ih0 _ _ _
    | exact api_Term_49_at54.mono _ _
    | exact LeO.none _
    | refine LeO.ite ?_ ?_
    | refine LeO.bind ?_ (fun _ => ?_)
theorem api_Term_53_at54.mono : ∀ a0 k, LeO (api_Term_53_at54.f k a0) (api_Term_53_at54.f (k + 1) a0) := by
  intro a0 k
  have ih0 := api_Term_53_at54.mono_l k
  unfold api_Term_53_at54.f
  repeat' first
    | (with_reducible exact ih0 _ _ _)
    | (with_reducible exact api_Term_49_at54.mono _ _)
    | (with_reducible exact LeO.refl _)
    | (with_reducible exact LeO.none _)
    | (with_reducible refine LeO.ite ?_ ?_)
    | (with_reducible refine LeO.bind ?_ (fun _ => ?_))
    | exact ih0 _ _ _
    | exact api_Term_49_at54.mono _ _
    | exact LeO.none _
    | refine LeO.ite ?_ ?_
    | refine LeO.bind ?_ (fun _ => ?_)
set_option maxHeartbeats 8000000 in
set_option maxRecDepth 100000 in
theorem api_Term_53_at54.calls (k : Nat) (P0_ : Nat → Prop) (u9000_ : Value) (l0 : List (S44))  (r : List (S44)) (w0 w : World) (hB : Below w0.heap.size w0 w) (ho0 : Kd.R k44 44 w w0.heap.size P0_ u9000_ l0) (h : api_Term_53_at54.f k l0 = some r) :
   Calls Try.prog 53 #[u9000_, .func (.func 54) #[] #[]] w fun e w' => ∃ v0_ : Value, e = .returned (v0_) ∧ Kd.R k44 44 w' w0.heap.size (fun k_ => (P0_ k_ ∨ w.heap.size ≤ k_)) v0_ r ∧ Below w0.heap.size w0 w' ∧ Kept w w' (fun k_ => P0_ k_) := by
  have hu44 := Try.underlying44
  have HO0 := Aside0.mk (show Kd.R k44 44 w w0.heap.size (fun k_ => (P0_ k_ ∨ w.heap.size ≤ k_)) u9000_ l0 from Kd.R_mono ho0 (fun k_ hk => (.inl hk)))
  have HK := Aside0.mk (Kept.refl w (fun k_ => P0_ k_))
  have HW0 := Aside0.mk hB.size
  have HB := Aside0.mk hB
  clear hB
  have H : ((api_Term_49_at54.f k l0).bind fun t101 => (if t101 = (-1) then (some l0) else (api_Term_53_at54.l0 k l0 t101 (wrap64 (t101 + 1))))) = some r := h
  clear h
  replace H := Option.bind_eq_some_iff.mp H
  obtain ⟨t101, A30, H⟩ := H
  replace H : (if t101 = (-1) then (some l0) else (api_Term_53_at54.l0 k l0 t101 (wrap64 (t101 + 1)))) = some r := H
  have A3 := Aside0.mk A30
  clear A30
  by_cases c4 : t101 = (-1)
  ·rw [if_pos c4] at H
   have c4b0 : (t101 == (-1)) = true := beq_iff_eq.mpr c4
   have c4b1 : (t101 != (-1)) = false := bne_eq_false_iff_eq.mpr c4
   clear c4
   obtain rfl := Option.some.inj H
   obtain ⟨Ao5, co5, eo5⟩ := Kd.R_slice HO0.out
   subst eo5
   go_enter Try.func53, Try.ntmps53
   go_wp2_with (first | ((with_reducible refine gate_callee (f := 49) rfl ?_); refine goesL_ (some 10) rfl rfl Try.func49 (by kernel_rfl) rfl #[.slice Ao5 l0.length co5, .func (.func 54) #[] #[]] rfl aM ?_; (with_reducible refine (api_Term_49_at54.calls k _ _ l0  t101 _ ?side1 ?side2 A3.out).mono ?_); (case side1 => exact cK (Kd.R_reads' HO0.out).2.2); (case side2 => exact (Kd.R_reads' HO0.out).2.1); rintro e w6 ⟨rfl, hb⟩; refine ⟨_, rfl, ?_⟩; have n0_ := Aside0.mk (Kd.R_below (rK HO0.out) hb); have n1_ := Aside0.mk (Kept.below (S := (fun k_ => P0_ k_)) (kP HK.out) hb); have n2_ := Aside0.mk (below_step (hB0 HB.out) hb); clear HO0 HK HB; have HO0 := n0_; have HK := n1_; have HB := n2_; clear n0_ n1_ n2_; (try clear hb)))
   go_ret
   exact ⟨_, by first | rfl | (simp [errW_none, errW_some] <;> rfl) | (simp [*, errW_none, errW_some] <;> rfl), by (with_reducible repeat (first | apply Kd.R_alloc | apply Kd.R_drewN | apply Kd.R_drew)); exact HO0.out, hB0 HB.out, kP HK.out⟩
  ·rw [if_neg c4] at H
   have c4b0 : (t101 == (-1)) = false := beq_eq_false_iff_ne.mpr c4
   have c4b1 : (t101 != (-1)) = true := bne_iff_ne.mpr c4
   have H' := Aside0.mk H
   clear H
   obtain ⟨Ao7, co7, eo7⟩ := Kd.R_slice HO0.out
   subst eo7
   go_enter Try.func53, Try.ntmps53
   go_wp2_with (first | ((with_reducible refine gate_callee (f := 49) rfl ?_); refine goesL_ (some 10) rfl rfl Try.func49 (by kernel_rfl) rfl #[.slice Ao7 l0.length co7, .func (.func 54) #[] #[]] rfl aM ?_; (with_reducible refine (api_Term_49_at54.calls k _ _ l0  t101 _ ?side1 ?side2 A3.out).mono ?_); (case side1 => exact cK (Kd.R_reads' HO0.out).2.2); (case side2 => exact (Kd.R_reads' HO0.out).2.1); rintro e w8 ⟨rfl, hb⟩; refine ⟨_, rfl, ?_⟩; have n0_ := Aside0.mk (Kd.R_below (rK HO0.out) hb); have n1_ := Aside0.mk (Kept.below (S := (fun k_ => P0_ k_)) (kP HK.out) hb); have n2_ := Aside0.mk (below_step (hB0 HB.out) hb); clear HO0 HK HB; have HO0 := n0_; have HK := n1_; have HB := n2_; clear n0_ n1_ n2_; (try clear hb)))
   (try simp only [Act.put, List.setIfInBounds_toArray, List.set_cons_zero, List.set_cons_succ])
   go_loopg [5, 6] k (fun kq v5 v6 w' => ∃ (x0_1 : List (S44)) (x5_1 : Int) (x6_1 : Int), v5 = .int .i64 x5_1 ∧ v6 = .int .i64 x6_1 ∧ Aside0 (api_Term_53_at54.l0 kq x0_1 x5_1 x6_1 = some r) ∧ Aside0 (kq ≤ k) ∧ Aside0 (Kd.R k44 44 w' w0.heap.size (fun k_ => (P0_ k_ ∨ w.heap.size ≤ k_)) (.slice Ao7 l0.length co7) x0_1) ∧ Aside0 (Kept w w' (fun k_ => P0_ k_)) ∧ Aside0 (Below w0.heap.size w0 w'))
   case atStart => exact ⟨(l0), (t101), (wrap64 (t101 + 1)), rS, rS, H', ⟨Nat.le_refl _⟩, ⟨rK HO0.out⟩, ⟨kP HK.out⟩, ⟨hB0 HB.out⟩⟩
   case round =>
    clear H'
    try clear c4
    try clear c4b0
    try clear c4b1
    obtain ⟨x0_1, x5_1, x6_1, rfl, rfl, HA, HK1, HO_0, HK, HB⟩ := hrel
    have hl0_1 := (Kd.R_reads' HO_0.out).1
    rw [hl0_1] at HO_0
    (try simp only [hl0_1])
    cases gk with
    | zero => exact absurd HA.out (by simp [api_Term_53_at54.l0])
    | succ k1 =>
     have H := HA.out
     clear HA
     simp only [api_Term_53_at54.l0] at H
     by_cases c9 : x6_1 < (x0_1.length : Int)
     ·rw [if_pos c9] at H
      have c9b0 : decide (x6_1 < (x0_1.length : Int)) = true := decide_eq_true c9
      (try simp only [hl0_1] at c9b0)
      clear c9
      by_cases c10 : 0 ≤ x6_1
      ·rw [if_pos c10] at H
       have c10b0 : decide (0 ≤ x6_1) = true := decide_eq_true c10
       clear c10
       replace H := Option.bind_eq_some_iff.mp H
       obtain ⟨t104, A110, H⟩ := H
       replace H : (if t104 = true then (api_Term_53_at54.l0 k1 x0_1 x5_1 (wrap64 (x6_1 + 1))) else (if 0 ≤ x5_1 then (if x5_1 < (x0_1.length : Int) then (api_Term_53_at54.l0 k1 (x0_1.set (x5_1 : Int).toNat (⟨(rd_T44 x0_1 x6_1).f0, (rd_T44 x0_1 x6_1).f1⟩ : S44)) (wrap64 (x5_1 + 1)) (wrap64 (x6_1 + 1))) else (none)) else (none))) = some r := H
       have A11 := Aside0.mk A110
       clear A110
       by_cases c12 : t104 = true
       ·subst c12
        have H1 : (api_Term_53_at54.l0 k1 x0_1 x5_1 (wrap64 (x6_1 + 1))) = some r := by rw [if_pos rfl] at H; exact H
        clear H
        have H := H1
        clear H1
        have H' := Aside0.mk H
        clear H
        have p102 : 0 ≤ (x6_1 : Int) := oD
        have q102 : x6_1 < (x0_1.length : Int) := oD
        obtain ⟨ad102, e102, hx102_0, hx102_1⟩ := at_T44 (Kd.R_reads' HO_0.out).2.2 x6_1 p102 q102
        cases e102
        replace p102 := eq_true p102
        replace q102 := eq_true q102
        go_wp2_with (first | ((with_reducible refine gate_dst (N := 7) rfl ?_); refine box_event ?hg (N := 7) ?hd (cs := #[.int .i64 0, .int .i64 0]) (t := 44) ?hr ?_; (case hd => rfl); (case hg => rfl); (case hr => first | (go_simp; done) | (go_simp; rfl)); intro gb103 hg w13 hbox hb; have n0_ := Aside0.mk (Kd.R_below (Kd.R_elderB (rK HO_0.out) gb103 (Nat.le_of_eq hg.symm)) hb); have n1_ := Aside0.mk (Kept.below (S := (fun k_ => P0_ k_)) (kP HK.out) hb); have n2_ := Aside0.mk (below_step (hB0 HB.out) hb); have n3_ := Aside0.mk (hbox); have n4_ := Aside0.mk ((by rw [hg]; exact (by first | exact HK.out.1 | exact (show Kept w _ (fun k_ => P0_ k_) from kP HK.out).1) : w.heap.size ≤ gb103)); have n5_ := Aside0.mk ((by rw [hg]; exact (below_size (hB0 HB.out)) : w0.heap.size ≤ gb103)); clear HO_0 HK HB; have HO_0 := n0_; have HK := n1_; have HB := n2_; have BK103 := n3_; have GW103 := n4_; have GE103 := n5_; clear n0_ n1_ n2_ n3_ n4_ n5_; clear hb hbox hg; have hcz14_0 : w13.cell? ⟨gb103, 0, none⟩ = some (.int .i64 0) := (blk_cell BK103.out 0).trans rfl; have hcz14_1 : w13.cell? ⟨gb103, 1, none⟩ = some (.int .i64 0) := (blk_cell BK103.out 1).trans rfl; have hfz14_0 := blk_frozen BK103.out 0; have hfz14_1 := blk_frozen BK103.out 1) | (go_at_call 54; (with_reducible refine (fact_gather_2.calls ((rd_T44 x0_1 x6_1).f0) ((rd_T44 x0_1 x6_1).f1) true _ A11.out).mono ?_); rintro e w15 ⟨rfl, hb⟩; have n0_ := Aside0.mk (Kd.R_below (by (with_reducible repeat (first | apply Kd.R_alloc | apply Kd.R_drewN | apply Kd.R_drew)); exact (Kd.R_mono (Kd.R_far (p := ⟨gb103, 1, none⟩) (Kd.R_far (p := ⟨gb103, 0, none⟩) (Kd.R_mono HO_0.out (fun k_ hk => (⟨hk, hk.2⟩ : _ ∧ k_ ≠ gb103))) (fun _ hk => hk.2) (.int .i64 ((rd_T44 x0_1 x6_1).f0))) (fun _ hk => hk.2) (.int .i64 ((rd_T44 x0_1 x6_1).f1))) (fun _ h_ => h_.1))) hb); have n1_ := Aside0.mk (blk_below (g := gb103) (o := .cells #[.int .i64 ((rd_T44 x0_1 x6_1).f0), .int .i64 ((rd_T44 x0_1 x6_1).f1)] 44 (0, 0)) (by (with_reducible repeat (first | refine blk_drewN ?_ _ | refine blk_drew ?_ | refine blk_alloc ?_ _)); refine blk_put (cs := #[.int .i64 ((rd_T44 x0_1 x6_1).f0), .int .i64 0]) ?_ 1 _ rfl; (with_reducible repeat (first | refine blk_drewN ?_ _ | refine blk_drew ?_ | refine blk_alloc ?_ _)); refine blk_put (cs := #[.int .i64 0, .int .i64 0]) ?_ 0 _ rfl; (with_reducible repeat (first | refine blk_drewN ?_ _ | refine blk_drew ?_ | refine blk_alloc ?_ _)); exact BK103.out) hb); have n2_ := Aside0.mk (Kept.below (S := (fun k_ => P0_ k_)) (by repeat (first | (with_reducible first | exact HK.out | apply Kept.alloc | apply Kept.drewN | apply Kept.drew | refine Kept.setCell ?_ (.inr GW103.out) _) | exact HK.out)) hb); have n3_ := Aside0.mk (below_step (hB1 HB.out GE103.out) hb); clear HO_0 BK103 HK HB; have HO_0 := n0_; have BK103 := n1_; have HK := n2_; have HB := n3_; clear n0_ n1_ n2_ n3_; (try clear hb); (try clear hk)))
        (try simp only [← hl0_1])
        go_roundg k1
        case measure => have := HK1.out; omega
        case rel => exact ⟨(x0_1), (x5_1), (wrap64 (x6_1 + 1)), rS, rS, H', ⟨by have := HK1.out; omega⟩, ⟨by (try simp only [hl0_1]); (with_reducible repeat (first | apply Kd.R_alloc | apply Kd.R_drewN | apply Kd.R_drew)); exact Kd.R_mono HO_0.out (fun _ hk => hk.1)⟩, ⟨by repeat (first | (with_reducible first | exact HK.out | apply Kept.alloc | apply Kept.drewN | apply Kept.drew | refine Kept.setCell ?_ (.inr GW103.out) _) | exact HK.out)⟩, ⟨hB1 HB.out GE103.out⟩⟩
       ·replace c12 := Bool.eq_false_iff.mpr c12
        subst c12
        have H1 : (if 0 ≤ x5_1 then (if x5_1 < (x0_1.length : Int) then (api_Term_53_at54.l0 k1 (x0_1.set (x5_1 : Int).toNat (⟨(rd_T44 x0_1 x6_1).f0, (rd_T44 x0_1 x6_1).f1⟩ : S44)) (wrap64 (x5_1 + 1)) (wrap64 (x6_1 + 1))) else (none)) else (none)) = some r := by rw [if_neg (show ¬ (false = true) by decide)] at H; exact H
        clear H
        have H := H1
        clear H1
        by_cases c16 : 0 ≤ x5_1
        ·rw [if_pos c16] at H
         have c16b0 : decide (0 ≤ x5_1) = true := decide_eq_true c16
         clear c16
         by_cases c17 : x5_1 < (x0_1.length : Int)
         ·rw [if_pos c17] at H
          have c17b0 : decide (x5_1 < (x0_1.length : Int)) = true := decide_eq_true c17
          (try simp only [hl0_1] at c17b0)
          clear c17
          obtain ⟨y105, hy105⟩ : ∃ y_ : List (S44), y_ = (x0_1.set (x5_1 : Int).toNat (⟨(rd_T44 x0_1 x6_1).f0, (rd_T44 x0_1 x6_1).f1⟩ : S44)) := ⟨_, rfl⟩
          replace H : (api_Term_53_at54.l0 k1 y105 (wrap64 (x5_1 + 1)) (wrap64 (x6_1 + 1))) = some r := by first | (rw [hy105]; with_reducible exact H) | (have H2_ := (Option.bind_some _ _).symm.trans H; rw [hy105]; with_reducible exact H2_) | (have H2_ := (Option.bind_some _ _).symm.trans H; with_reducible exact H2_) | with_reducible exact H | (rw [hy105]; exact H) | exact H
          have Ny105 := Aside0.mk hy105
          clear hy105
          have H' := Aside0.mk H
          clear H
          have p102 : 0 ≤ (x6_1 : Int) := oD
          have q102 : x6_1 < (x0_1.length : Int) := oD
          obtain ⟨ad102, e102, hx102_0, hx102_1⟩ := at_T44 (Kd.R_reads' HO_0.out).2.2 x6_1 p102 q102
          cases e102
          replace p102 := eq_true p102
          replace q102 := eq_true q102
          go_wp2_with (first | ((with_reducible refine gate_dst (N := 7) rfl ?_); refine box_event ?hg (N := 7) ?hd (cs := #[.int .i64 0, .int .i64 0]) (t := 44) ?hr ?_; (case hd => rfl); (case hg => rfl); (case hr => first | (go_simp; done) | (go_simp; rfl)); intro gb103 hg w19 hbox hb; have n0_ := Aside0.mk (Kd.R_below (Kd.R_elderB (rK HO_0.out) gb103 (Nat.le_of_eq hg.symm)) hb); have n1_ := Aside0.mk (Kept.below (S := (fun k_ => P0_ k_)) (kP HK.out) hb); have n2_ := Aside0.mk (below_step (hB0 HB.out) hb); have n3_ := Aside0.mk (hbox); have n4_ := Aside0.mk ((by rw [hg]; exact (by first | exact HK.out.1 | exact (show Kept w _ (fun k_ => P0_ k_) from kP HK.out).1) : w.heap.size ≤ gb103)); have n5_ := Aside0.mk ((by rw [hg]; exact (below_size (hB0 HB.out)) : w0.heap.size ≤ gb103)); clear HO_0 HK HB; have HO_0 := n0_; have HK := n1_; have HB := n2_; have BK103 := n3_; have GW103 := n4_; have GE103 := n5_; clear n0_ n1_ n2_ n3_ n4_ n5_; clear hb hbox hg; have hcz20_0 : w19.cell? ⟨gb103, 0, none⟩ = some (.int .i64 0) := (blk_cell BK103.out 0).trans rfl; have hcz20_1 : w19.cell? ⟨gb103, 1, none⟩ = some (.int .i64 0) := (blk_cell BK103.out 1).trans rfl; have hfz20_0 := blk_frozen BK103.out 0; have hfz20_1 := blk_frozen BK103.out 1) | (go_at_call 54; (with_reducible refine (fact_gather_2.calls ((rd_T44 x0_1 x6_1).f0) ((rd_T44 x0_1 x6_1).f1) false _ A11.out).mono ?_); rintro e w21 ⟨rfl, hb⟩; have n0_ := Aside0.mk (Kd.R_below (by (with_reducible repeat (first | apply Kd.R_alloc | apply Kd.R_drewN | apply Kd.R_drew)); exact (Kd.R_mono (Kd.R_far (p := ⟨gb103, 1, none⟩) (Kd.R_far (p := ⟨gb103, 0, none⟩) (Kd.R_mono HO_0.out (fun k_ hk => (⟨hk, hk.2⟩ : _ ∧ k_ ≠ gb103))) (fun _ hk => hk.2) (.int .i64 ((rd_T44 x0_1 x6_1).f0))) (fun _ hk => hk.2) (.int .i64 ((rd_T44 x0_1 x6_1).f1))) (fun _ h_ => h_.1))) hb); have n1_ := Aside0.mk (blk_below (g := gb103) (o := .cells #[.int .i64 ((rd_T44 x0_1 x6_1).f0), .int .i64 ((rd_T44 x0_1 x6_1).f1)] 44 (0, 0)) (by (with_reducible repeat (first | refine blk_drewN ?_ _ | refine blk_drew ?_ | refine blk_alloc ?_ _)); refine blk_put (cs := #[.int .i64 ((rd_T44 x0_1 x6_1).f0), .int .i64 0]) ?_ 1 _ rfl; (with_reducible repeat (first | refine blk_drewN ?_ _ | refine blk_drew ?_ | refine blk_alloc ?_ _)); refine blk_put (cs := #[.int .i64 0, .int .i64 0]) ?_ 0 _ rfl; (with_reducible repeat (first | refine blk_drewN ?_ _ | refine blk_drew ?_ | refine blk_alloc ?_ _)); exact BK103.out) hb); have n2_ := Aside0.mk (Kept.below (S := (fun k_ => P0_ k_)) (by repeat (first | (with_reducible first | exact HK.out | apply Kept.alloc | apply Kept.drewN | apply Kept.drew | refine Kept.setCell ?_ (.inr GW103.out) _) | exact HK.out)) hb); have n3_ := Aside0.mk (below_step (hB1 HB.out GE103.out) hb); clear HO_0 BK103 HK HB; have HO_0 := n0_; have BK103 := n1_; have HK := n2_; have HB := n3_; clear n0_ n1_ n2_ n3_; (try clear hb); (try clear hk); have hcz22_0 : w21.cell? ⟨gb103, 0, none⟩ = some (.int .i64 ((rd_T44 x0_1 x6_1).f0)) := (blk_cell BK103.out 0).trans rfl; have hcz22_1 : w21.cell? ⟨gb103, 1, none⟩ = some (.int .i64 ((rd_T44 x0_1 x6_1).f1)) := (blk_cell BK103.out 1).trans rfl; have hfz22_0 := blk_frozen BK103.out 0; have hfz22_1 := blk_frozen BK103.out 1; have p18 : 0 ≤ (x5_1 : Int) := oD; have q18 : (x5_1 : Int) < ((x0_1.length : Int) : Int) := oD; obtain ⟨go18, co18, eo18, gb18, gl18, cl18, HG18⟩ := Kd.R_form HO_0.out (by omega); (first | cases eo18 | (injection eo18 with ea_ en_ ec_; (first | subst ea_ | (injection ea_ with ea_; subst ea_)); subst ec_; clear en_)); have GB18 := Aside0.mk gb18; have GG18 := Aside0.mk HG18; clear gb18 gl18 HG18; have HMgo18 := Aside0.mk (show (P0_ go18 ∨ w.heap.size ≤ go18) from (HO_0.out.1 _ rfl).1); (first | simp only [add_plain] at hx102_0 | skip); (first | simp only [add_plain] at hx102_1 | skip); obtain ⟨ce18, hcl18, hM18, hcc18, hfr18⟩ := Kd.R_elem HO_0.out z44 (x5_1 : Int) p18 q18; obtain rfl := k44_openM hM18; have hx18_0 : w21.cell? ⟨go18, (x5_1 : Int).toNat * 2, none⟩ = some (.int .i64 ((rd_T44 x0_1 x5_1).f0)) := hcc18 0 _ rfl; have hx18_1 : w21.cell? ⟨go18, (x5_1 : Int).toNat * 2 + 1, none⟩ = some (.int .i64 ((rd_T44 x0_1 x5_1).f1)) := hcc18 1 _ rfl; have hf18_0 : w21.frozen? ⟨go18, (x5_1 : Int).toNat * 2, none⟩ = false := hfr18 0; have hf18_1 : w21.frozen? ⟨go18, (x5_1 : Int).toNat * 2 + 1, none⟩ = false := hfr18 1; clear hcl18 hcc18 hfr18 hM18; replace p18 := eq_true p18; replace q18 := eq_true q18; have HX23 := Aside0.mk (show Kd.R k44 44 w21 w0.heap.size (fun k_ => (P0_ k_ ∨ w.heap.size ≤ k_) ∧ k_ ≠ gb103) (.slice (some ⟨go18, 0, none⟩) x0_1.length co7) x0_1 from (rK HO_0.out)); obtain ⟨ce23, hcl23, hM23, hcc23, hfr23⟩ := Kd.R_elem HX23.out z44 (x5_1 : Int) (oD) (by have h_ : (x5_1 : Int) < ((x0_1.length : Int) : Int) := oD; first | exact h_ | (have e_ := (Kd.R_reads' HO_0.out).1; omega) | simpa using h_); obtain rfl := k44_openM hM23; have HP23 := Kd.R_seg HX23.out (x5_1 : Int) (oD) (by have h_ : (x5_1 : Int) < ((x0_1.length : Int) : Int) := oD; first | exact h_ | (have e_ := (Kd.R_reads' HO_0.out).1; omega) | simpa using h_) (seg := [.int .i64 ((rd_T44 x0_1 x6_1).f0), .int .i64 ((rd_T44 x0_1 x6_1).f1)]) (j := 0) hcl23 hcc23 (show 2 ≤ 2 from by decide) (x' := (⟨(rd_T44 x0_1 x6_1).f0, (rd_T44 x0_1 x6_1).f1⟩ : S44)) (k44_mkM _ _ _ (⟨(rd_T44 x0_1 x6_1).f0, (rd_T44 x0_1 x6_1).f1⟩ : S44) ) (fun _ hk => hk); have hx23_0 := hcc23 0 _ rfl; (try simp only [show (k44).sz = 2 from rfl, Nat.mul_one, Nat.add_zero] at hx23_0); have hf23_0 := hfr23 0; (try simp only [show (k44).sz = 2 from rfl, Nat.mul_one, Nat.add_zero] at hf23_0); have hx23_1 := hcc23 1 _ rfl; (try simp only [show (k44).sz = 2 from rfl, Nat.mul_one, Nat.add_zero] at hx23_1); have hf23_1 := hfr23 1; (try simp only [show (k44).sz = 2 from rfl, Nat.mul_one, Nat.add_zero] at hf23_1); clear hcl23 hcc23 hfr23 hM23) | ((with_reducible refine gate_store (t := 44) (p := 33) rfl ?_); refine store_event (t := 44) (p := 33) (v := ?vo_w24) (w1 := ((w21.setCell ⟨go18, (x5_1 : Int).toNat * 2, none⟩ (.int .i64 ((rd_T44 x0_1 x6_1).f0))).setCell ⟨go18, (x5_1 : Int).toNat * 2 + 1, none⟩ (.int .i64 ((rd_T44 x0_1 x6_1).f1)))) ?hg ?ho ?hn ?hr ?_; (case ho => rfl); (case hg => rfl); (case hn => rfl); (case hr => first | (go_simp; done) | (go_simp; rfl)); intro w24 hw; have hg : w21.grownBy w24 (some go18) := (by rw [hw]; exact HP23.2); have hp_ : Kd.R k44 44 w24 w0.heap.size (fun k_ => (P0_ k_ ∨ w.heap.size ≤ k_) ∧ k_ ≠ gb103) (.slice (some ⟨go18, 0, none⟩) x0_1.length co7) y105 := (by rw [hw, Ny105.out]; exact HP23.1); clear HP23; have n0_ := Aside0.mk (hp_); have n1_ := Aside0.mk (blk_grown (g := gb103) (o := .cells #[.int .i64 ((rd_T44 x0_1 x6_1).f0), .int .i64 ((rd_T44 x0_1 x6_1).f1)] 44 (0, 0)) (bK BK103.out) hg (Kd.R_away HO_0.out (fun _ hk => hk.2))); have n2_ := Aside0.mk ((by rw [hw]; exact below_set (below_set (HB.out) GB18.out) GB18.out : Below w0.heap.size w0 w24)); have n3_ := Aside0.mk (Kept.of_grown (S := (fun k_ => P0_ k_)) hg (by repeat (first | (with_reducible first | exact HK.out | apply Kept.alloc | apply Kept.drewN | apply Kept.drew | refine Kept.setCell ?_ (.inr GW103.out) _) | exact HK.out)) (fun k_ e_ => (HO_0.out.1 k_ e_).1)); clear HO_0 BK103 HB HK; have HO_0 := n0_; have BK103 := n1_; have HB := n2_; have HK := n3_; clear n0_ n1_ n2_ n3_; clear hg hw hp_))
          (try simp only [← hl0_1])
          go_roundg k1
          case measure => have := HK1.out; omega
          case rel => exact ⟨(y105), (wrap64 (x5_1 + 1)), (wrap64 (x6_1 + 1)), rS, rS, H', ⟨by have := HK1.out; omega⟩, ⟨by (try simp only [hl0_1]); (with_reducible repeat (first | apply Kd.R_alloc | apply Kd.R_drewN | apply Kd.R_drew)); exact Kd.R_mono HO_0.out (fun _ hk => hk.1)⟩, ⟨by repeat (first | (with_reducible first | exact HK.out | apply Kept.alloc | apply Kept.drewN | apply Kept.drew | refine Kept.setCell ?_ (.inr GW103.out) _) | exact HK.out)⟩, ⟨hB1 HB.out GE103.out⟩⟩
         ·rw [if_neg c17] at H
          exact absurd H (by simp)
        ·rw [if_neg c16] at H
         exact absurd H (by simp)
      ·rw [if_neg c10] at H
       exact absurd H (by simp)
     ·rw [if_neg c9] at H
      have c9b0 : decide (x6_1 < (x0_1.length : Int)) = false := decide_eq_false c9
      (try simp only [hl0_1] at c9b0)
      clear c9
      by_cases c25 : 0 ≤ x5_1
      ·rw [if_pos c25] at H
       have c25b0 := eq_true c25
       have c25b1 : decide (0 ≤ x5_1) = true := decide_eq_true c25
       clear c25
       by_cases c26 : x5_1 ≤ (x0_1.length : Int)
       ·rw [if_pos c26] at H
        have c26b0 := eq_true c26
        have c26b1 : decide (x5_1 ≤ (x0_1.length : Int)) = true := decide_eq_true c26
        clear c26
        obtain ⟨y106, hy106⟩ : ∃ y_ : List (S44), y_ = (x0_1.drop (x5_1 : Int).toNat) := ⟨_, rfl⟩
        replace H : (some ((x0_1.take (x5_1 : Int).toNat ++ List.replicate (x0_1.length - (x5_1 : Int).toNat) z44).take (x5_1 : Int).toNat)) = some r := by first | (rw [hy106]; with_reducible exact H) | (have H2_ := (Option.bind_some _ _).symm.trans H; rw [hy106]; with_reducible exact H2_) | (have H2_ := (Option.bind_some _ _).symm.trans H; with_reducible exact H2_) | with_reducible exact H | (rw [hy106]; exact H) | exact H
        have Ny106 := Aside0.mk hy106
        clear hy106
        obtain ⟨y110, hy110⟩ : ∃ y_ : List (S44), y_ = (x0_1.take (x5_1 : Int).toNat ++ List.replicate (x0_1.length - (x5_1 : Int).toNat) z44) := ⟨_, rfl⟩
        replace H : (some (y110.take (x5_1 : Int).toNat)) = some r := by first | (rw [hy110]; with_reducible exact H) | (have H2_ := (Option.bind_some _ _).symm.trans H; rw [hy110]; with_reducible exact H2_) | (have H2_ := (Option.bind_some _ _).symm.trans H; with_reducible exact H2_) | with_reducible exact H | (rw [hy110]; exact H) | exact H
        have Ny110 := Aside0.mk hy110
        clear hy110
        have c27b0 := eq_true (oD : x5_1 ≤ (x0_1.length : Int))
        obtain ⟨y111, hy111⟩ : ∃ y_ : List (S44), y_ = (y110.take (x5_1 : Int).toNat) := ⟨_, rfl⟩
        replace H : (some y111) = some r := by first | (rw [hy111]; with_reducible exact H) | (have H2_ := (Option.bind_some _ _).symm.trans H; rw [hy111]; with_reducible exact H2_) | (have H2_ := (Option.bind_some _ _).symm.trans H; with_reducible exact H2_) | with_reducible exact H | (rw [hy111]; exact H) | exact H
        have Ny111 := Aside0.mk hy111
        clear hy111
        obtain rfl := Option.some.inj H
        have q28 : (x5_1 : Int) ≤ ((x0_1.length : Int) : Int) := oD
        obtain ⟨i028, hi028, _, hsz28, _⟩ := info_parts info44
        have hroom28 : x0_1.length ≤ co7 := (Kd.R_reads' HO_0.out).2.1
        have hC28 : Kd.C k44 _ Ao7 x0_1.length x0_1 := (Kd.R_reads' HO_0.out).2.2
        have q028 : (0 : Int) ≤ (x5_1 : Int) := oD
        have hcut28 := cut_from (P := Try.prog) 28 44 .i64 Try.underlying28 hi028 2 hsz28 Ao7 x0_1.length co7 x5_1 q028 q28
        have hr28 := Kd.C_drop (m := (x5_1 : Int).toNat) (c := co7) hC28 (by omega) hroom28
        obtain ⟨A28, hA28⟩ : ∃ A1, A1 = (if co7 = (x5_1 : Int).toNat then Ao7 else (Ao7 : Option Addr).map (·.add ((x5_1 : Int).toNat * 2))) := ⟨_, rfl⟩
        obtain ⟨c28, hc28⟩ : ∃ c1, c1 = co7 - (x5_1 : Int).toNat := ⟨_, rfl⟩
        have hy28 : y106.length = x0_1.length - (x5_1 : Int).toNat := (by rw [Ny106.out, List.length_drop] <;> omega)
        rw [show (x0_1).drop (x5_1 : Int).toNat = y106 from Ny106.out.symm] at hr28
        replace hr28 : Kd.C k44 _ A28 y106.length y106 := (by rw [hA28]; exact hr28)
        rw [← hy28, ← hA28, ← hc28] at hcut28
        have HR109 := Aside0.mk hr28
        have HC109 := Aside0.mk (show y106.length ≤ c28 from by rw [hy28, hc28]; exact Nat.sub_le_sub_right hroom28 _)
        clear hr28 hC28 hroom28 hi028 hsz28 hc28
        have KY28 := Aside0.mk hy28
        have KA28 := Aside0.mk hA28
        clear hy28 hA28
        have KL28 := Aside0.mk (show (x5_1 : Int).toNat ≤ x0_1.length from by omega)
        replace q28 := eq_true q28
        go_wp2_with (first | ((with_reducible refine gate_builtin (b := .clear) rfl ?_); have h0_ : (0 : Int) ≤ x5_1 := oD; have hl_ : (x5_1 : Int) ≤ ((x0_1.length : Int) : Int) := oD; have hn_ := (Kd.R_reads' HO_0.out).1; refine R_clear k44 (w0 := w0) w0.heap.size rfl (.tmp 38) 28 44 (.agg #[(.int .i64 0), (.int .i64 0)]) 16 rfl Try.underlying28 info44 rfl (by decide) z44 (fun w_ b_ ok_ => k44_mkM w_ b_ ok_ z44) (n := x0_1.length) (c := co7) (k := (x5_1 : Int).toNat) rfl ?hA ?hm (rK HO_0.out) ?hk (hB0 HB.out) (below_size (hB0 HB.out)) ?_; (case hA => exact KA28.out); (case hm => have ha_ := KY28.out; omega); (case hk => omega); intro w29 ho hb hg; clear hl_ hn_ h0_; rw [← Ny110.out] at ho; have n0_ := Aside0.mk (ho); have n1_ := Aside0.mk (hb); have n2_ := Aside0.mk (Kept.of_grown (S := (fun k_ => P0_ k_)) hg (kP HK.out) (fun k_ e_ => (HO_0.out.1 k_ e_))); clear HO_0 HB HK; have HO_0 := n0_; have HB := n1_; have HK := n2_; clear n0_ n1_ n2_; clear ho hb hg; have q30 : (x5_1 : Int) ≤ ((x0_1.length : Int) : Int) := oD; obtain ⟨i030, hi030, _, hsz30, _⟩ := info_parts info44; have hcut30 := cut_to (P := Try.prog) 28 44 .i64 Try.underlying28 hi030 Ao7 x0_1.length co7 x5_1 (oD) q30 (Kd.R_reads' HO_0.out).2.1; have hr30 := Kd.R_take (m := (x5_1 : Int).toNat) HO_0.out (by first | omega | (have e_ := (Kd.R_reads' HO_0.out).1; omega)); have hy30 : y111.length = (x5_1 : Int).toNat := (by rw [Ny111.out, List.length_take]; first | omega | (have e_ := (Kd.R_reads' HO_0.out).1; omega)); rw [← Ny111.out] at hr30; rw [← hy30] at hr30 hcut30; clear hy30 hi030 hsz30 HO_0; have HO113 := Aside0.mk hr30; clear hr30; replace q30 := eq_true q30))
        go_ret
        exact ⟨_, by first | rfl | (simp [errW_none, errW_some] <;> rfl) | (simp [*, errW_none, errW_some] <;> rfl), by (with_reducible repeat (first | apply Kd.R_alloc | apply Kd.R_drewN | apply Kd.R_drew)); exact HO113.out, hB0 HB.out, kP HK.out⟩
       ·rw [if_neg c26] at H
        exact absurd H (by simp)
      ·rw [if_neg c25] at H
       exact absurd H (by simp)
end Go.Proofs.Ytikpfbfeoifmkaa.X
end
section
namespace Go.Proofs.Ytikpfbfeoifmkaa.X
open Go.RowKit Go.Proofs.YtikpfbfeoifmkaaW.PrintWords Go.Proofs.YtikpfbfeoifmkaaW.PrintLast Go.Proofs.YtikpfbfeoifmkaaW.PrintMore
set_option linter.unusedVariables false
def api_Term_50.f (l0 : List S44) : Option (List S44) := if l0.length < 8796093022208 then some l0 else none
set_option maxHeartbeats 2000000 in
theorem api_Term_50.calls (A0 : Option Addr) (c0 : Nat) (l0 : List (S44)) (r : List (S44)) (w : World) (hr0 : Kd.C k44 w A0 l0.length l0) (hc0 : l0.length ≤ c0) (h : api_Term_50.f l0 = some r) :
   Calls Try.prog 50 #[.slice A0 l0.length c0] w fun e w' => ∃ v0_ : Value, e = .returned (v0_) ∧ Kd.R k44 44 w' w.heap.size (fun _ => True) v0_ r ∧ Below w.heap.size w w' := by
  unfold api_Term_50.f at h
  split at h
  ·rename_i hl
   obtain rfl := Option.some.inj h
   have HR := Aside0.mk hr0
   have HL := Aside0.mk hl
   clear hr0 h hl
   have heq : ∀ (W : World) (a : Option Addr) (n c : Nat), (binOp .eql 28 (.slice a n c) (.slice none 0 0)).run Try.prog W = .ok (.bool a.isNone) W := fun W a n c => Lib.run_eql_slice_nil W 28 44 a n c 0 0 Try.underlying28
   rcases A0 with _ | ad
   ·have h0 : l0 = [] := by
     cases l0 with
     | nil => rfl
     | cons x t => obtain ⟨ad, e, _⟩ := HR.out.2.2 (by simp); cases e
    subst h0
    go_enter Try.func50, Try.ntmps50
    go_wp2
    go_ret
    exact ⟨_, rfl, Kd.R_nil _ _ _ _ _, Below.refl _ _⟩
   ·have hn : (some ad : Option Addr).isNone = false := rfl
    go_enter Try.func50, Try.ntmps50
    have hb1 : Below w.heap.size w (w.alloc (.cells #[] 44)) := (Below.refl _ _).alloc (Nat.le_refl _) _
    have HO0 := Aside0.mk (show k44.R 44 (w.alloc (.cells #[] 44)) w.heap.size (fun _ => True) (.slice (some ⟨w.heap.size, 0, none⟩) 0 0) [] from ⟨fun k _ => trivial, OwnRow.lit w w.heap.size (inner := []) (Reps.none _ _) (Nat.le_refl _) (by simp)⟩)
    have HR1 := Aside0.mk (Kd.C_below HR.out hb1)
    have HB1 := Aside0.mk hb1
    clear hb1
    go_wp2_with (at_builtin; refine Kd.R_append_rows k44 (w0 := w) w.heap.size rfl (.tmp 5) (.tmp 6) 28 44 (.agg #[(.int .i64 0), (.int .i64 0)]) 16 rfl Try.underlying28 info44 rfl (by decide) (by decide) _ [] l0 (some ad) l0.length c0 (fun _ => True) (fun _ => False) rfl rfl HO0.out HR1.out (fun _ _ h => h) (fun _ h => h.elim) (fun _ _ => trivial) HB1.out (by simp) (by have := HL.out; simp; omega) ?_; intro v1 w1 ho hb _ _; have HO2 := Aside0.mk ho; have HB2 := Aside0.mk hb; clear ho hb)
    go_ret
    exact ⟨_, rfl, HO2.out, HB2.out⟩
  ·cases h
end Go.Proofs.Ytikpfbfeoifmkaa.X
end
