/- Part 3 of the walks and lemmas for the law that the last text proves. -/
import Derived.Test.YtikpfbfeoifmkaaFactOrderPart2
section
namespace Go.Proofs.Ytikpfbfeoifmkaa.X
open Go.RowKit Go.Proofs.YtikpfbfeoifmkaaW.PrintWords Go.Proofs.YtikpfbfeoifmkaaW.PrintLast Go.Proofs.YtikpfbfeoifmkaaW.PrintMore
attribute [local go_sem] max2_int min2_int max_two min_two max_three min_three max_four min_four
set_option linter.unusedVariables false
set_option linter.unusedSimpArgs false
def fact_gather.l0 : Nat → List (S44) → List (S44) → List (S44) → Int → Int → Option ((List (S44)))
  | 0, _, _, _, _, _ => none
  | k + 1, x3, x4, x12, x13, x14 => if x14 < x13 then (if 0 ≤ x14 then (if x14 < (x12.length : Int) then (if x14 > 0 then (if 0 ≤ (wrap64 (x14 - 1)) then (if (wrap64 (x14 - 1)) < (x3.length : Int) then (if ((rd_T44 x3 (wrap64 (x14 - 1))).f0) = ((rd_T44 x12 x14).f0) then (if 0 ≤ (wrap64 ((x4.length : Int) - 1)) then (if (wrap64 ((x4.length : Int) - 1)) < (x4.length : Int) then (fact_gather.l0 k x3 (x4.set ((wrap64 ((x4.length : Int) - 1)) : Int).toNat (⟨(rd_T44 x4 (wrap64 ((x4.length : Int) - 1))).f0, wrap64 (((rd_T44 x4 (wrap64 ((x4.length : Int) - 1))).f1) + ((rd_T44 x12 x14).f1))⟩ : S44)) x12 x13 (wrap64 (x14 + 1))) else (none)) else (none)) else (if x4.length < 8796093022208 then (fact_gather.l0 k x3 (x4 ++ [(⟨(rd_T44 x12 x14).f0, (rd_T44 x12 x14).f1⟩ : S44)]) x12 x13 (wrap64 (x14 + 1))) else (none))) else (none)) else (none)) else (if x4.length < 8796093022208 then (fact_gather.l0 k x3 (x4 ++ [(⟨(rd_T44 x12 x14).f0, (rd_T44 x12 x14).f1⟩ : S44)]) x12 x13 (wrap64 (x14 + 1))) else (none))) else (none)) else (none)) else ((api_Term_53_at54.f k x4).bind fun t129 => (some t129))
def fact_gather.f (k : Nat) (l0 : List (S44)) : Option ((List (S44))) := (api_Term_50.f l0).bind fun t114 => ((api_Term_51_at52.f k t114).bind fun t117 => (fact_gather.l0 k t117 ([] : List (S44)) t117 (t114.length : Int) 0))
theorem fact_gather.mono_l : ∀ k, (∀ y0 y1 y2 y3 y4, LeO (fact_gather.l0 k y0 y1 y2 y3 y4) (fact_gather.l0 (k + 1) y0 y1 y2 y3 y4))
  | 0 => fun _ _ _ _ _ r h => by simp [fact_gather.l0] at h
  | k + 1 => by
   have ih0 := fact_gather.mono_l k
   ·intro y0 y1 y2 y3 y4
    unfold fact_gather.l0
    repeat' first
    | (with_reducible exact ih0 _ _ _ _ _)
    | (with_reducible exact api_Term_51_at52.mono _ _)
    | (with_reducible exact api_Term_53_at54.mono _ _)
    | (with_reducible exact LeO.refl _)
    | (with_reducible exact LeO.none _)
    | (with_reducible refine LeO.ite ?_ ?_)
    | (with_reducible refine LeO.bind ?_ (fun _ => ?_))
    | exact ih0 _ _ _ _ _
    | exact api_Term_51_at52.mono _ _
    | exact api_Term_53_at54.mono _ _
    | exact LeO.none _
    | refine LeO.ite ?_ ?_
    | refine LeO.bind ?_ (fun _ => ?_)
theorem fact_gather.mono : ∀ a0 k, LeO (fact_gather.f k a0) (fact_gather.f (k + 1) a0) := by
  intro a0 k
  have ih0 := fact_gather.mono_l k
  unfold fact_gather.f
  repeat' first
    | (with_reducible exact ih0 _ _ _ _ _)
    | (with_reducible exact api_Term_51_at52.mono _ _)
    | (with_reducible exact api_Term_53_at54.mono _ _)
    | (with_reducible exact LeO.refl _)
    | (with_reducible exact LeO.none _)
    | (with_reducible refine LeO.ite ?_ ?_)
    | (with_reducible refine LeO.bind ?_ (fun _ => ?_))
    | exact ih0 _ _ _ _ _
    | exact api_Term_51_at52.mono _ _
    | exact api_Term_53_at54.mono _ _
    | exact LeO.none _
    | refine LeO.ite ?_ ?_
    | refine LeO.bind ?_ (fun _ => ?_)
def fact_gather.T8 : Bool × List (List Nat × List Nat) := (true, [([], []), ([0], [0]), ([1], [1]), ([2], [2]), ([2], [2]), ([4, 2], [2, 4]), ([3, 5, 2], [2, 3, 5]), ([6, 2], [2, 6]), ([7, 2], [2, 7]), ([2], [2]), ([9, 2], [2, 9]), ([8, 10, 2], [2, 8, 10]), ([2, 11], [2, 11])])
def fact_gather.B8 : List Nat := [0, 1, 3, 7, 7, 23, 63, 127, 255, 7, 519, 2047, 4095]
theorem fact_gather.tab8 : rtab .any (opsOf Try.f34 8) = fact_gather.T8 := by kernel_rfl
theorem fact_gather.bits8 : waitsOk fact_gather.T8.2 fact_gather.B8 = true := by kernel_rfl
def fact_gather.T9 : Bool × List (List Nat × List Nat) := (true, [([], []), ([], []), ([1], [1]), ([0, 2], [0, 2]), ([3], [3]), ([4], [4]), ([], []), ([6], [6]), ([5, 7], [5, 7]), ([0, 2, 0, 1, 2, 3, 4, 5, 6, 7, 8], [0, 2]), ([9, 0, 1, 2, 3, 4, 5, 6, 7, 8], [9]), ([10, 8, 0, 1, 2, 3, 4, 5, 6, 7, 8], [8, 10])])
def fact_gather.B9 : List Nat := [0, 0, 2, 7, 15, 31, 0, 64, 255, 511, 1023, 2047]
theorem fact_gather.tab9 : rtab .any (opsOf Try.f34 9) = fact_gather.T9 := by kernel_rfl
theorem fact_gather.bits9 : waitsOk fact_gather.T9.2 fact_gather.B9 = true := by kernel_rfl
abbrev fact_gather.b0 : Array Bool := X.bv142
abbrev fact_gather.b1 : Array Bool := X.bv143
abbrev fact_gather.b2 : Array Bool := X.bv144
abbrev fact_gather.b3 : Array Bool := X.bv145
abbrev fact_gather.b4 : Array Bool := X.bv146
abbrev fact_gather.b5 : Array Bool := X.bv147
abbrev fact_gather.b6 : Array Bool := X.bv148
abbrev fact_gather.b7 : Array Bool := X.bv149
abbrev fact_gather.b8 : Array Bool := X.bv150
abbrev fact_gather.b9 : Array Bool := X.bv151
abbrev fact_gather.b10 : Array Bool := X.bv152
abbrev fact_gather.b11 : Array Bool := X.bv153
abbrev fact_gather.b12 : Array Bool := X.bv154
abbrev fact_gather.b13 : Array Bool := X.bv155
abbrev fact_gather.b14 : Array Bool := X.bv114
abbrev fact_gather.b15 : Array Bool := X.bv115
abbrev fact_gather.b16 : Array Bool := X.bv116
abbrev fact_gather.b17 : Array Bool := X.bv117
abbrev fact_gather.b18 : Array Bool := X.bv118
abbrev fact_gather.b19 : Array Bool := X.bv156
abbrev fact_gather.b20 : Array Bool := X.bv157
abbrev fact_gather.b21 : Array Bool := X.bv158
abbrev fact_gather.b22 : Array Bool := X.bv122
abbrev fact_gather.b23 : Array Bool := X.bv123
abbrev fact_gather.b24 : Array Bool := X.bv124
abbrev fact_gather.b25 : Array Bool := X.bv125
abbrev fact_gather.b26 : Array Bool := X.bv126
abbrev fact_gather.b27 : Array Bool := X.bv159
set_option maxHeartbeats 8000000 in
set_option maxRecDepth 100000 in
theorem fact_gather.calls (k : Nat) (A0 : Option Addr) (c0 : Nat) (l0 : List (S44)) (r : List (S44)) (w : World) (hr0 : Kd.C k44 w A0 l0.length l0) (hc0 : l0.length ≤ c0) (h : fact_gather.f k l0 = some r) :
   Calls Try.prog 34 #[.slice A0 l0.length c0] w fun e w' => ∃ v0_ : Value, e = .returned (v0_) ∧ Kd.R k44 44 w' w.heap.size (fun _ => True) v0_ r ∧ Below w.heap.size w w' := by
  have hu44 := Try.underlying44
  have HR0 := Aside0.mk hr0
  have HC0 := Aside0.mk hc0
  clear hr0 hc0
  have HB := Aside0.mk (Below.refl w.heap.size w)
  have H : ((api_Term_50.f l0).bind fun t114 => ((api_Term_51_at52.f k t114).bind fun t117 => (fact_gather.l0 k t117 ([] : List (S44)) t117 (t114.length : Int) 0))) = some r := h
  clear h
  replace H := Option.bind_eq_some_iff.mp H
  obtain ⟨t114, A20, H⟩ := H
  replace H : ((api_Term_51_at52.f k t114).bind fun t117 => (fact_gather.l0 k t117 ([] : List (S44)) t117 (t114.length : Int) 0)) = some r := H
  have A2 := Aside0.mk A20
  clear A20
  replace H := Option.bind_eq_some_iff.mp H
  obtain ⟨t117, A30, H⟩ := H
  replace H : (fact_gather.l0 k t117 ([] : List (S44)) t117 (t114.length : Int) 0) = some r := H
  have A3 := Aside0.mk A30
  clear A30
  have H' := Aside0.mk H
  clear H
  go_enter Try.func34, Try.ntmps34
  go_wp2_with (first | ((with_reducible refine gate_callee (f := 50) rfl ?_); refine goesL_ (some 9) rfl rfl Try.func50 (by kernel_rfl) rfl #[.slice A0 l0.length c0] rfl aM ?_; (with_reducible refine (api_Term_50.calls _ _ l0 t114 _ ?side1 ?side2 A2.out).mono ?_); (case side1 => exact cK HR0.out); (case side2 => exact HC0.out); rintro e w4 ⟨v115, rfl, ho0, hb⟩; refine ⟨_, rfl, ?_⟩; have n0_ := Aside0.mk (Kd.R_lower ho0 (below_size (hB0 HB.out))); have n1_ := Aside0.mk (below_step (hB0 HB.out) hb); clear HB; have HO116 := n0_; have HB := n1_; clear n0_ n1_; (try clear hb); (try clear ho0); obtain ⟨Ao5, co5, eo5⟩ := Kd.R_slice HO116.out; subst eo5) | ((with_reducible refine gate_callee (f := 51) rfl ?_); refine goesL_ (some 11) rfl rfl Try.func51 (by kernel_rfl) rfl #[.slice Ao5 t114.length co5, .func (.func 52) #[] #[]] rfl aM ?_; (with_reducible refine (api_Term_51_at52.calls k (fun k_ => some k_ = (.slice Ao5 t114.length co5 : Value).ownBlock) (.slice Ao5 t114.length co5) t114  t117 w _ ?side1 ?side2 A3.out).mono ?_); (case side1 => repeat (first | (with_reducible first | exact HB.out | apply below_alloc | apply pw_below_drewN | apply below_drew1) | exact HB.out)); (case side2 => exact Kd.R_tight rfl HO116.out); rintro e w6 ⟨rfl, hy0, hb, hkp⟩; refine ⟨_, rfl, ?_⟩; have n0_ := Aside0.mk (Kd.R_reok rfl hy0 (fun k_ e_ => HO116.out.1 k_ e_)); have n1_ := Aside0.mk (hb); clear HO116 HB; have HO116 := n0_; have HB := n1_; clear n0_ n1_; (try clear hb); (try clear hkp); (try clear hy0)))
  (try simp only [Act.put, List.setIfInBounds_toArray, List.set_cons_zero, List.set_cons_succ])
  go_loopg [4, 14] k (fun kq v4 v14 w' => ∃ (x4_1 : List (S44)) (x14_1 : Int), v14 = .int .i64 x14_1 ∧ Aside0 (fact_gather.l0 kq t117 x4_1 t117 (t114.length : Int) x14_1 = some r) ∧ Aside0 (kq ≤ k) ∧ Aside0 (Kd.R k44 44 w' w.heap.size (fun k_ => some k_ ≠ (v4 : Value).ownBlock) (.slice Ao5 t114.length co5) t117) ∧ Aside0 (Kd.R k44 44 w' w.heap.size (fun k_ => some k_ ≠ ((.slice Ao5 t114.length co5) : Value).ownBlock ∧ some k_ ≠ ((.slice Ao5 t114.length co5) : Value).ownBlock) v4 x4_1) ∧ Aside0 (Kd.R k44 44 w' w.heap.size (fun k_ => some k_ ≠ (v4 : Value).ownBlock) (.slice Ao5 t114.length co5) t117) ∧ Aside0 (Below w.heap.size w w'))
  case atStart => exact ⟨(([] : List (S44))), (0), rS, H', ⟨Nat.le_refl _⟩, ⟨by (with_reducible repeat (first | apply Kd.R_alloc | apply Kd.R_drewN | apply Kd.R_drew)); exact Kd.R_mono HO116.out (fun _ hk => (by simp [Value.ownBlock]))⟩, ⟨by first | exact Kd.R_nil _ _ _ _ _ | exact Kd.N_nil _ _ _ _ _ | exact Kd.V_nil _ _ _ _ _ | exact Kd.Q_nil _ _ _ _ _ | exact Kd.S_nil _ _ _ _ _⟩, ⟨by (with_reducible repeat (first | apply Kd.R_alloc | apply Kd.R_drewN | apply Kd.R_drew)); exact Kd.R_mono HO116.out (fun _ hk => (by simp [Value.ownBlock]))⟩, ⟨hB0 HB.out⟩⟩
  case round =>
   clear H'
   obtain ⟨x4_1, x14_1, rfl, HA, HK1, HO_3, HO_4, HO_12, HB⟩ := hrel
   have hl3_1 := (Kd.R_reads' HO_3.out).1
   rw [hl3_1] at HO_3
   (try simp only [hl3_1])
   (try simp only [hl3_1] at HO_4)
   (try simp only [hl3_1] at HO_12)
   cases gk with
   | zero => exact absurd HA.out (by simp [fact_gather.l0])
   | succ k1 =>
    have H := HA.out
    clear HA
    simp only [fact_gather.l0] at H
    by_cases c7 : x14_1 < (t114.length : Int)
    ·rw [if_pos c7] at H
     have c7b0 : decide (x14_1 < (t114.length : Int)) = true := decide_eq_true c7
     (try simp only [hl3_1] at c7b0)
     clear c7
     by_cases c8 : 0 ≤ x14_1
     ·rw [if_pos c8] at H
      have c8b0 : decide (0 ≤ x14_1) = true := decide_eq_true c8
      clear c8
      by_cases c9 : x14_1 < (t117.length : Int)
      ·rw [if_pos c9] at H
       have c9b0 : decide (x14_1 < (t117.length : Int)) = true := decide_eq_true c9
       (try simp only [hl3_1] at c9b0)
       clear c9
       by_cases c10 : x14_1 > 0
       ·rw [if_pos c10] at H
        have c10b0 : decide (0 < x14_1) = true := decide_eq_true c10
        clear c10
        obtain ⟨ji11, hji11⟩ : ∃ j_ : Int, (wrap64 (x14_1 - 1)) = j_ := ⟨_, rfl⟩
        replace H : (if 0 ≤ (ji11) then (if (ji11) < (t117.length : Int) then (if ((rd_T44 t117 (ji11)).f0) = ((rd_T44 t117 x14_1).f0) then (if 0 ≤ (wrap64 ((x4_1.length : Int) - 1)) then (if (wrap64 ((x4_1.length : Int) - 1)) < (x4_1.length : Int) then (fact_gather.l0 k1 t117 (x4_1.set ((wrap64 ((x4_1.length : Int) - 1)) : Int).toNat (⟨(rd_T44 x4_1 (wrap64 ((x4_1.length : Int) - 1))).f0, wrap64 (((rd_T44 x4_1 (wrap64 ((x4_1.length : Int) - 1))).f1) + ((rd_T44 t117 x14_1).f1))⟩ : S44)) t117 (t114.length : Int) (wrap64 (x14_1 + 1))) else (none)) else (none)) else (if x4_1.length < 8796093022208 then (fact_gather.l0 k1 t117 (x4_1 ++ [(⟨(rd_T44 t117 x14_1).f0, (rd_T44 t117 x14_1).f1⟩ : S44)]) t117 (t114.length : Int) (wrap64 (x14_1 + 1))) else (none))) else (none)) else (none)) = some r := by first | (rw [hji11] at H; exact H) | (simp only [hji11] at H ⊢; exact H)
        have hji11w : (IntKind.i64.wrap (x14_1 - 1)) = ji11 := (i64_w _).trans hji11
        by_cases c12 : 0 ≤ (ji11)
        ·rw [if_pos c12] at H
         have c12b0 : decide (0 ≤ (ji11)) = true := decide_eq_true c12
         clear c12
         by_cases c13 : (ji11) < (t117.length : Int)
         ·rw [if_pos c13] at H
          have c13b0 : decide ((ji11) < (t117.length : Int)) = true := decide_eq_true c13
          (try simp only [hl3_1] at c13b0)
          clear c13
          by_cases c14 : ((rd_T44 t117 (ji11)).f0) = ((rd_T44 t117 x14_1).f0)
          ·rw [if_pos c14] at H
           have c14b0 : (((rd_T44 t117 (ji11)).f0) == ((rd_T44 t117 x14_1).f0)) = true := beq_iff_eq.mpr c14
           have c14b1 : (((rd_T44 t117 (ji11)).f0) != ((rd_T44 t117 x14_1).f0)) = false := bne_eq_false_iff_eq.mpr c14
           clear c14
           obtain ⟨ji15, hji15⟩ : ∃ j_ : Int, (wrap64 ((x4_1.length : Int) - 1)) = j_ := ⟨_, rfl⟩
           replace H : (if 0 ≤ (ji15) then (if (ji15) < (x4_1.length : Int) then (fact_gather.l0 k1 t117 (x4_1.set ((ji15) : Int).toNat (⟨(rd_T44 x4_1 (ji15)).f0, wrap64 (((rd_T44 x4_1 (ji15)).f1) + ((rd_T44 t117 x14_1).f1))⟩ : S44)) t117 (t114.length : Int) (wrap64 (x14_1 + 1))) else (none)) else (none)) = some r := by first | (rw [hji15] at H; exact H) | (simp only [hji15] at H ⊢; exact H)
           have hji15w : (IntKind.i64.wrap ((x4_1.length : Int) - 1)) = ji15 := (i64_w _).trans hji15
           by_cases c16 : 0 ≤ (ji15)
           ·rw [if_pos c16] at H
            have c16b0 : decide (0 ≤ (ji15)) = true := decide_eq_true c16
            clear c16
            by_cases c17 : (ji15) < (x4_1.length : Int)
            ·rw [if_pos c17] at H
             have c17b0 : decide ((ji15) < (x4_1.length : Int)) = true := decide_eq_true c17
             (try simp only [hl3_1] at c17b0)
             clear c17
             obtain ⟨y122, hy122⟩ : ∃ y_ : List (S44), y_ = (x4_1.set ((ji15) : Int).toNat (⟨(rd_T44 x4_1 (ji15)).f0, wrap64 (((rd_T44 x4_1 (ji15)).f1) + ((rd_T44 t117 x14_1).f1))⟩ : S44)) := ⟨_, rfl⟩
             replace H : (fact_gather.l0 k1 t117 y122 t117 (t114.length : Int) (wrap64 (x14_1 + 1))) = some r := by first | (rw [hy122]; with_reducible exact H) | (have H2_ := (Option.bind_some _ _).symm.trans H; rw [hy122]; with_reducible exact H2_) | (have H2_ := (Option.bind_some _ _).symm.trans H; with_reducible exact H2_) | with_reducible exact H | (rw [hy122]; exact H) | exact H
             have Ny122 := Aside0.mk hy122
             clear hy122
             have H' := Aside0.mk H
             clear H
             have p118 : 0 ≤ (x14_1 : Int) := oD
             have q118 : x14_1 < (t117.length : Int) := oD
             obtain ⟨ad118, e118, hx118_0, hx118_1⟩ := at_T44 (Kd.R_reads' HO_12.out).2.2 x14_1 p118 q118
             cases e118
             replace p118 := eq_true p118
             replace q118 := eq_true q118
             try go_wp2_with (first | ((with_reducible refine gate_dst (N := 6) rfl ?_); refine box_event ?hg (N := 6) ?hd (cs := #[.int .i64 0, .int .i64 0]) (t := 44) ?hr ?_; (case hd => rfl); (case hg => rfl); (case hr => first | (go_simp; done) | (go_simp; rfl)); intro gb119 hg w19 hbox hb; have n0_ := Aside0.mk (Kd.R_below (Kd.R_elderB (rK HO_3.out) gb119 (Nat.le_of_eq hg.symm)) hb); have n1_ := Aside0.mk (Kd.R_below (Kd.R_elderB (rK HO_4.out) gb119 (Nat.le_of_eq hg.symm)) hb); have n2_ := Aside0.mk (Kd.R_below (Kd.R_elderB (rK HO_12.out) gb119 (Nat.le_of_eq hg.symm)) hb); have n3_ := Aside0.mk (below_step (hB0 HB.out) hb); have n4_ := Aside0.mk (hbox); have n5_ := Aside0.mk ((by rw [hg]; exact (below_size (hB0 HB.out)) : w.heap.size ≤ gb119)); have n6_ := Aside0.mk ((by rw [hg]; exact (below_size (hB0 HB.out)) : w.heap.size ≤ gb119)); clear HO_3 HO_4 HO_12 HB; have HO_3 := n0_; have HO_4 := n1_; have HO_12 := n2_; have HB := n3_; have BK119 := n4_; have GW119 := n5_; have GE119 := n6_; clear n0_ n1_ n2_ n3_ n4_ n5_ n6_; clear hb hbox hg; have hcz20_0 : w19.cell? ⟨gb119, 0, none⟩ = some (.int .i64 0) := (blk_cell BK119.out 0).trans rfl; have hcz20_1 : w19.cell? ⟨gb119, 1, none⟩ = some (.int .i64 0) := (blk_cell BK119.out 1).trans rfl; have hfz20_0 := blk_frozen BK119.out 0; have hfz20_1 := blk_frozen BK119.out 1; obtain ⟨Ao21, co21, eo21⟩ := Kd.R_slice HO_4.out; subst eo21))
             have n0_ : Aside0 (Kd.R k44 44 ((w19.setCell ⟨gb119, 0, none⟩ (.int .i64 ((rd_T44 t117 x14_1).f0))).setCell ⟨gb119, 1, none⟩ (.int .i64 ((rd_T44 t117 x14_1).f1))) w.heap.size (fun k_ => some k_ ≠ (.slice Ao21 x4_1.length co21 : Value).ownBlock ∧ k_ ≠ gb119) (.slice (some ad118) t117.length co5) t117) := ⟨by (with_reducible repeat (first | apply Kd.R_alloc | apply Kd.R_drewN | apply Kd.R_drew)); exact Kd.R_mono (Kd.R_far (p := ⟨gb119, 1, none⟩) (Kd.R_far (p := ⟨gb119, 0, none⟩) (Kd.R_mono HO_3.out (fun k_ hk => (⟨hk, hk.2⟩ : _ ∧ k_ ≠ gb119))) (fun _ hk => hk.2) (.int .i64 ((rd_T44 t117 x14_1).f0))) (fun _ hk => hk.2) (.int .i64 ((rd_T44 t117 x14_1).f1))) (fun _ hk => ⟨hk.1.1, hk.1.2⟩)⟩
             have n1_ : Aside0 (Kd.R k44 44 ((w19.setCell ⟨gb119, 0, none⟩ (.int .i64 ((rd_T44 t117 x14_1).f0))).setCell ⟨gb119, 1, none⟩ (.int .i64 ((rd_T44 t117 x14_1).f1))) w.heap.size (fun k_ => some k_ ≠ (.slice (some ad118) t117.length co5 : Value).ownBlock ∧ some k_ ≠ (.slice (some ad118) t117.length co5 : Value).ownBlock ∧ k_ ≠ gb119) (.slice Ao21 x4_1.length co21) x4_1) := ⟨by (with_reducible repeat (first | apply Kd.R_alloc | apply Kd.R_drewN | apply Kd.R_drew)); exact Kd.R_mono (Kd.R_far (p := ⟨gb119, 1, none⟩) (Kd.R_far (p := ⟨gb119, 0, none⟩) (Kd.R_mono HO_4.out (fun k_ hk => (⟨hk, hk.2⟩ : _ ∧ k_ ≠ gb119))) (fun _ hk => hk.2) (.int .i64 ((rd_T44 t117 x14_1).f0))) (fun _ hk => hk.2) (.int .i64 ((rd_T44 t117 x14_1).f1))) (fun _ hk => ⟨hk.1.1.1, ⟨hk.1.1.2, hk.1.2⟩⟩)⟩
             have n2_ : Aside0 (Kd.R k44 44 ((w19.setCell ⟨gb119, 0, none⟩ (.int .i64 ((rd_T44 t117 x14_1).f0))).setCell ⟨gb119, 1, none⟩ (.int .i64 ((rd_T44 t117 x14_1).f1))) w.heap.size (fun k_ => some k_ ≠ (.slice Ao21 x4_1.length co21 : Value).ownBlock ∧ k_ ≠ gb119) (.slice (some ad118) t117.length co5) t117) := ⟨by (with_reducible repeat (first | apply Kd.R_alloc | apply Kd.R_drewN | apply Kd.R_drew)); exact Kd.R_mono (Kd.R_far (p := ⟨gb119, 1, none⟩) (Kd.R_far (p := ⟨gb119, 0, none⟩) (Kd.R_mono HO_12.out (fun k_ hk => (⟨hk, hk.2⟩ : _ ∧ k_ ≠ gb119))) (fun _ hk => hk.2) (.int .i64 ((rd_T44 t117 x14_1).f0))) (fun _ hk => hk.2) (.int .i64 ((rd_T44 t117 x14_1).f1))) (fun _ hk => ⟨hk.1.1, hk.1.2⟩)⟩
             have n3_ : Aside0 (((w19.setCell ⟨gb119, 0, none⟩ (.int .i64 ((rd_T44 t117 x14_1).f0))).setCell ⟨gb119, 1, none⟩ (.int .i64 ((rd_T44 t117 x14_1).f1))).heap[gb119]? = some (.cells #[.int .i64 ((rd_T44 t117 x14_1).f0), .int .i64 ((rd_T44 t117 x14_1).f1)] 44 (0, 0))) := ⟨by (with_reducible repeat (first | refine blk_drewN ?_ _ | refine blk_drew ?_ | refine blk_alloc ?_ _)); refine blk_put (cs := #[.int .i64 ((rd_T44 t117 x14_1).f0), .int .i64 0]) ?_ 1 _ rfl; (with_reducible repeat (first | refine blk_drewN ?_ _ | refine blk_drew ?_ | refine blk_alloc ?_ _)); refine blk_put (cs := #[.int .i64 0, .int .i64 0]) ?_ 0 _ rfl; (with_reducible repeat (first | refine blk_drewN ?_ _ | refine blk_drew ?_ | refine blk_alloc ?_ _)); exact BK119.out⟩
             have n4_ : Aside0 (Below w.heap.size w ((w19.setCell ⟨gb119, 0, none⟩ (.int .i64 ((rd_T44 t117 x14_1).f0))).setCell ⟨gb119, 1, none⟩ (.int .i64 ((rd_T44 t117 x14_1).f1)))) := ⟨hB1 HB.out GE119.out⟩
             (try clear HO_3)
             (try clear HO_4)
             (try clear HO_12)
             (try clear BK119)
             (try clear HB)
             generalize ((w19.setCell ⟨gb119, 0, none⟩ (.int .i64 ((rd_T44 t117 x14_1).f0))).setCell ⟨gb119, 1, none⟩ (.int .i64 ((rd_T44 t117 x14_1).f1))) = w22 at n0_ n1_ n2_ n3_ n4_ ⊢
             have HO_3 := n0_
             have HO_4 := n1_
             have HO_12 := n2_
             have BK119 := n3_
             have HB := n4_
             clear n0_ n1_ n2_ n3_ n4_
             have n0_ := Aside0.mk (Kd.R_drew HO_3.out)
             have n1_ := Aside0.mk (Kd.R_drew HO_4.out)
             have n2_ := Aside0.mk (Kd.R_drew HO_12.out)
             have n3_ := Aside0.mk (blk_drew BK119.out)
             have n4_ := Aside0.mk (below_drew1 HB.out)
             clear HO_3
             clear HO_4
             clear HO_12
             clear BK119
             clear HB
             have HO_3 := n0_
             have HO_4 := n1_
             have HO_12 := n2_
             have BK119 := n3_
             have HB := n4_
             clear n0_ n1_ n2_ n3_ n4_
             have p120 : 0 ≤ ((ji11) : Int) := oD
             have q120 : (ji11) < (t117.length : Int) := oD
             obtain ⟨ad120, e120, hx120_0, hx120_1⟩ := at_T44 (Kd.R_reads' HO_3.out).2.2 (ji11) p120 q120
             obtain rfl : ad118 = ad120 := (by injection e120)
             replace p120 := eq_true p120
             replace q120 := eq_true q120
             refine start_ (n := 13) (S := fun w' => w'.cell? ⟨gb119, 0, none⟩ = some (.int .i64 ((rd_T44 t117 x14_1).f0)) ∧ w'.cell? ⟨gb119, 1, none⟩ = some (.int .i64 ((rd_T44 t117 x14_1).f1)) ∧ w'.cell? (ad118.add (((ji11)).toNat * 2)) = some (.int .i64 ((rd_T44 t117 (ji11)).f0)) ∧ w'.cell? ⟨(ad118.add (((ji11)).toNat * 2)).block, (ad118.add (((ji11)).toNat * 2)).off + 1, none⟩ = some (.int .i64 ((rd_T44 t117 (ji11)).f1))) (ds := []) fact_gather.b0 (by kernel_rfl) rfl rfl ⟨(blk_cell BK119.out 0).trans rfl, (blk_cell BK119.out 1).trans rfl, hx120_0, hx120_1⟩ (fun hHeld => ?_); refine with_tabW fact_gather.tab8 fact_gather.bits8 (fun HT_ HW_ => ?_)
             generalize w22.drew = w23 at HO_3 HO_4 HO_12 BK119 HB hx120_0 hx120_1 hHeld ⊢
             refine pY 0 (some 21) fact_gather.b1 rfl rfl HT_.out (fun _ _ _ h => h) ?_
             refine pY 1 (some 22) fact_gather.b2 rfl rfl HT_.out (fun _ _ _ h => h) ?_
             refine pY 2 (some 23) fact_gather.b3 rfl rfl HT_.out (fun _ _ _ h => h) ?_
             refine pY 3 (some 24) fact_gather.b4 rfl rfl HT_.out (fun _ _ _ h => h) ?_
             refine pY 4 (some 25) fact_gather.b5 rfl rfl HT_.out (fun _ _ _ h => h) ?_
             refine pY 5 (some 26) fact_gather.b6 rfl rfl HT_.out (fun _ _ _ h => h) ?_
             refine pY 6 (some 27) fact_gather.b7 rfl rfl HT_.out (fun _ _ _ h => h) ?_
             refine pY 7 (some 28) fact_gather.b8 rfl rfl HT_.out (fun _ _ _ h => h) ?_
             refine pY 9 (some 30) fact_gather.b9 rfl rfl HT_.out (fun _ _ _ h => h) ?_
             refine take_ (i := 8) (N := some 29) (v := ?_) (a' := ?_) fact_gather.b10 rfl rfl (take_ofW HT_.out HW_.out (by kernel_rfl)) (fun _ _ _ h => h) (Or.inl ⟨by rfl, ?_⟩) hHeld ?_ ?_
             rotate_left
             ·rintro w' ⟨s0, s1, s2, s3⟩
              go_simp
              with_reducible rfl
             rotate_left
             ·simp only [Act.put, List.setIfInBounds_toArray, List.set_cons_zero, List.set_cons_succ, i64_w, i32_w]
              rfl
             refine take_ (i := 10) (N := some 31) (v := ?_) (a' := ?_) fact_gather.b11 rfl rfl (take_ofW HT_.out HW_.out (by kernel_rfl)) (fun _ _ _ h => h) (Or.inl ⟨by rfl, ?_⟩) hHeld ?_ ?_
             rotate_left
             ·rintro w' ⟨s0, s1, s2, s3⟩
              go_simp
              with_reducible rfl
             rotate_left
             ·simp only [Act.put, List.setIfInBounds_toArray, List.set_cons_zero, List.set_cons_succ, i64_w, i32_w]
              rfl
             refine pY 11 (some 32) fact_gather.b12 rfl rfl HT_.out (fun _ _ _ h => h) ?_
             refine pY 12 (some 33) fact_gather.b13 rfl rfl HT_.out (fun _ _ _ h => h) ?_
             refine done_ (done_of HT_.out (by kernel_rfl)) ?_
             try go_wp2
             have n0_ := Aside0.mk (Kd.R_drew HO_3.out)
             have n1_ := Aside0.mk (Kd.R_drew HO_4.out)
             have n2_ := Aside0.mk (Kd.R_drew HO_12.out)
             have n3_ := Aside0.mk (blk_drew BK119.out)
             have n4_ := Aside0.mk (below_drew1 HB.out)
             clear HO_3
             clear HO_4
             clear HO_12
             clear BK119
             clear HB
             have HO_3 := n0_
             have HO_4 := n1_
             have HO_12 := n2_
             have BK119 := n3_
             have HB := n4_
             clear n0_ n1_ n2_ n3_ n4_
             have p121 : 0 ≤ ((ji15) : Int) := oD
             have q121 : (ji15) < (x4_1.length : Int) := oD
             obtain ⟨ad121, e121, hx121_0, hx121_1⟩ := at_T44 (Kd.R_reads' HO_4.out).2.2 (ji15) p121 q121
             cases e121
             replace p121 := eq_true p121
             replace q121 := eq_true q121
             have p18 : 0 ≤ ((ji15) : Int) := oD
             have q18 : ((ji15) : Int) < ((x4_1.length : Int) : Int) := oD
             obtain ⟨go18, co18, eo18, gb18, gl18, cl18, HG18⟩ := Kd.R_form HO_4.out (by omega)
             (first | cases eo18 | (injection eo18 with ea_ en_ ec_; (first | subst ea_ | (injection ea_ with ea_; subst ea_)); subst ec_; clear en_))
             have GB18 := Aside0.mk gb18
             have GG18 := Aside0.mk HG18
             clear gb18 gl18 HG18
             (first | simp only [add_plain] at hx121_0 | skip)
             (first | simp only [add_plain] at hx121_1 | skip)
             obtain ⟨ce18, hcl18, hM18, hcc18, hfr18⟩ := Kd.R_elem HO_4.out z44 ((ji15) : Int) p18 q18
             obtain rfl := k44_openM hM18
             have hx18_0 : World.cell? _ ⟨go18, ((ji15) : Int).toNat * 2, none⟩ = some (.int .i64 ((rd_T44 x4_1 (ji15)).f0)) := hcc18 0 _ rfl
             have hx18_1 : World.cell? _ ⟨go18, ((ji15) : Int).toNat * 2 + 1, none⟩ = some (.int .i64 ((rd_T44 x4_1 (ji15)).f1)) := hcc18 1 _ rfl
             have hf18_0 : World.frozen? _ ⟨go18, ((ji15) : Int).toNat * 2, none⟩ = false := hfr18 0
             have hf18_1 : World.frozen? _ ⟨go18, ((ji15) : Int).toNat * 2 + 1, none⟩ = false := hfr18 1
             clear hcl18 hcc18 hfr18 hM18
             replace p18 := eq_true p18
             replace q18 := eq_true q18
             obtain ⟨ce25, hcl25, hM25, hcc25, hfr25⟩ := Kd.R_elem HO_4.out z44 ((ji15) : Int) (oD) (by have h_ : ((ji15) : Int) < ((x4_1.length : Int) : Int) := oD; first | exact h_ | (have e_ := (Kd.R_reads' HO_4.out).1; omega) | simpa using h_)
             obtain rfl := k44_openM hM25
             have HP25 := (Kd.R_seg HO_4.out ((ji15) : Int) (oD) (by have h_ : ((ji15) : Int) < ((x4_1.length : Int) : Int) := oD; first | exact h_ | (have e_ := (Kd.R_reads' HO_4.out).1; omega) | simpa using h_) (seg := [.int .i64 (wrap64 (((rd_T44 x4_1 (ji15)).f1) + ((rd_T44 t117 x14_1).f1)))]) (j := 1) hcl25 hcc25 (show 2 ≤ 2 from by decide) (x' := (⟨(rd_T44 x4_1 (ji15)).f0, wrap64 (((rd_T44 x4_1 (ji15)).f1) + ((rd_T44 t117 x14_1).f1))⟩ : S44)) (k44_mkM _ _ _ (⟨(rd_T44 x4_1 (ji15)).f0, wrap64 (((rd_T44 x4_1 (ji15)).f1) + ((rd_T44 t117 x14_1).f1))⟩ : S44) ) (fun _ hk => hk)).1
             rw [← Ny122.out] at HP25
             have HQ25 := Aside0.mk HP25
             clear hcl25 hcc25 hfr25 hM25 HP25
             refine start_ (n := 12) (S := fun w' => w'.cell? ⟨gb119, 0, none⟩ = some (.int .i64 ((rd_T44 t117 x14_1).f0)) ∧ w'.cell? ⟨gb119, 1, none⟩ = some (.int .i64 ((rd_T44 t117 x14_1).f1)) ∧ w'.cell? ⟨go18, ((ji15)).toNat * 2, none⟩ = some (.int .i64 ((rd_T44 x4_1 (ji15)).f0)) ∧ w'.cell? ⟨go18, (((ji15)).toNat * 2) + 1, none⟩ = some (.int .i64 ((rd_T44 x4_1 (ji15)).f1))) (ds := [11]) fact_gather.b14 (by kernel_rfl) rfl rfl ⟨(blk_cell BK119.out 0).trans rfl, (blk_cell BK119.out 1).trans rfl, hx121_0, hx121_1⟩ (fun hHeld => ?_); refine with_tabW fact_gather.tab9 fact_gather.bits9 (fun HT_ HW_ => ?_)
             generalize w23.drew = w24 at HO_3 HO_4 HO_12 BK119 HB GG18 HQ25 hf18_0 hf18_1 hx121_0 hx121_1 hx18_0 hx18_1 hHeld ⊢
             refine pY 0 (some 34) fact_gather.b15 rfl rfl HT_.out (fun _ _ _ h => h) ?_
             refine pY 1 (some 35) fact_gather.b16 rfl rfl HT_.out (fun _ _ _ h => h) ?_
             refine pY 2 (some 36) fact_gather.b17 rfl rfl HT_.out (fun _ _ _ h => h) ?_
             refine pY 3 (some 37) fact_gather.b18 rfl rfl HT_.out (fun _ _ _ h => h) ?_
             refine pY 4 (some 38) fact_gather.b19 rfl rfl HT_.out (fun _ _ _ h => h) ?_
             refine pY 6 (some 40) fact_gather.b20 rfl rfl HT_.out (fun _ _ _ h => h) ?_
             refine take_ (i := 5) (N := some 39) (v := ?_) (a' := ?_) fact_gather.b21 rfl rfl (take_ofW HT_.out HW_.out (by kernel_rfl)) (fun _ _ _ h => h) (Or.inl ⟨by rfl, ?_⟩) hHeld ?_ ?_
             rotate_left
             ·rintro w' ⟨s0, s1, s2, s3⟩
              go_simp
              with_reducible rfl
             rotate_left
             ·simp only [Act.put, List.setIfInBounds_toArray, List.set_cons_zero, List.set_cons_succ, i64_w, i32_w]
              rfl
             refine take_ (i := 7) (N := some 41) (v := ?_) (a' := ?_) fact_gather.b22 rfl rfl (take_ofW HT_.out HW_.out (by kernel_rfl)) (fun _ _ _ h => h) (Or.inl ⟨by rfl, ?_⟩) hHeld ?_ ?_
             rotate_left
             ·rintro w' ⟨s0, s1, s2, s3⟩
              go_simp
              with_reducible rfl
             rotate_left
             ·simp only [Act.put, List.setIfInBounds_toArray, List.set_cons_zero, List.set_cons_succ, i64_w, i32_w]
              rfl
             refine pY 8 (some 42) fact_gather.b23 rfl rfl HT_.out (fun _ _ _ h => h) ?_
             refine pY 9 (some 43) fact_gather.b24 rfl rfl HT_.out (fun _ _ _ h => h) ?_
             refine pY 10 (some 44) fact_gather.b25 rfl rfl HT_.out (fun _ _ _ h => h) ?_
             refine last_ (i := 11) (N := none) fact_gather.b26 rfl rfl (one_of HT_.out (by kernel_rfl)) (by decide) (fun K hK => ?_)
             refine skip_ (w1 := ?_) (by rfl) rfl ?_ ?_
             rotate_left
             ·go_simp
              rfl
             refine hK.out _ _ ?_
             clear hK K
             refine done_ (done_of HT_.out (by kernel_rfl)) ?_
             try go_wp2
             (try simp only [← hl3_1])
             go_roundg k1
             case measure => have := HK1.out; omega
             case rel => exact ⟨(y122), (wrap64 (x14_1 + 1)), rS, H', ⟨by have := HK1.out; omega⟩, ⟨by (try simp only [hl3_1]); (with_reducible repeat (first | apply Kd.R_alloc | apply Kd.R_drewN | apply Kd.R_drew)); exact Kd.R_mono (Kd.R_far (p := ⟨go18, ((ji15) : Int).toNat * 2 + 1, none⟩) (Kd.R_mono HO_3.out (fun k_ hk => (⟨hk, fun e_ => hk.1 (by rw [e_]; rfl)⟩ : _ ∧ k_ ≠ go18))) (fun _ hk => hk.2) (.int .i64 (wrap64 (((rd_T44 x4_1 (ji15)).f1) + ((rd_T44 t117 x14_1).f1))))) (fun _ hk => hk.1.1)⟩, ⟨by (try simp only [hl3_1]); (with_reducible repeat (first | apply Kd.R_alloc | apply Kd.R_drewN | apply Kd.R_drew)); exact Kd.R_mono HQ25.out (fun _ hk => ⟨hk.1, hk.2.1⟩)⟩, ⟨by (try simp only [hl3_1]); (with_reducible repeat (first | apply Kd.R_alloc | apply Kd.R_drewN | apply Kd.R_drew)); exact Kd.R_mono (Kd.R_far (p := ⟨go18, ((ji15) : Int).toNat * 2 + 1, none⟩) (Kd.R_mono HO_12.out (fun k_ hk => (⟨hk, fun e_ => hk.1 (by rw [e_]; rfl)⟩ : _ ∧ k_ ≠ go18))) (fun _ hk => hk.2) (.int .i64 (wrap64 (((rd_T44 x4_1 (ji15)).f1) + ((rd_T44 t117 x14_1).f1))))) (fun _ hk => hk.1.1)⟩, ⟨hB2 HB.out GB18.out GE119.out⟩⟩
            ·rw [if_neg c17] at H
             exact absurd H (by simp)
           ·rw [if_neg c16] at H
            exact absurd H (by simp)
          ·rw [if_neg c14] at H
           have c14b0 : (((rd_T44 t117 (ji11)).f0) == ((rd_T44 t117 x14_1).f0)) = false := beq_eq_false_iff_ne.mpr c14
           have c14b1 : (((rd_T44 t117 (ji11)).f0) != ((rd_T44 t117 x14_1).f0)) = true := bne_iff_ne.mpr c14
           by_cases c26 : x4_1.length < 8796093022208
           ·rw [if_pos c26] at H
            have LMc26 := Aside0.mk c26
            clear c26
            obtain ⟨y123, hy123⟩ : ∃ y_ : List (S44), y_ = (x4_1 ++ [(⟨(rd_T44 t117 x14_1).f0, (rd_T44 t117 x14_1).f1⟩ : S44)]) := ⟨_, rfl⟩
            replace H : (fact_gather.l0 k1 t117 y123 t117 (t114.length : Int) (wrap64 (x14_1 + 1))) = some r := by first | (rw [hy123]; with_reducible exact H) | (have H2_ := (Option.bind_some _ _).symm.trans H; rw [hy123]; with_reducible exact H2_) | (have H2_ := (Option.bind_some _ _).symm.trans H; with_reducible exact H2_) | with_reducible exact H | (rw [hy123]; exact H) | exact H
            have Ny123 := Aside0.mk hy123
            clear hy123
            have H' := Aside0.mk H
            clear H
            have p118 : 0 ≤ (x14_1 : Int) := oD
            have q118 : x14_1 < (t117.length : Int) := oD
            obtain ⟨ad118, e118, hx118_0, hx118_1⟩ := at_T44 (Kd.R_reads' HO_12.out).2.2 x14_1 p118 q118
            cases e118
            replace p118 := eq_true p118
            replace q118 := eq_true q118
            try go_wp2_with (first | ((with_reducible refine gate_dst (N := 6) rfl ?_); refine box_event ?hg (N := 6) ?hd (cs := #[.int .i64 0, .int .i64 0]) (t := 44) ?hr ?_; (case hd => rfl); (case hg => rfl); (case hr => first | (go_simp; done) | (go_simp; rfl)); intro gb119 hg w27 hbox hb; have n0_ := Aside0.mk (Kd.R_below (Kd.R_elderB (rK HO_3.out) gb119 (Nat.le_of_eq hg.symm)) hb); have n1_ := Aside0.mk (Kd.R_below (Kd.R_elderB (rK HO_4.out) gb119 (Nat.le_of_eq hg.symm)) hb); have n2_ := Aside0.mk (Kd.R_below (Kd.R_elderB (rK HO_12.out) gb119 (Nat.le_of_eq hg.symm)) hb); have n3_ := Aside0.mk (below_step (hB0 HB.out) hb); have n4_ := Aside0.mk (hbox); have n5_ := Aside0.mk ((by rw [hg]; exact (below_size (hB0 HB.out)) : w.heap.size ≤ gb119)); have n6_ := Aside0.mk ((by rw [hg]; exact (below_size (hB0 HB.out)) : w.heap.size ≤ gb119)); clear HO_3 HO_4 HO_12 HB; have HO_3 := n0_; have HO_4 := n1_; have HO_12 := n2_; have HB := n3_; have BK119 := n4_; have GW119 := n5_; have GE119 := n6_; clear n0_ n1_ n2_ n3_ n4_ n5_ n6_; clear hb hbox hg; have hcz28_0 : w27.cell? ⟨gb119, 0, none⟩ = some (.int .i64 0) := (blk_cell BK119.out 0).trans rfl; have hcz28_1 : w27.cell? ⟨gb119, 1, none⟩ = some (.int .i64 0) := (blk_cell BK119.out 1).trans rfl; have hfz28_0 := blk_frozen BK119.out 0; have hfz28_1 := blk_frozen BK119.out 1; obtain ⟨Ao29, co29, eo29⟩ := Kd.R_slice HO_4.out; subst eo29))
            have n0_ : Aside0 (Kd.R k44 44 ((w27.setCell ⟨gb119, 0, none⟩ (.int .i64 ((rd_T44 t117 x14_1).f0))).setCell ⟨gb119, 1, none⟩ (.int .i64 ((rd_T44 t117 x14_1).f1))) w.heap.size (fun k_ => some k_ ≠ (.slice Ao29 x4_1.length co29 : Value).ownBlock ∧ k_ ≠ gb119) (.slice (some ad118) t117.length co5) t117) := ⟨by (with_reducible repeat (first | apply Kd.R_alloc | apply Kd.R_drewN | apply Kd.R_drew)); exact Kd.R_mono (Kd.R_far (p := ⟨gb119, 1, none⟩) (Kd.R_far (p := ⟨gb119, 0, none⟩) (Kd.R_mono HO_3.out (fun k_ hk => (⟨hk, hk.2⟩ : _ ∧ k_ ≠ gb119))) (fun _ hk => hk.2) (.int .i64 ((rd_T44 t117 x14_1).f0))) (fun _ hk => hk.2) (.int .i64 ((rd_T44 t117 x14_1).f1))) (fun _ hk => ⟨hk.1.1, hk.1.2⟩)⟩
            have n1_ : Aside0 (Kd.R k44 44 ((w27.setCell ⟨gb119, 0, none⟩ (.int .i64 ((rd_T44 t117 x14_1).f0))).setCell ⟨gb119, 1, none⟩ (.int .i64 ((rd_T44 t117 x14_1).f1))) w.heap.size (fun k_ => some k_ ≠ (.slice (some ad118) t117.length co5 : Value).ownBlock ∧ some k_ ≠ (.slice (some ad118) t117.length co5 : Value).ownBlock ∧ k_ ≠ gb119) (.slice Ao29 x4_1.length co29) x4_1) := ⟨by (with_reducible repeat (first | apply Kd.R_alloc | apply Kd.R_drewN | apply Kd.R_drew)); exact Kd.R_mono (Kd.R_far (p := ⟨gb119, 1, none⟩) (Kd.R_far (p := ⟨gb119, 0, none⟩) (Kd.R_mono HO_4.out (fun k_ hk => (⟨hk, hk.2⟩ : _ ∧ k_ ≠ gb119))) (fun _ hk => hk.2) (.int .i64 ((rd_T44 t117 x14_1).f0))) (fun _ hk => hk.2) (.int .i64 ((rd_T44 t117 x14_1).f1))) (fun _ hk => ⟨hk.1.1.1, ⟨hk.1.1.2, hk.1.2⟩⟩)⟩
            have n2_ : Aside0 (Kd.R k44 44 ((w27.setCell ⟨gb119, 0, none⟩ (.int .i64 ((rd_T44 t117 x14_1).f0))).setCell ⟨gb119, 1, none⟩ (.int .i64 ((rd_T44 t117 x14_1).f1))) w.heap.size (fun k_ => some k_ ≠ (.slice Ao29 x4_1.length co29 : Value).ownBlock ∧ k_ ≠ gb119) (.slice (some ad118) t117.length co5) t117) := ⟨by (with_reducible repeat (first | apply Kd.R_alloc | apply Kd.R_drewN | apply Kd.R_drew)); exact Kd.R_mono (Kd.R_far (p := ⟨gb119, 1, none⟩) (Kd.R_far (p := ⟨gb119, 0, none⟩) (Kd.R_mono HO_12.out (fun k_ hk => (⟨hk, hk.2⟩ : _ ∧ k_ ≠ gb119))) (fun _ hk => hk.2) (.int .i64 ((rd_T44 t117 x14_1).f0))) (fun _ hk => hk.2) (.int .i64 ((rd_T44 t117 x14_1).f1))) (fun _ hk => ⟨hk.1.1, hk.1.2⟩)⟩
            have n3_ : Aside0 (((w27.setCell ⟨gb119, 0, none⟩ (.int .i64 ((rd_T44 t117 x14_1).f0))).setCell ⟨gb119, 1, none⟩ (.int .i64 ((rd_T44 t117 x14_1).f1))).heap[gb119]? = some (.cells #[.int .i64 ((rd_T44 t117 x14_1).f0), .int .i64 ((rd_T44 t117 x14_1).f1)] 44 (0, 0))) := ⟨by (with_reducible repeat (first | refine blk_drewN ?_ _ | refine blk_drew ?_ | refine blk_alloc ?_ _)); refine blk_put (cs := #[.int .i64 ((rd_T44 t117 x14_1).f0), .int .i64 0]) ?_ 1 _ rfl; (with_reducible repeat (first | refine blk_drewN ?_ _ | refine blk_drew ?_ | refine blk_alloc ?_ _)); refine blk_put (cs := #[.int .i64 0, .int .i64 0]) ?_ 0 _ rfl; (with_reducible repeat (first | refine blk_drewN ?_ _ | refine blk_drew ?_ | refine blk_alloc ?_ _)); exact BK119.out⟩
            have n4_ : Aside0 (Below w.heap.size w ((w27.setCell ⟨gb119, 0, none⟩ (.int .i64 ((rd_T44 t117 x14_1).f0))).setCell ⟨gb119, 1, none⟩ (.int .i64 ((rd_T44 t117 x14_1).f1)))) := ⟨hB1 HB.out GE119.out⟩
            (try clear HO_3)
            (try clear HO_4)
            (try clear HO_12)
            (try clear BK119)
            (try clear HB)
            generalize ((w27.setCell ⟨gb119, 0, none⟩ (.int .i64 ((rd_T44 t117 x14_1).f0))).setCell ⟨gb119, 1, none⟩ (.int .i64 ((rd_T44 t117 x14_1).f1))) = w30 at n0_ n1_ n2_ n3_ n4_ ⊢
            have HO_3 := n0_
            have HO_4 := n1_
            have HO_12 := n2_
            have BK119 := n3_
            have HB := n4_
            clear n0_ n1_ n2_ n3_ n4_
            have n0_ := Aside0.mk (Kd.R_drew HO_3.out)
            have n1_ := Aside0.mk (Kd.R_drew HO_4.out)
            have n2_ := Aside0.mk (Kd.R_drew HO_12.out)
            have n3_ := Aside0.mk (blk_drew BK119.out)
            have n4_ := Aside0.mk (below_drew1 HB.out)
            clear HO_3
            clear HO_4
            clear HO_12
            clear BK119
            clear HB
            have HO_3 := n0_
            have HO_4 := n1_
            have HO_12 := n2_
            have BK119 := n3_
            have HB := n4_
            clear n0_ n1_ n2_ n3_ n4_
            have p120 : 0 ≤ ((ji11) : Int) := oD
            have q120 : (ji11) < (t117.length : Int) := oD
            obtain ⟨ad120, e120, hx120_0, hx120_1⟩ := at_T44 (Kd.R_reads' HO_3.out).2.2 (ji11) p120 q120
            obtain rfl : ad118 = ad120 := (by injection e120)
            replace p120 := eq_true p120
            replace q120 := eq_true q120
            refine start_ (n := 13) (S := fun w' => w'.cell? ⟨gb119, 0, none⟩ = some (.int .i64 ((rd_T44 t117 x14_1).f0)) ∧ w'.cell? ⟨gb119, 1, none⟩ = some (.int .i64 ((rd_T44 t117 x14_1).f1)) ∧ w'.cell? (ad118.add (((ji11)).toNat * 2)) = some (.int .i64 ((rd_T44 t117 (ji11)).f0)) ∧ w'.cell? ⟨(ad118.add (((ji11)).toNat * 2)).block, (ad118.add (((ji11)).toNat * 2)).off + 1, none⟩ = some (.int .i64 ((rd_T44 t117 (ji11)).f1))) (ds := []) fact_gather.b0 (by kernel_rfl) rfl rfl ⟨(blk_cell BK119.out 0).trans rfl, (blk_cell BK119.out 1).trans rfl, hx120_0, hx120_1⟩ (fun hHeld => ?_); refine with_tabW fact_gather.tab8 fact_gather.bits8 (fun HT_ HW_ => ?_)
            generalize w30.drew = w31 at HO_3 HO_4 HO_12 BK119 HB hx120_0 hx120_1 hHeld ⊢
            refine pY 0 (some 21) fact_gather.b1 rfl rfl HT_.out (fun _ _ _ h => h) ?_
            refine pY 1 (some 22) fact_gather.b2 rfl rfl HT_.out (fun _ _ _ h => h) ?_
            refine pY 2 (some 23) fact_gather.b3 rfl rfl HT_.out (fun _ _ _ h => h) ?_
            refine pY 3 (some 24) fact_gather.b4 rfl rfl HT_.out (fun _ _ _ h => h) ?_
            refine pY 4 (some 25) fact_gather.b5 rfl rfl HT_.out (fun _ _ _ h => h) ?_
            refine pY 5 (some 26) fact_gather.b6 rfl rfl HT_.out (fun _ _ _ h => h) ?_
            refine pY 6 (some 27) fact_gather.b7 rfl rfl HT_.out (fun _ _ _ h => h) ?_
            refine pY 7 (some 28) fact_gather.b8 rfl rfl HT_.out (fun _ _ _ h => h) ?_
            refine pY 9 (some 30) fact_gather.b9 rfl rfl HT_.out (fun _ _ _ h => h) ?_
            refine take_ (i := 8) (N := some 29) (v := ?_) (a' := ?_) fact_gather.b10 rfl rfl (take_ofW HT_.out HW_.out (by kernel_rfl)) (fun _ _ _ h => h) (Or.inl ⟨by rfl, ?_⟩) hHeld ?_ ?_
            rotate_left
            ·rintro w' ⟨s0, s1, s2, s3⟩
             go_simp
             with_reducible rfl
            rotate_left
            ·simp only [Act.put, List.setIfInBounds_toArray, List.set_cons_zero, List.set_cons_succ, i64_w, i32_w]
             rfl
            refine take_ (i := 10) (N := some 31) (v := ?_) (a' := ?_) fact_gather.b11 rfl rfl (take_ofW HT_.out HW_.out (by kernel_rfl)) (fun _ _ _ h => h) (Or.inl ⟨by rfl, ?_⟩) hHeld ?_ ?_
            rotate_left
            ·rintro w' ⟨s0, s1, s2, s3⟩
             go_simp
             with_reducible rfl
            rotate_left
            ·simp only [Act.put, List.setIfInBounds_toArray, List.set_cons_zero, List.set_cons_succ, i64_w, i32_w]
             rfl
            refine pY 11 (some 32) fact_gather.b12 rfl rfl HT_.out (fun _ _ _ h => h) ?_
            refine pY 12 (some 33) fact_gather.b13 rfl rfl HT_.out (fun _ _ _ h => h) ?_
            refine done_ (done_of HT_.out (by kernel_rfl)) ?_
            have hcz32_0 : w31.cell? ⟨gb119, 0, none⟩ = some (.int .i64 ((rd_T44 t117 x14_1).f0)) := (blk_cell BK119.out 0).trans rfl
            have hcz32_1 : w31.cell? ⟨gb119, 1, none⟩ = some (.int .i64 ((rd_T44 t117 x14_1).f1)) := (blk_cell BK119.out 1).trans rfl
            have hfz32_0 := blk_frozen BK119.out 0
            have hfz32_1 := blk_frozen BK119.out 1
            try go_wp2_with (first | ((with_reducible refine gate_builtin (b := .append) (xs := #[.tmp 45, .tmp 47]) rfl ?_); at_builtin; refine Kd.R_append k44 (w0 := w) w.heap.size rfl (.tmp 45) (.tmp 47) 28 44 (.agg #[(.int .i64 0), (.int .i64 0)]) 16 rfl Try.underlying28 info44 rfl (by decide) (by omega) (.slice Ao29 x4_1.length co29) x4_1 (⟨(rd_T44 t117 x14_1).f0, (rd_T44 t117 x14_1).f1⟩ : S44) [.int .i64 ((rd_T44 t117 x14_1).f0), .int .i64 ((rd_T44 t117 x14_1).f1)] (fun k_ => some k_ ≠ (.slice (some ad118) t117.length co5 : Value).ownBlock ∧ some k_ ≠ (.slice (some ad118) t117.length co5 : Value).ownBlock ∧ k_ ≠ gb119) (fun _ => False) rfl rfl ?aP (fun _ hk => hk.elim) ?aF ?aO ?aB ?aS ?aL ?_; (case aP => exact k44_mkM _ _ _ (⟨(rd_T44 t117 x14_1).f0, (rd_T44 t117 x14_1).f1⟩ : S44)); (case aB => exact (hB1 HB.out GE119.out)); (case aF => exact (fun k_ hk => ⟨Kd.fresh' (Kd.R_lt (rK HO_3.out)) k_ hk, Kd.fresh' (Kd.R_lt (rK HO_12.out)) k_ hk, Kd.freshB (g := gb119) (o := .cells #[.int .i64 ((rd_T44 t117 x14_1).f0), .int .i64 ((rd_T44 t117 x14_1).f1)] 44 (0, 0)) (bK BK119.out) k_ hk⟩)); (case aO => exact (rK HO_4.out)); (case aS => exact (below_size (hB1 HB.out GE119.out))); (case aL => have := LMc26.out; omega); intro v124 w33 ho hb hg hat; rw [← Ny123.out] at ho; have n0_ := Aside0.mk (Kd.R_after (ok := (fun k_ => k_ ≠ gb119)) (by (with_reducible repeat (first | apply Kd.R_alloc | apply Kd.R_drewN | apply Kd.R_drew)); exact Kd.R_mono HO_3.out (fun _ hk => ⟨hk.2, hk.1⟩)) hg hat); have n1_ := Aside0.mk (Kd.R_after (ok := (fun k_ => k_ ≠ gb119)) (by (with_reducible repeat (first | apply Kd.R_alloc | apply Kd.R_drewN | apply Kd.R_drew)); exact Kd.R_mono HO_12.out (fun _ hk => ⟨hk.2, hk.1⟩)) hg hat); have n2_ := Aside0.mk (blk_grown (g := gb119) (o := .cells #[.int .i64 ((rd_T44 t117 x14_1).f0), .int .i64 ((rd_T44 t117 x14_1).f1)] 44 (0, 0)) (bK BK119.out) hg (Kd.R_away HO_4.out (fun _ hk => hk.2.2))); have n3_ := Aside0.mk (hb); have n4_ := Aside0.mk (ho); clear HO_3 HO_12 BK119 HB HO_4; have HO_3 := n0_; have HO_12 := n1_; have BK119 := n2_; have HB := n3_; have HO125 := n4_; clear n0_ n1_ n2_ n3_ n4_; clear ho hb hg hat))
            (try simp only [← hl3_1])
            go_roundg k1
            case measure => have := HK1.out; omega
            case rel => exact ⟨(y123), (wrap64 (x14_1 + 1)), rS, H', ⟨by have := HK1.out; omega⟩, ⟨by (try simp only [hl3_1]); (with_reducible repeat (first | apply Kd.R_alloc | apply Kd.R_drewN | apply Kd.R_drew)); exact Kd.R_mono HO_3.out (fun _ hk => hk.2)⟩, ⟨by (try simp only [hl3_1]); (with_reducible repeat (first | apply Kd.R_alloc | apply Kd.R_drewN | apply Kd.R_drew)); exact Kd.R_mono HO125.out (fun _ hk => ⟨hk.1, hk.2.1⟩)⟩, ⟨by (try simp only [hl3_1]); (with_reducible repeat (first | apply Kd.R_alloc | apply Kd.R_drewN | apply Kd.R_drew)); exact Kd.R_mono HO_12.out (fun _ hk => hk.2)⟩, ⟨hB1 HB.out GE119.out⟩⟩
           ·rw [if_neg c26] at H
            exact absurd H (by simp)
         ·rw [if_neg c13] at H
          exact absurd H (by simp)
        ·rw [if_neg c12] at H
         exact absurd H (by simp)
       ·rw [if_neg c10] at H
        have c10b0 : decide (0 < x14_1) = false := decide_eq_false c10
        clear c10
        by_cases c34 : x4_1.length < 8796093022208
        ·rw [if_pos c34] at H
         have LMc34 := Aside0.mk c34
         clear c34
         obtain ⟨y126, hy126⟩ : ∃ y_ : List (S44), y_ = (x4_1 ++ [(⟨(rd_T44 t117 x14_1).f0, (rd_T44 t117 x14_1).f1⟩ : S44)]) := ⟨_, rfl⟩
         replace H : (fact_gather.l0 k1 t117 y126 t117 (t114.length : Int) (wrap64 (x14_1 + 1))) = some r := by first | (rw [hy126]; with_reducible exact H) | (have H2_ := (Option.bind_some _ _).symm.trans H; rw [hy126]; with_reducible exact H2_) | (have H2_ := (Option.bind_some _ _).symm.trans H; with_reducible exact H2_) | with_reducible exact H | (rw [hy126]; exact H) | exact H
         have Ny126 := Aside0.mk hy126
         clear hy126
         have H' := Aside0.mk H
         clear H
         have p118 : 0 ≤ (x14_1 : Int) := oD
         have q118 : x14_1 < (t117.length : Int) := oD
         obtain ⟨ad118, e118, hx118_0, hx118_1⟩ := at_T44 (Kd.R_reads' HO_12.out).2.2 x14_1 p118 q118
         cases e118
         replace p118 := eq_true p118
         replace q118 := eq_true q118
         try go_wp2_with (first | ((with_reducible refine gate_dst (N := 6) rfl ?_); refine box_event ?hg (N := 6) ?hd (cs := #[.int .i64 0, .int .i64 0]) (t := 44) ?hr ?_; (case hd => rfl); (case hg => rfl); (case hr => first | (go_simp; done) | (go_simp; rfl)); intro gb119 hg w35 hbox hb; have n0_ := Aside0.mk (Kd.R_below (Kd.R_elderB (rK HO_3.out) gb119 (Nat.le_of_eq hg.symm)) hb); have n1_ := Aside0.mk (Kd.R_below (Kd.R_elderB (rK HO_4.out) gb119 (Nat.le_of_eq hg.symm)) hb); have n2_ := Aside0.mk (Kd.R_below (Kd.R_elderB (rK HO_12.out) gb119 (Nat.le_of_eq hg.symm)) hb); have n3_ := Aside0.mk (below_step (hB0 HB.out) hb); have n4_ := Aside0.mk (hbox); have n5_ := Aside0.mk ((by rw [hg]; exact (below_size (hB0 HB.out)) : w.heap.size ≤ gb119)); have n6_ := Aside0.mk ((by rw [hg]; exact (below_size (hB0 HB.out)) : w.heap.size ≤ gb119)); clear HO_3 HO_4 HO_12 HB; have HO_3 := n0_; have HO_4 := n1_; have HO_12 := n2_; have HB := n3_; have BK119 := n4_; have GW119 := n5_; have GE119 := n6_; clear n0_ n1_ n2_ n3_ n4_ n5_ n6_; clear hb hbox hg; have hcz36_0 : w35.cell? ⟨gb119, 0, none⟩ = some (.int .i64 0) := (blk_cell BK119.out 0).trans rfl; have hcz36_1 : w35.cell? ⟨gb119, 1, none⟩ = some (.int .i64 0) := (blk_cell BK119.out 1).trans rfl; have hfz36_0 := blk_frozen BK119.out 0; have hfz36_1 := blk_frozen BK119.out 1; obtain ⟨Ao37, co37, eo37⟩ := Kd.R_slice HO_4.out; subst eo37))
         have n0_ : Aside0 (Kd.R k44 44 ((w35.setCell ⟨gb119, 0, none⟩ (.int .i64 ((rd_T44 t117 x14_1).f0))).setCell ⟨gb119, 1, none⟩ (.int .i64 ((rd_T44 t117 x14_1).f1))) w.heap.size (fun k_ => some k_ ≠ (.slice Ao37 x4_1.length co37 : Value).ownBlock ∧ k_ ≠ gb119) (.slice (some ad118) t117.length co5) t117) := ⟨by (with_reducible repeat (first | apply Kd.R_alloc | apply Kd.R_drewN | apply Kd.R_drew)); exact Kd.R_mono (Kd.R_far (p := ⟨gb119, 1, none⟩) (Kd.R_far (p := ⟨gb119, 0, none⟩) (Kd.R_mono HO_3.out (fun k_ hk => (⟨hk, hk.2⟩ : _ ∧ k_ ≠ gb119))) (fun _ hk => hk.2) (.int .i64 ((rd_T44 t117 x14_1).f0))) (fun _ hk => hk.2) (.int .i64 ((rd_T44 t117 x14_1).f1))) (fun _ hk => ⟨hk.1.1, hk.1.2⟩)⟩
         have n1_ : Aside0 (Kd.R k44 44 ((w35.setCell ⟨gb119, 0, none⟩ (.int .i64 ((rd_T44 t117 x14_1).f0))).setCell ⟨gb119, 1, none⟩ (.int .i64 ((rd_T44 t117 x14_1).f1))) w.heap.size (fun k_ => some k_ ≠ (.slice (some ad118) t117.length co5 : Value).ownBlock ∧ some k_ ≠ (.slice (some ad118) t117.length co5 : Value).ownBlock ∧ k_ ≠ gb119) (.slice Ao37 x4_1.length co37) x4_1) := ⟨by (with_reducible repeat (first | apply Kd.R_alloc | apply Kd.R_drewN | apply Kd.R_drew)); exact Kd.R_mono (Kd.R_far (p := ⟨gb119, 1, none⟩) (Kd.R_far (p := ⟨gb119, 0, none⟩) (Kd.R_mono HO_4.out (fun k_ hk => (⟨hk, hk.2⟩ : _ ∧ k_ ≠ gb119))) (fun _ hk => hk.2) (.int .i64 ((rd_T44 t117 x14_1).f0))) (fun _ hk => hk.2) (.int .i64 ((rd_T44 t117 x14_1).f1))) (fun _ hk => ⟨hk.1.1.1, ⟨hk.1.1.2, hk.1.2⟩⟩)⟩
         have n2_ : Aside0 (Kd.R k44 44 ((w35.setCell ⟨gb119, 0, none⟩ (.int .i64 ((rd_T44 t117 x14_1).f0))).setCell ⟨gb119, 1, none⟩ (.int .i64 ((rd_T44 t117 x14_1).f1))) w.heap.size (fun k_ => some k_ ≠ (.slice Ao37 x4_1.length co37 : Value).ownBlock ∧ k_ ≠ gb119) (.slice (some ad118) t117.length co5) t117) := ⟨by (with_reducible repeat (first | apply Kd.R_alloc | apply Kd.R_drewN | apply Kd.R_drew)); exact Kd.R_mono (Kd.R_far (p := ⟨gb119, 1, none⟩) (Kd.R_far (p := ⟨gb119, 0, none⟩) (Kd.R_mono HO_12.out (fun k_ hk => (⟨hk, hk.2⟩ : _ ∧ k_ ≠ gb119))) (fun _ hk => hk.2) (.int .i64 ((rd_T44 t117 x14_1).f0))) (fun _ hk => hk.2) (.int .i64 ((rd_T44 t117 x14_1).f1))) (fun _ hk => ⟨hk.1.1, hk.1.2⟩)⟩
         have n3_ : Aside0 (((w35.setCell ⟨gb119, 0, none⟩ (.int .i64 ((rd_T44 t117 x14_1).f0))).setCell ⟨gb119, 1, none⟩ (.int .i64 ((rd_T44 t117 x14_1).f1))).heap[gb119]? = some (.cells #[.int .i64 ((rd_T44 t117 x14_1).f0), .int .i64 ((rd_T44 t117 x14_1).f1)] 44 (0, 0))) := ⟨by (with_reducible repeat (first | refine blk_drewN ?_ _ | refine blk_drew ?_ | refine blk_alloc ?_ _)); refine blk_put (cs := #[.int .i64 ((rd_T44 t117 x14_1).f0), .int .i64 0]) ?_ 1 _ rfl; (with_reducible repeat (first | refine blk_drewN ?_ _ | refine blk_drew ?_ | refine blk_alloc ?_ _)); refine blk_put (cs := #[.int .i64 0, .int .i64 0]) ?_ 0 _ rfl; (with_reducible repeat (first | refine blk_drewN ?_ _ | refine blk_drew ?_ | refine blk_alloc ?_ _)); exact BK119.out⟩
         have n4_ : Aside0 (Below w.heap.size w ((w35.setCell ⟨gb119, 0, none⟩ (.int .i64 ((rd_T44 t117 x14_1).f0))).setCell ⟨gb119, 1, none⟩ (.int .i64 ((rd_T44 t117 x14_1).f1)))) := ⟨hB1 HB.out GE119.out⟩
         (try clear HO_3)
         (try clear HO_4)
         (try clear HO_12)
         (try clear BK119)
         (try clear HB)
         generalize ((w35.setCell ⟨gb119, 0, none⟩ (.int .i64 ((rd_T44 t117 x14_1).f0))).setCell ⟨gb119, 1, none⟩ (.int .i64 ((rd_T44 t117 x14_1).f1))) = w38 at n0_ n1_ n2_ n3_ n4_ ⊢
         have HO_3 := n0_
         have HO_4 := n1_
         have HO_12 := n2_
         have BK119 := n3_
         have HB := n4_
         clear n0_ n1_ n2_ n3_ n4_
         have n0_ := Aside0.mk (Kd.R_drew HO_3.out)
         have n1_ := Aside0.mk (Kd.R_drew HO_4.out)
         have n2_ := Aside0.mk (Kd.R_drew HO_12.out)
         have n3_ := Aside0.mk (blk_drew BK119.out)
         have n4_ := Aside0.mk (below_drew1 HB.out)
         clear HO_3
         clear HO_4
         clear HO_12
         clear BK119
         clear HB
         have HO_3 := n0_
         have HO_4 := n1_
         have HO_12 := n2_
         have BK119 := n3_
         have HB := n4_
         clear n0_ n1_ n2_ n3_ n4_
         refine start_ (n := 13) (S := fun w' => True) (ds := []) fact_gather.b0 (by kernel_rfl) rfl rfl trivial (fun hHeld => ?_); refine with_tabW fact_gather.tab8 fact_gather.bits8 (fun HT_ HW_ => ?_)
         generalize w38.drew = w39 at HO_3 HO_4 HO_12 BK119 HB hHeld ⊢
         refine pY 0 (some 21) fact_gather.b1 rfl rfl HT_.out (fun _ _ _ h => h) ?_
         refine pY 1 (some 22) fact_gather.b2 rfl rfl HT_.out (fun _ _ _ h => h) ?_
         refine pY 2 (some 23) fact_gather.b3 rfl rfl HT_.out (fun _ _ _ h => h) ?_
         refine pN 3 (some 24) fact_gather.b4 rfl rfl HT_.out (fun _ _ _ h => h) ?_
         refine pN 4 (some 25) fact_gather.b5 rfl rfl HT_.out (fun _ _ _ h => h) ?_
         refine pN 5 (some 26) fact_gather.b6 rfl rfl HT_.out (fun _ _ _ h => h) ?_
         refine pN 6 (some 27) fact_gather.b7 rfl rfl HT_.out (fun _ _ _ h => h) ?_
         refine pN 7 (some 28) fact_gather.b8 rfl rfl HT_.out (fun _ _ _ h => h) ?_
         refine pN 8 (some 29) fact_gather.b27 rfl rfl HT_.out (fun _ _ _ h => h) ?_
         refine pN 9 (some 30) fact_gather.b10 rfl rfl HT_.out (fun _ _ _ h => h) ?_
         refine pN 10 (some 31) fact_gather.b11 rfl rfl HT_.out (fun _ _ _ h => h) ?_
         refine pN 11 (some 32) fact_gather.b12 rfl rfl HT_.out (fun _ _ _ h => h) ?_
         refine pY 12 (some 33) fact_gather.b13 rfl rfl HT_.out (fun _ _ _ h => h) ?_
         refine done_ (done_of HT_.out (by kernel_rfl)) ?_
         have hcz40_0 : w39.cell? ⟨gb119, 0, none⟩ = some (.int .i64 ((rd_T44 t117 x14_1).f0)) := (blk_cell BK119.out 0).trans rfl
         have hcz40_1 : w39.cell? ⟨gb119, 1, none⟩ = some (.int .i64 ((rd_T44 t117 x14_1).f1)) := (blk_cell BK119.out 1).trans rfl
         have hfz40_0 := blk_frozen BK119.out 0
         have hfz40_1 := blk_frozen BK119.out 1
         try go_wp2_with (first | ((with_reducible refine gate_builtin (b := .append) (xs := #[.tmp 45, .tmp 47]) rfl ?_); at_builtin; refine Kd.R_append k44 (w0 := w) w.heap.size rfl (.tmp 45) (.tmp 47) 28 44 (.agg #[(.int .i64 0), (.int .i64 0)]) 16 rfl Try.underlying28 info44 rfl (by decide) (by omega) (.slice Ao37 x4_1.length co37) x4_1 (⟨(rd_T44 t117 x14_1).f0, (rd_T44 t117 x14_1).f1⟩ : S44) [.int .i64 ((rd_T44 t117 x14_1).f0), .int .i64 ((rd_T44 t117 x14_1).f1)] (fun k_ => some k_ ≠ (.slice (some ad118) t117.length co5 : Value).ownBlock ∧ some k_ ≠ (.slice (some ad118) t117.length co5 : Value).ownBlock ∧ k_ ≠ gb119) (fun _ => False) rfl rfl ?aP (fun _ hk => hk.elim) ?aF ?aO ?aB ?aS ?aL ?_; (case aP => exact k44_mkM _ _ _ (⟨(rd_T44 t117 x14_1).f0, (rd_T44 t117 x14_1).f1⟩ : S44)); (case aB => exact (hB1 HB.out GE119.out)); (case aF => exact (fun k_ hk => ⟨Kd.fresh' (Kd.R_lt (rK HO_3.out)) k_ hk, Kd.fresh' (Kd.R_lt (rK HO_12.out)) k_ hk, Kd.freshB (g := gb119) (o := .cells #[.int .i64 ((rd_T44 t117 x14_1).f0), .int .i64 ((rd_T44 t117 x14_1).f1)] 44 (0, 0)) (bK BK119.out) k_ hk⟩)); (case aO => exact (rK HO_4.out)); (case aS => exact (below_size (hB1 HB.out GE119.out))); (case aL => have := LMc34.out; omega); intro v127 w41 ho hb hg hat; rw [← Ny126.out] at ho; have n0_ := Aside0.mk (Kd.R_after (ok := (fun k_ => k_ ≠ gb119)) (by (with_reducible repeat (first | apply Kd.R_alloc | apply Kd.R_drewN | apply Kd.R_drew)); exact Kd.R_mono HO_3.out (fun _ hk => ⟨hk.2, hk.1⟩)) hg hat); have n1_ := Aside0.mk (Kd.R_after (ok := (fun k_ => k_ ≠ gb119)) (by (with_reducible repeat (first | apply Kd.R_alloc | apply Kd.R_drewN | apply Kd.R_drew)); exact Kd.R_mono HO_12.out (fun _ hk => ⟨hk.2, hk.1⟩)) hg hat); have n2_ := Aside0.mk (blk_grown (g := gb119) (o := .cells #[.int .i64 ((rd_T44 t117 x14_1).f0), .int .i64 ((rd_T44 t117 x14_1).f1)] 44 (0, 0)) (bK BK119.out) hg (Kd.R_away HO_4.out (fun _ hk => hk.2.2))); have n3_ := Aside0.mk (hb); have n4_ := Aside0.mk (ho); clear HO_3 HO_12 BK119 HB HO_4; have HO_3 := n0_; have HO_12 := n1_; have BK119 := n2_; have HB := n3_; have HO128 := n4_; clear n0_ n1_ n2_ n3_ n4_; clear ho hb hg hat))
         (try simp only [← hl3_1])
         go_roundg k1
         case measure => have := HK1.out; omega
         case rel => exact ⟨(y126), (wrap64 (x14_1 + 1)), rS, H', ⟨by have := HK1.out; omega⟩, ⟨by (try simp only [hl3_1]); (with_reducible repeat (first | apply Kd.R_alloc | apply Kd.R_drewN | apply Kd.R_drew)); exact Kd.R_mono HO_3.out (fun _ hk => hk.2)⟩, ⟨by (try simp only [hl3_1]); (with_reducible repeat (first | apply Kd.R_alloc | apply Kd.R_drewN | apply Kd.R_drew)); exact Kd.R_mono HO128.out (fun _ hk => ⟨hk.1, hk.2.1⟩)⟩, ⟨by (try simp only [hl3_1]); (with_reducible repeat (first | apply Kd.R_alloc | apply Kd.R_drewN | apply Kd.R_drew)); exact Kd.R_mono HO_12.out (fun _ hk => hk.2)⟩, ⟨hB1 HB.out GE119.out⟩⟩
        ·rw [if_neg c34] at H
         exact absurd H (by simp)
      ·rw [if_neg c9] at H
       exact absurd H (by simp)
     ·rw [if_neg c8] at H
      exact absurd H (by simp)
    ·rw [if_neg c7] at H
     have c7b0 : decide (x14_1 < (t114.length : Int)) = false := decide_eq_false c7
     (try simp only [hl3_1] at c7b0)
     clear c7
     replace H := Option.bind_eq_some_iff.mp H
     obtain ⟨t129, A420, H⟩ := H
     replace H : (some t129) = some r := H
     have A42 := Aside0.mk A420
     clear A420
     obtain rfl := Option.some.inj H
     obtain ⟨Ao43, co43, eo43⟩ := Kd.R_slice HO_4.out
     subst eo43
     go_wp2_with (first | ((with_reducible refine gate_callee (f := 53) rfl ?_); refine goesL_ (some 51) rfl rfl Try.func53 (by kernel_rfl) rfl #[.slice Ao43 x4_1.length co43, .func (.func 54) #[] #[]] rfl aM ?_; (with_reducible refine (api_Term_53_at54.calls k1 (fun k_ => some k_ = (.slice Ao43 x4_1.length co43 : Value).ownBlock) (.slice Ao43 x4_1.length co43) x4_1  t129 w _ ?side1 ?side2 A42.out).mono ?_); (case side1 => repeat (first | (with_reducible first | exact HB.out | apply below_alloc | apply pw_below_drewN | apply below_drew1) | exact HB.out)); (case side2 => exact Kd.R_tight rfl HO_4.out); rintro e w44 ⟨v130, rfl, ho0, hb, hkp⟩; refine ⟨_, rfl, ?_⟩; have n0_ := Aside0.mk (Kd.R_mono (ok' := fun k_ => some k_ ≠ (v130 : Value).ownBlock) (Kd.R_keptB (HO_3.out) hkp (fun k_ hk_ hs_ => (hk_) hs_)) (fun k_ hk_ => fun e_ => Or.elim (ho0.1 k_ e_.symm) (fun hs_ => hk_.2.1 hs_) (fun hn_ => Nat.not_le.2 hk_.2.2 hn_))); have n1_ := Aside0.mk (Kd.R_mono (ok' := fun k_ => some k_ ≠ (v130 : Value).ownBlock) (Kd.R_keptB (HO_12.out) hkp (fun k_ hk_ hs_ => (hk_) hs_)) (fun k_ hk_ => fun e_ => Or.elim (ho0.1 k_ e_.symm) (fun hs_ => hk_.2.1 hs_) (fun hn_ => Nat.not_le.2 hk_.2.2 hn_))); have n2_ := Aside0.mk (Kd.R_mono (ok' := fun k_ => some k_ ≠ (.slice Ao5 t117.length co5 : Value).ownBlock ∧ some k_ ≠ (.slice Ao5 t117.length co5 : Value).ownBlock) ho0 (fun k_ hk_ => ⟨Or.elim hk_ (fun hs_ => fun e_ => (((HO_3.out).1 k_ e_.symm)) hs_) (fun hn_ => (Kd.fresh' (Kd.R_lt (rK HO_3.out)) k_ hn_)), Or.elim hk_ (fun hs_ => fun e_ => (((HO_12.out).1 k_ e_.symm)) hs_) (fun hn_ => (Kd.fresh' (Kd.R_lt (rK HO_12.out)) k_ hn_))⟩)); have n3_ := Aside0.mk (hb); clear HO_3 HO_12 HB HO_4; have HO_3 := n0_; have HO_12 := n1_; have HO131 := n2_; have HB := n3_; clear n0_ n1_ n2_ n3_; (try clear hb); (try clear hkp); (try clear ho0)))
     go_ret
     exact ⟨_, by first | rfl | (simp [errW_none, errW_some] <;> rfl) | (simp [*, errW_none, errW_some] <;> rfl), by (with_reducible repeat (first | apply Kd.R_alloc | apply Kd.R_drewN | apply Kd.R_drew)); exact Kd.R_mono HO131.out (fun _ hk => trivial), hB0 HB.out⟩
def fact_Of.j0 : Nat → List (S44) → Int → Bool → Option ((List (S44)) × Int × Int)
  | 0, _, _, _ => none
  | k + 1, x0, x1, x17 => if x17 = true then (some (([] : List (S44)), 0, 3)) else ((fact_gather.f k x0).bind fun t109 => (if (t109.length : Int) > 64 then (some (([] : List (S44)), 0, 4)) else ((api_Term_32_at35.f k t109).bind fun t112 => (if t112 = true then (some (([] : List (S44)), 0, 3)) else (some (t109, x1, 0))))))
def fact_Of.f (k : Nat) (l0 : List (S44)) (a1 : Int) : Option ((List (S44)) × Int × Int) := if (l0.length : Int) > 1024 then (some (([] : List (S44)), 0, 4)) else ((fact_small.f a1).bind fun t107 => (if t107 = true then ((api_Term_32_at33.f k l0).bind fun t108 => (fact_Of.j0 k l0 a1 t108)) else (fact_Of.j0 k l0 a1 true)))
theorem fact_Of.mono_l : ∀ k, (∀ y0 y1 y2, LeO (fact_Of.j0 k y0 y1 y2) (fact_Of.j0 (k + 1) y0 y1 y2))
  | 0 => fun _ _ _ r h => by simp [fact_Of.j0] at h
  | k + 1 => by
   have ih0 := fact_Of.mono_l k
   ·intro y0 y1 y2
    unfold fact_Of.j0
    repeat' first
    | (with_reducible exact ih0 _ _ _)
    | (with_reducible exact api_Term_32_at33.mono _ _)
    | (with_reducible exact api_Term_32_at35.mono _ _)
    | (with_reducible exact fact_gather.mono _ _)
    | (with_reducible exact LeO.refl _)
    | (with_reducible exact LeO.none _)
    | (with_reducible refine LeO.ite ?_ ?_)
    | (with_reducible refine LeO.bind ?_ (fun _ => ?_))
    | exact ih0 _ _ _
    | exact api_Term_32_at33.mono _ _
    | exact api_Term_32_at35.mono _ _
    | exact fact_gather.mono _ _
    | exact LeO.none _
    | refine LeO.ite ?_ ?_
    | refine LeO.bind ?_ (fun _ => ?_)
theorem fact_Of.mono : ∀ a0 a1 k, LeO (fact_Of.f k a0 a1) (fact_Of.f (k + 1) a0 a1) := by
  intro a0 a1 k
  have ih0 := fact_Of.mono_l k
  unfold fact_Of.f
  repeat' first
    | (with_reducible exact ih0 _ _ _)
    | (with_reducible exact api_Term_32_at33.mono _ _)
    | (with_reducible exact api_Term_32_at35.mono _ _)
    | (with_reducible exact fact_gather.mono _ _)
    | (with_reducible exact LeO.refl _)
    | (with_reducible exact LeO.none _)
    | (with_reducible refine LeO.ite ?_ ?_)
    | (with_reducible refine LeO.bind ?_ (fun _ => ?_))
    | exact ih0 _ _ _
    | exact api_Term_32_at33.mono _ _
    | exact api_Term_32_at35.mono _ _
    | exact fact_gather.mono _ _
    | exact LeO.none _
    | refine LeO.ite ?_ ?_
    | refine LeO.bind ?_ (fun _ => ?_)
set_option maxHeartbeats 8000000 in
set_option maxRecDepth 100000 in
theorem fact_Of.calls (k : Nat) (A0 : Option Addr) (c0 : Nat) (l0 : List (S44)) (a1 : Int) (r1 : List (S44)) (r2 : Int) (r3 : Int) (w : World) (hr0 : Kd.C k44 w A0 l0.length l0) (hc0 : l0.length ≤ c0) (h : fact_Of.f k l0 a1 = some (r1, r2, r3)) :
   Calls Try.prog 19 #[.slice A0 l0.length c0, .int .i64 a1] w fun e w' => ∃ v0_ : Value, e = .returned (.tuple #[.agg #[v0_, .int .i64 r2], .int .i64 r3]) ∧ Kd.R k44 44 w' w.heap.size (fun _ => True) v0_ r1 ∧ Below w.heap.size w w' := by
  have hu30 := Try.underlying30
  have HR0 := Aside0.mk hr0
  have HC0 := Aside0.mk hc0
  clear hr0 hc0
  have HB := Aside0.mk (Below.refl w.heap.size w)
  have H : (if (l0.length : Int) > 1024 then (some (([] : List (S44)), 0, 4)) else ((fact_small.f a1).bind fun t107 => (if t107 = true then ((api_Term_32_at33.f k l0).bind fun t108 => (fact_Of.j0 k l0 a1 t108)) else (fact_Of.j0 k l0 a1 true)))) = some (r1, r2, r3) := h
  clear h
  by_cases c3 : (l0.length : Int) > 1024
  ·rw [if_pos c3] at H
   have c3b0 : decide (1024 < (l0.length : Int)) = true := decide_eq_true c3
   have c3b1 : decide (1024 < l0.length) = true := decide_eq_true (by omega)
   clear c3
   simp only [Option.some.injEq, Prod.mk.injEq] at H
   obtain ⟨rfl, rfl, rfl⟩ := H
   go_enter Try.func19, Try.ntmps19
   go_wp2_with (first | ((with_reducible refine gate_dst (N := 4) rfl ?_); refine box_event ?hg (N := 4) ?hd (cs := #[.slice none 0 0, .int .i64 0]) (t := 30) ?hr ?_; (case hd => rfl); (case hg => rfl); (case hr => first | (go_simp; done) | (go_simp; rfl)); intro gb106 hg w4 hbox hb; have n0_ := Aside0.mk (below_step (hB0 HB.out) hb); have n1_ := Aside0.mk (hbox); have n2_ := Aside0.mk ((by rw [hg]; exact (below_size (hB0 HB.out)) : w.heap.size ≤ gb106)); have n3_ := Aside0.mk ((by rw [hg]; exact (below_size (hB0 HB.out)) : w.heap.size ≤ gb106)); clear HB; have HB := n0_; have BK106 := n1_; have GW106 := n2_; have GE106 := n3_; clear n0_ n1_ n2_ n3_; clear hb hbox hg; have hcz5_0 : w4.cell? ⟨gb106, 0, none⟩ = some (.slice none 0 0) := (blk_cell BK106.out 0).trans rfl; have hcz5_1 : w4.cell? ⟨gb106, 1, none⟩ = some (.int .i64 0) := (blk_cell BK106.out 1).trans rfl; have hfz5_0 := blk_frozen BK106.out 0; have hfz5_1 := blk_frozen BK106.out 1))
   refine bodyPost_ret (results_ct rfl _ _ gb106 30 #[.slice none 0 0, .int .i64 0] (0, 0) _ rfl (by (with_reducible repeat (first | refine blk_drewN ?_ _ | refine blk_drew ?_ | refine blk_alloc ?_ _)); refine blk_put (cs := #[.slice none 0 0, .int .i64 0]) ?_ 1 _ rfl; (with_reducible repeat (first | refine blk_drewN ?_ _ | refine blk_drew ?_ | refine blk_alloc ?_ _)); refine blk_put (cs := #[.slice none 0 0, .int .i64 0]) ?_ 0 _ rfl; (with_reducible repeat (first | refine blk_drewN ?_ _ | refine blk_drew ?_ | refine blk_alloc ?_ _)); exact BK106.out) Try.underlying30 rfl (by kernel_rfl)) rfl ?_
   exact ⟨_, by first | rfl | (simp [errW_none, errW_some] <;> rfl) | (simp [*, errW_none, errW_some] <;> rfl), by first | exact Kd.R_nil _ _ _ _ _ | exact Kd.N_nil _ _ _ _ _ | exact Kd.V_nil _ _ _ _ _ | exact Kd.Q_nil _ _ _ _ _ | exact Kd.S_nil _ _ _ _ _, hB1 HB.out GE106.out⟩
  ·rw [if_neg c3] at H
   have c3b0 : decide (1024 < (l0.length : Int)) = false := decide_eq_false c3
   have c3b1 : decide (1024 < l0.length) = false := decide_eq_false (by omega)
   clear c3
   have HC6 := Aside0.mk H
   clear H
   go_enter Try.func19, Try.ntmps19
   go_upto_region 3 with (first | ((with_reducible refine gate_dst (N := 4) rfl ?_); refine box_event ?hg (N := 4) ?hd (cs := #[.slice none 0 0, .int .i64 0]) (t := 30) ?hr ?_; (case hd => rfl); (case hg => rfl); (case hr => first | (go_simp; done) | (go_simp; rfl)); intro gb106 hg w7 hbox hb; have n0_ := Aside0.mk (below_step (hB0 HB.out) hb); have n1_ := Aside0.mk (hbox); have n2_ := Aside0.mk ((by rw [hg]; exact (below_size (hB0 HB.out)) : w.heap.size ≤ gb106)); have n3_ := Aside0.mk ((by rw [hg]; exact (below_size (hB0 HB.out)) : w.heap.size ≤ gb106)); clear HB; have HB := n0_; have BK106 := n1_; have GW106 := n2_; have GE106 := n3_; clear n0_ n1_ n2_ n3_; clear hb hbox hg))
   (try simp only [Act.put, List.setIfInBounds_toArray, List.set_cons_zero, List.set_cons_succ])
   go_cut [17] (fun v17 wc => ∃ (kq : Nat) (x17_5 : Bool), v17 = .bool x17_5 ∧ Aside0 (fact_Of.j0 kq l0 a1 x17_5 = some (r1, r2, r3)) ∧ Aside0 (kq ≤ k) ∧ Aside0 (wc.heap[gb106]? = some (.cells #[(.slice none 0 0), .int .i64 0] 30 (0, 0))) ∧ Aside0 (Below w.heap.size w wc))
   case first =>
    have H := HC6.out
    clear HC6
    replace H := Option.bind_eq_some_iff.mp H
    obtain ⟨t107, A80, H⟩ := H
    replace H : (if t107 = true then ((api_Term_32_at33.f k l0).bind fun t108 => (fact_Of.j0 k l0 a1 t108)) else (fact_Of.j0 k l0 a1 true)) = some (r1, r2, r3) := H
    have A8 := Aside0.mk A80
    clear A80
    by_cases c9 : t107 = true
    ·subst c9
     have H1 : ((api_Term_32_at33.f k l0).bind fun t108 => (fact_Of.j0 k l0 a1 t108)) = some (r1, r2, r3) := by rw [if_pos rfl] at H; exact H
     clear H
     have H := H1
     clear H1
     replace H := Option.bind_eq_some_iff.mp H
     obtain ⟨t108, A100, H⟩ := H
     replace H : (fact_Of.j0 k l0 a1 t108) = some (r1, r2, r3) := H
     have A10 := Aside0.mk A100
     clear A100
     have H' := Aside0.mk H
     clear H
     go_wp2_with (first | ((with_reducible refine gate_callee (f := 31) rfl ?_); refine goesL_ (some 12) rfl rfl Try.func31 (by kernel_rfl) rfl #[.int .i64 a1] rfl aM ?_; (with_reducible refine (fact_small.calls a1 true _ A8.out).mono ?_); rintro e w' ⟨rfl, ⟨nd, rfl⟩⟩; refine ⟨_, rfl, ?_⟩) | (go_at_call 32; (with_reducible refine (api_Term_32_at33.calls k _ _ l0  t108 _ ?side1 ?side2 A10.out).mono ?_); (case side1 => repeat (first | exact (Kd.C_below HR0.out (hB1 HB.out GE106.out)) | (with_reducible refine Kd.C_alloc ?_ _) | (with_reducible refine Kd.C_drewN ?_ _) | (with_reducible refine Kd.C_drew ?_))); (case side2 => exact HC0.out); rintro e w11 ⟨rfl, hb⟩; have n0_ := Aside0.mk (blk_below (g := gb106) (o := .cells #[.slice none 0 0, .int .i64 0] 30 (0, 0)) (bK BK106.out) hb); have n1_ := Aside0.mk (below_step (hB1 HB.out GE106.out) hb); clear BK106 HB; have BK106 := n0_; have HB := n1_; clear n0_ n1_; (try clear hb)))
     go_meet
     case rel => exact ⟨_, (t108), rS, H', ⟨by first | omega | exact Nat.le_refl _⟩, ⟨bK BK106.out⟩, ⟨hB1 HB.out GE106.out⟩⟩
    ·replace c9 := Bool.eq_false_iff.mpr c9
     subst c9
     have H1 : (fact_Of.j0 k l0 a1 true) = some (r1, r2, r3) := by rw [if_neg (show ¬ (false = true) by decide)] at H; exact H
     clear H
     have H := H1
     clear H1
     have H' := Aside0.mk H
     clear H
     go_wp2_with (first | ((with_reducible refine gate_callee (f := 31) rfl ?_); refine goesL_ (some 12) rfl rfl Try.func31 (by kernel_rfl) rfl #[.int .i64 a1] rfl aM ?_; (with_reducible refine (fact_small.calls a1 false _ A8.out).mono ?_); rintro e w' ⟨rfl, ⟨nd, rfl⟩⟩; refine ⟨_, rfl, ?_⟩))
     go_meet
     case rel => exact ⟨_, (true), rS, H', ⟨by first | omega | exact Nat.le_refl _⟩, ⟨bK BK106.out⟩, ⟨hB1 HB.out GE106.out⟩⟩
   case rest =>
    clear HC6
    try clear c3b0
    try clear c3b1
    obtain ⟨kq, x17_5, rfl, HA, HJ5, BK106, HB⟩ := hcut
    cases kq with
    | zero => exact absurd HA.out (by simp [fact_Of.j0])
    | succ kj5 =>
     have H := HA.out
     clear HA
     simp only [fact_Of.j0] at H
     by_cases c12 : x17_5 = true
     ·subst c12
      have H1 : (some (([] : List (S44)), 0, 3)) = some (r1, r2, r3) := by rw [if_pos rfl] at H; exact H
      clear H
      have H := H1
      clear H1
      simp only [Option.some.injEq, Prod.mk.injEq] at H
      obtain ⟨rfl, rfl, rfl⟩ := H
      have hcz13_0 : wc.cell? ⟨gb106, 0, none⟩ = some (.slice none 0 0) := (blk_cell BK106.out 0).trans rfl
      have hcz13_1 : wc.cell? ⟨gb106, 1, none⟩ = some (.int .i64 0) := (blk_cell BK106.out 1).trans rfl
      have hfz13_0 := blk_frozen BK106.out 0
      have hfz13_1 := blk_frozen BK106.out 1
      go_wp2
      refine bodyPost_ret (results_ct rfl _ _ gb106 30 #[.slice none 0 0, .int .i64 0] (0, 0) _ rfl (by (with_reducible repeat (first | refine blk_drewN ?_ _ | refine blk_drew ?_ | refine blk_alloc ?_ _)); refine blk_put (cs := #[.slice none 0 0, .int .i64 0]) ?_ 1 _ rfl; (with_reducible repeat (first | refine blk_drewN ?_ _ | refine blk_drew ?_ | refine blk_alloc ?_ _)); refine blk_put (cs := #[.slice none 0 0, .int .i64 0]) ?_ 0 _ rfl; (with_reducible repeat (first | refine blk_drewN ?_ _ | refine blk_drew ?_ | refine blk_alloc ?_ _)); exact BK106.out) Try.underlying30 rfl (by kernel_rfl)) rfl ?_
      exact ⟨_, by first | rfl | (simp [errW_none, errW_some] <;> rfl) | (simp [*, errW_none, errW_some] <;> rfl), by first | exact Kd.R_nil _ _ _ _ _ | exact Kd.N_nil _ _ _ _ _ | exact Kd.V_nil _ _ _ _ _ | exact Kd.Q_nil _ _ _ _ _ | exact Kd.S_nil _ _ _ _ _, hB1 HB.out GE106.out⟩
     ·replace c12 := Bool.eq_false_iff.mpr c12
      subst c12
      have H1 : ((fact_gather.f kj5 l0).bind fun t109 => (if (t109.length : Int) > 64 then (some (([] : List (S44)), 0, 4)) else ((api_Term_32_at35.f kj5 t109).bind fun t112 => (if t112 = true then (some (([] : List (S44)), 0, 3)) else (some (t109, a1, 0)))))) = some (r1, r2, r3) := by rw [if_neg (show ¬ (false = true) by decide)] at H; exact H
      clear H
      have H := H1
      clear H1
      replace H := Option.bind_eq_some_iff.mp H
      obtain ⟨t109, A140, H⟩ := H
      replace H : (if (t109.length : Int) > 64 then (some (([] : List (S44)), 0, 4)) else ((api_Term_32_at35.f kj5 t109).bind fun t112 => (if t112 = true then (some (([] : List (S44)), 0, 3)) else (some (t109, a1, 0))))) = some (r1, r2, r3) := H
      have A14 := Aside0.mk A140
      clear A140
      by_cases c15 : (t109.length : Int) > 64
      ·rw [if_pos c15] at H
       have c15b0 : decide (64 < (t109.length : Int)) = true := decide_eq_true c15
       have c15b1 : decide (64 < t109.length) = true := decide_eq_true (by omega)
       clear c15
       simp only [Option.some.injEq, Prod.mk.injEq] at H
       obtain ⟨rfl, rfl, rfl⟩ := H
       go_wp2_with (first | ((with_reducible refine gate_callee (f := 34) rfl ?_); refine goesL_ (some 20) rfl rfl Try.func34 (by kernel_rfl) rfl #[.slice A0 l0.length c0] rfl aM ?_; (with_reducible refine (fact_gather.calls kj5 _ _ l0 t109 _ ?side1 ?side2 A14.out).mono ?_); (case side1 => repeat (first | exact (Kd.C_below HR0.out HB.out) | (with_reducible refine Kd.C_alloc ?_ _) | (with_reducible refine Kd.C_drewN ?_ _) | (with_reducible refine Kd.C_drew ?_))); (case side2 => exact HC0.out); rintro e w16 ⟨v110, rfl, ho0, hb⟩; refine ⟨_, rfl, ?_⟩; have n0_ := Aside0.mk (Kd.R_lower ho0 (below_size (hB1 HB.out GE106.out))); have n1_ := Aside0.mk (blk_below (g := gb106) (o := .cells #[.slice none 0 0, .int .i64 0] 30 (0, 0)) (bK BK106.out) hb); have n2_ := Aside0.mk (below_step (hB1 HB.out GE106.out) hb); clear BK106 HB; have HO111 := n0_; have BK106 := n1_; have HB := n2_; clear n0_ n1_ n2_; (try clear hb); (try clear ho0); obtain ⟨Ao17, co17, eo17⟩ := Kd.R_slice HO111.out; subst eo17; have hcz18_0 : w16.cell? ⟨gb106, 0, none⟩ = some (.slice none 0 0) := (blk_cell BK106.out 0).trans rfl; have hcz18_1 : w16.cell? ⟨gb106, 1, none⟩ = some (.int .i64 0) := (blk_cell BK106.out 1).trans rfl; have hfz18_0 := blk_frozen BK106.out 0; have hfz18_1 := blk_frozen BK106.out 1))
       refine bodyPost_ret (results_ct rfl _ _ gb106 30 #[.slice none 0 0, .int .i64 0] (0, 0) _ rfl (by (with_reducible repeat (first | refine blk_drewN ?_ _ | refine blk_drew ?_ | refine blk_alloc ?_ _)); refine blk_put (cs := #[.slice none 0 0, .int .i64 0]) ?_ 1 _ rfl; (with_reducible repeat (first | refine blk_drewN ?_ _ | refine blk_drew ?_ | refine blk_alloc ?_ _)); refine blk_put (cs := #[.slice none 0 0, .int .i64 0]) ?_ 0 _ rfl; (with_reducible repeat (first | refine blk_drewN ?_ _ | refine blk_drew ?_ | refine blk_alloc ?_ _)); exact BK106.out) Try.underlying30 rfl (by kernel_rfl)) rfl ?_
       exact ⟨_, by first | rfl | (simp [errW_none, errW_some] <;> rfl) | (simp [*, errW_none, errW_some] <;> rfl), by first | exact Kd.R_nil _ _ _ _ _ | exact Kd.N_nil _ _ _ _ _ | exact Kd.V_nil _ _ _ _ _ | exact Kd.Q_nil _ _ _ _ _ | exact Kd.S_nil _ _ _ _ _, hB1 HB.out GE106.out⟩
      ·rw [if_neg c15] at H
       have c15b0 : decide (64 < (t109.length : Int)) = false := decide_eq_false c15
       have c15b1 : decide (64 < t109.length) = false := decide_eq_false (by omega)
       clear c15
       replace H := Option.bind_eq_some_iff.mp H
       obtain ⟨t112, A190, H⟩ := H
       replace H : (if t112 = true then (some (([] : List (S44)), 0, 3)) else (some (t109, a1, 0))) = some (r1, r2, r3) := H
       have A19 := Aside0.mk A190
       clear A190
       by_cases c20 : t112 = true
       ·subst c20
        have H1 : (some (([] : List (S44)), 0, 3)) = some (r1, r2, r3) := by rw [if_pos rfl] at H; exact H
        clear H
        have H := H1
        clear H1
        simp only [Option.some.injEq, Prod.mk.injEq] at H
        obtain ⟨rfl, rfl, rfl⟩ := H
        go_wp2_with (first | ((with_reducible refine gate_callee (f := 34) rfl ?_); refine goesL_ (some 20) rfl rfl Try.func34 (by kernel_rfl) rfl #[.slice A0 l0.length c0] rfl aM ?_; (with_reducible refine (fact_gather.calls kj5 _ _ l0 t109 _ ?side1 ?side2 A14.out).mono ?_); (case side1 => repeat (first | exact (Kd.C_below HR0.out HB.out) | (with_reducible refine Kd.C_alloc ?_ _) | (with_reducible refine Kd.C_drewN ?_ _) | (with_reducible refine Kd.C_drew ?_))); (case side2 => exact HC0.out); rintro e w21 ⟨v110, rfl, ho0, hb⟩; refine ⟨_, rfl, ?_⟩; have n0_ := Aside0.mk (Kd.R_lower ho0 (below_size (hB1 HB.out GE106.out))); have n1_ := Aside0.mk (blk_below (g := gb106) (o := .cells #[.slice none 0 0, .int .i64 0] 30 (0, 0)) (bK BK106.out) hb); have n2_ := Aside0.mk (below_step (hB1 HB.out GE106.out) hb); clear BK106 HB; have HO111 := n0_; have BK106 := n1_; have HB := n2_; clear n0_ n1_ n2_; (try clear hb); (try clear ho0); obtain ⟨Ao22, co22, eo22⟩ := Kd.R_slice HO111.out; subst eo22) | ((with_reducible refine gate_callee (f := 32) rfl ?_); refine goesL_ (some 26) rfl rfl Try.func32 (by kernel_rfl) rfl #[.slice Ao22 t109.length co22, .func (.func 35) #[] #[]] rfl aM ?_; (with_reducible refine (api_Term_32_at35.calls kj5 _ _ t109  true _ ?side1 ?side2 A19.out).mono ?_); (case side1 => exact cK (Kd.R_reads' HO111.out).2.2); (case side2 => exact (Kd.R_reads' HO111.out).2.1); rintro e w23 ⟨rfl, hb⟩; refine ⟨_, rfl, ?_⟩; have n0_ := Aside0.mk (Kd.R_below (rK HO111.out) hb); have n1_ := Aside0.mk (blk_below (g := gb106) (o := .cells #[.slice none 0 0, .int .i64 0] 30 (0, 0)) (bK BK106.out) hb); have n2_ := Aside0.mk (below_step (hB1 HB.out GE106.out) hb); clear HO111 BK106 HB; have HO111 := n0_; have BK106 := n1_; have HB := n2_; clear n0_ n1_ n2_; (try clear hb); have hcz24_0 : w23.cell? ⟨gb106, 0, none⟩ = some (.slice none 0 0) := (blk_cell BK106.out 0).trans rfl; have hcz24_1 : w23.cell? ⟨gb106, 1, none⟩ = some (.int .i64 0) := (blk_cell BK106.out 1).trans rfl; have hfz24_0 := blk_frozen BK106.out 0; have hfz24_1 := blk_frozen BK106.out 1))
        refine bodyPost_ret (results_ct rfl _ _ gb106 30 #[.slice none 0 0, .int .i64 0] (0, 0) _ rfl (by (with_reducible repeat (first | refine blk_drewN ?_ _ | refine blk_drew ?_ | refine blk_alloc ?_ _)); refine blk_put (cs := #[.slice none 0 0, .int .i64 0]) ?_ 1 _ rfl; (with_reducible repeat (first | refine blk_drewN ?_ _ | refine blk_drew ?_ | refine blk_alloc ?_ _)); refine blk_put (cs := #[.slice none 0 0, .int .i64 0]) ?_ 0 _ rfl; (with_reducible repeat (first | refine blk_drewN ?_ _ | refine blk_drew ?_ | refine blk_alloc ?_ _)); exact BK106.out) Try.underlying30 rfl (by kernel_rfl)) rfl ?_
        exact ⟨_, by first | rfl | (simp [errW_none, errW_some] <;> rfl) | (simp [*, errW_none, errW_some] <;> rfl), by first | exact Kd.R_nil _ _ _ _ _ | exact Kd.N_nil _ _ _ _ _ | exact Kd.V_nil _ _ _ _ _ | exact Kd.Q_nil _ _ _ _ _ | exact Kd.S_nil _ _ _ _ _, hB1 HB.out GE106.out⟩
       ·replace c20 := Bool.eq_false_iff.mpr c20
        subst c20
        have H1 : (some (t109, a1, 0)) = some (r1, r2, r3) := by rw [if_neg (show ¬ (false = true) by decide)] at H; exact H
        clear H
        have H := H1
        clear H1
        simp only [Option.some.injEq, Prod.mk.injEq] at H
        obtain ⟨rfl, rfl, rfl⟩ := H
        go_wp2_with (first | ((with_reducible refine gate_callee (f := 34) rfl ?_); refine goesL_ (some 20) rfl rfl Try.func34 (by kernel_rfl) rfl #[.slice A0 l0.length c0] rfl aM ?_; (with_reducible refine (fact_gather.calls kj5 _ _ l0 t109 _ ?side1 ?side2 A14.out).mono ?_); (case side1 => repeat (first | exact (Kd.C_below HR0.out HB.out) | (with_reducible refine Kd.C_alloc ?_ _) | (with_reducible refine Kd.C_drewN ?_ _) | (with_reducible refine Kd.C_drew ?_))); (case side2 => exact HC0.out); rintro e w25 ⟨v110, rfl, ho0, hb⟩; refine ⟨_, rfl, ?_⟩; have n0_ := Aside0.mk (Kd.R_lower ho0 (below_size (hB1 HB.out GE106.out))); have n1_ := Aside0.mk (blk_below (g := gb106) (o := .cells #[.slice none 0 0, .int .i64 0] 30 (0, 0)) (bK BK106.out) hb); have n2_ := Aside0.mk (below_step (hB1 HB.out GE106.out) hb); clear BK106 HB; have HO111 := n0_; have BK106 := n1_; have HB := n2_; clear n0_ n1_ n2_; (try clear hb); (try clear ho0); obtain ⟨Ao26, co26, eo26⟩ := Kd.R_slice HO111.out; subst eo26) | ((with_reducible refine gate_callee (f := 32) rfl ?_); refine goesL_ (some 26) rfl rfl Try.func32 (by kernel_rfl) rfl #[.slice Ao26 t109.length co26, .func (.func 35) #[] #[]] rfl aM ?_; (with_reducible refine (api_Term_32_at35.calls kj5 _ _ t109  false _ ?side1 ?side2 A19.out).mono ?_); (case side1 => exact cK (Kd.R_reads' HO111.out).2.2); (case side2 => exact (Kd.R_reads' HO111.out).2.1); rintro e w27 ⟨rfl, hb⟩; refine ⟨_, rfl, ?_⟩; have n0_ := Aside0.mk (Kd.R_below (rK HO111.out) hb); have n1_ := Aside0.mk (blk_below (g := gb106) (o := .cells #[.slice none 0 0, .int .i64 0] 30 (0, 0)) (bK BK106.out) hb); have n2_ := Aside0.mk (below_step (hB1 HB.out GE106.out) hb); clear HO111 BK106 HB; have HO111 := n0_; have BK106 := n1_; have HB := n2_; clear n0_ n1_ n2_; (try clear hb); have hcz28_0 : w27.cell? ⟨gb106, 0, none⟩ = some (.slice none 0 0) := (blk_cell BK106.out 0).trans rfl; have hcz28_1 : w27.cell? ⟨gb106, 1, none⟩ = some (.int .i64 0) := (blk_cell BK106.out 1).trans rfl; have hfz28_0 := blk_frozen BK106.out 0; have hfz28_1 := blk_frozen BK106.out 1))
        refine bodyPost_ret (results_ct rfl _ _ gb106 30 #[.slice Ao26 t109.length co26, .int .i64 a1] (0, 0) _ rfl (by (with_reducible repeat (first | refine blk_drewN ?_ _ | refine blk_drew ?_ | refine blk_alloc ?_ _)); refine blk_put (cs := #[.slice Ao26 t109.length co26, .int .i64 0]) ?_ 1 _ rfl; (with_reducible repeat (first | refine blk_drewN ?_ _ | refine blk_drew ?_ | refine blk_alloc ?_ _)); refine blk_put (cs := #[.slice none 0 0, .int .i64 0]) ?_ 0 _ rfl; (with_reducible repeat (first | refine blk_drewN ?_ _ | refine blk_drew ?_ | refine blk_alloc ?_ _)); exact BK106.out) Try.underlying30 rfl (by kernel_rfl)) rfl ?_
        exact ⟨_, by first | rfl | (simp [errW_none, errW_some] <;> rfl) | (simp [*, errW_none, errW_some] <;> rfl), by (with_reducible repeat (first | apply Kd.R_alloc | apply Kd.R_drewN | apply Kd.R_drew)); exact Kd.R_mono (Kd.R_far (p := ⟨gb106, 1, none⟩) (Kd.R_far (p := ⟨gb106, 0, none⟩) (Kd.R_types HO111.out BK106.out (by decide)) (fun _ hk => hk.2) (.slice Ao26 t109.length co26)) (fun _ hk => hk.2) (.int .i64 a1)) (fun _ hk => trivial), hB1 HB.out GE106.out⟩
def fact_Sum_1.f (a0 : Int) : Option (Bool) := if a0 < 0 then (some true) else (some (decide (a0 > 2147483648)))
set_option maxHeartbeats 8000000 in
set_option maxRecDepth 100000 in
theorem fact_Sum_1.calls (a0 : Int) (r : Bool) (w : World) (h : fact_Sum_1.f a0 = some r) :
   Calls Try.prog 29 #[.int .i64 a0] w fun e w' => e = .returned (.bool r) ∧ Drawn0 w w' := by
  have H : (if a0 < 0 then (some true) else (some (decide (a0 > 2147483648)))) = some r := h
  clear h
  by_cases c2 : a0 < 0
  ·rw [if_pos c2] at H
   have c2b0 : decide (a0 < 0) = true := decide_eq_true c2
   clear c2
   obtain rfl := Option.some.inj H
   go_enter Try.func29, Try.ntmps29
   go_wp2
   go_ret
   exact ⟨by first | rfl | (simp; done) | (simp [*]; done), by repeat (first | exact Drawn0.refl _ | apply Drawn0.step)⟩
  ·rw [if_neg c2] at H
   have c2b0 : decide (a0 < 0) = false := decide_eq_false c2
   clear c2
   obtain rfl := Option.some.inj H
   go_enter Try.func29, Try.ntmps29
   go_wp2
   go_ret
   exact ⟨by first | rfl | (simp; done) | (simp [*]; done), by repeat (first | exact Drawn0.refl _ | apply Drawn0.step)⟩
def slices_IndexFunc_int_int_48_at29.l0 : Nat → List Int → Int → Int → Option (Int)
  | 0, _, _, _ => none
  | k + 1, x0, x7, x8 => if x8 < x7 then (if 0 ≤ x8 then (if x8 < (x0.length : Int) then ((fact_Sum_1.f (rd x0 x8)).bind fun t102 => (if t102 = true then (some x8) else (slices_IndexFunc_int_int_48_at29.l0 k x0 x7 (wrap64 (x8 + 1))))) else (none)) else (none)) else (some (-1))
def slices_IndexFunc_int_int_48_at29.f (k : Nat) (l0 : List Int)  : Option (Int) := slices_IndexFunc_int_int_48_at29.l0 k l0 (l0.length : Int) 0
theorem slices_IndexFunc_int_int_48_at29.mono_l : ∀ k, (∀ y0 y1 y2, LeO (slices_IndexFunc_int_int_48_at29.l0 k y0 y1 y2) (slices_IndexFunc_int_int_48_at29.l0 (k + 1) y0 y1 y2))
  | 0 => fun _ _ _ r h => by simp [slices_IndexFunc_int_int_48_at29.l0] at h
  | k + 1 => by
   have ih0 := slices_IndexFunc_int_int_48_at29.mono_l k
   ·intro y0 y1 y2
    unfold slices_IndexFunc_int_int_48_at29.l0
    repeat' first
    | (with_reducible exact ih0 _ _ _)
    | (with_reducible exact LeO.refl _)
    | (with_reducible exact LeO.none _)
    | (with_reducible refine LeO.ite ?_ ?_)
    | (with_reducible refine LeO.bind ?_ (fun _ => ?_))
    | exact ih0 _ _ _
    | exact LeO.none _
    | refine LeO.ite ?_ ?_
    | refine LeO.bind ?_ (fun _ => ?_)
theorem slices_IndexFunc_int_int_48_at29.mono : ∀ a0 k, LeO (slices_IndexFunc_int_int_48_at29.f k a0) (slices_IndexFunc_int_int_48_at29.f (k + 1) a0) := by
  intro a0 k
  have ih0 := slices_IndexFunc_int_int_48_at29.mono_l k
  unfold slices_IndexFunc_int_int_48_at29.f
  repeat' first
    | (with_reducible exact ih0 _ _ _)
    | (with_reducible exact LeO.refl _)
    | (with_reducible exact LeO.none _)
    | (with_reducible refine LeO.ite ?_ ?_)
    | (with_reducible refine LeO.bind ?_ (fun _ => ?_))
    | exact ih0 _ _ _
    | exact LeO.none _
    | refine LeO.ite ?_ ?_
    | refine LeO.bind ?_ (fun _ => ?_)
set_option maxHeartbeats 8000000 in
set_option maxRecDepth 100000 in
theorem slices_IndexFunc_int_int_48_at29.calls (k : Nat) (A0 : Option Addr) (c0 : Nat) (l0 : List Int)  (r : Int) (w : World) (hr0 : Kd.C (Kd.int .i64) w A0 l0.length l0) (hc0 : l0.length ≤ c0) (h : slices_IndexFunc_int_int_48_at29.f k l0 = some r) :
   Calls Try.prog 48 #[.slice A0 l0.length c0, .func (.func 29) #[] #[]] w fun e w' => e = .returned (.int .i64 r) ∧ Drawn0 w w' := by
  have HR0 := Aside0.mk hr0
  have HC0 := Aside0.mk hc0
  clear hr0 hc0
  have H : (slices_IndexFunc_int_int_48_at29.l0 k l0 (l0.length : Int) 0) = some r := h
  clear h
  have H' := Aside0.mk H
  clear H
  go_enter Try.func48, Try.ntmps48
  go_wp2
  go_loopg [8] k (fun kq v8 w' => ∃ (x8_1 : Int), v8 = .int .i64 x8_1 ∧ Aside0 (slices_IndexFunc_int_int_48_at29.l0 kq l0 (l0.length : Int) x8_1 = some r) ∧ Aside0 (kq ≤ k) ∧ Drawn0 w w')
  case atStart => exact ⟨(0), rS, H', ⟨Nat.le_refl _⟩, by repeat (first | exact Drawn0.refl _ | apply Drawn0.step)⟩
  case round =>
   clear H'
   obtain ⟨x8_1, rfl, HA, HK1, ⟨m1, rfl⟩⟩ := hrel
   cases gk with
   | zero => exact absurd HA.out (by simp [slices_IndexFunc_int_int_48_at29.l0])
   | succ k1 =>
    have H := HA.out
    clear HA
    simp only [slices_IndexFunc_int_int_48_at29.l0] at H
    by_cases c3 : x8_1 < (l0.length : Int)
    ·rw [if_pos c3] at H
     have c3b0 : decide (x8_1 < (l0.length : Int)) = true := decide_eq_true c3
     clear c3
     by_cases c4 : 0 ≤ x8_1
     ·rw [if_pos c4] at H
      have c4b0 : decide (0 ≤ x8_1) = true := decide_eq_true c4
      clear c4
      by_cases c5 : x8_1 < (l0.length : Int)
      ·rw [if_pos c5] at H
       have c5b0 : decide (x8_1 < (l0.length : Int)) = true := decide_eq_true c5
       clear c5
       replace H := Option.bind_eq_some_iff.mp H
       obtain ⟨t102, A60, H⟩ := H
       replace H : (if t102 = true then (some x8_1) else (slices_IndexFunc_int_int_48_at29.l0 k1 l0 (l0.length : Int) (wrap64 (x8_1 + 1)))) = some r := H
       have A6 := Aside0.mk A60
       clear A60
       by_cases c7 : t102 = true
       ·subst c7
        have H1 : (some x8_1) = some r := by rw [if_pos rfl] at H; exact H
        clear H
        have H := H1
        clear H1
        obtain rfl := Option.some.inj H
        have p101 : 0 ≤ (x8_1 : Int) := oD
        have q101 : x8_1 < (l0.length : Int) := oD
        obtain ⟨ad101, e101, hx101_0⟩ := Kd.at_int HR0.out x8_1 p101 q101
        cases e101
        replace p101 := eq_true p101
        replace q101 := eq_true q101
        go_wp2_with (first | (go_at_call 29; (with_reducible refine (fact_Sum_1.calls (rd l0 x8_1) true _ A6.out).mono ?_); rintro e w' ⟨rfl, ⟨nd, rfl⟩⟩))
        go_ret
        exact ⟨by first | rfl | (simp; done) | (simp [*]; done), by repeat (first | exact Drawn0.refl _ | apply Drawn0.step)⟩
       ·replace c7 := Bool.eq_false_iff.mpr c7
        subst c7
        have H1 : (slices_IndexFunc_int_int_48_at29.l0 k1 l0 (l0.length : Int) (wrap64 (x8_1 + 1))) = some r := by rw [if_neg (show ¬ (false = true) by decide)] at H; exact H
        clear H
        have H := H1
        clear H1
        have H' := Aside0.mk H
        clear H
        have p101 : 0 ≤ (x8_1 : Int) := oD
        have q101 : x8_1 < (l0.length : Int) := oD
        obtain ⟨ad101, e101, hx101_0⟩ := Kd.at_int HR0.out x8_1 p101 q101
        cases e101
        replace p101 := eq_true p101
        replace q101 := eq_true q101
        go_wp2_with (first | (go_at_call 29; (with_reducible refine (fact_Sum_1.calls (rd l0 x8_1) false _ A6.out).mono ?_); rintro e w' ⟨rfl, ⟨nd, rfl⟩⟩))
        go_roundg k1
        case measure => have := HK1.out; omega
        case rel => exact ⟨(wrap64 (x8_1 + 1)), rS, H', ⟨by have := HK1.out; omega⟩, by repeat (first | exact Drawn0.refl _ | apply Drawn0.step)⟩
      ·rw [if_neg c5] at H
       exact absurd H (by simp)
     ·rw [if_neg c4] at H
      exact absurd H (by simp)
    ·rw [if_neg c3] at H
     have c3b0 : decide (x8_1 < (l0.length : Int)) = false := decide_eq_false c3
     clear c3
     obtain rfl := Option.some.inj H
     go_wp2
     go_ret
     exact ⟨by first | rfl | (simp; done) | (simp [*]; done), by repeat (first | exact Drawn0.refl _ | apply Drawn0.step)⟩
def slices_ContainsFunc_int_int_28_at29.f (k : Nat) (l0 : List Int)  : Option (Bool) := (slices_IndexFunc_int_int_48_at29.f k l0).bind fun t103 => (some (decide (t103 ≥ 0)))
theorem slices_ContainsFunc_int_int_28_at29.mono : ∀ a0 k, LeO (slices_ContainsFunc_int_int_28_at29.f k a0) (slices_ContainsFunc_int_int_28_at29.f (k + 1) a0) := by
  intro a0 k
  unfold slices_ContainsFunc_int_int_28_at29.f
  repeat' first
    | (with_reducible exact slices_IndexFunc_int_int_48_at29.mono _ _)
    | (with_reducible exact LeO.refl _)
    | (with_reducible exact LeO.none _)
    | (with_reducible refine LeO.ite ?_ ?_)
    | (with_reducible refine LeO.bind ?_ (fun _ => ?_))
    | exact slices_IndexFunc_int_int_48_at29.mono _ _
    | exact LeO.none _
    | refine LeO.ite ?_ ?_
    | refine LeO.bind ?_ (fun _ => ?_)
set_option maxHeartbeats 8000000 in
set_option maxRecDepth 100000 in
theorem slices_ContainsFunc_int_int_28_at29.calls (k : Nat) (A0 : Option Addr) (c0 : Nat) (l0 : List Int)  (r : Bool) (w : World) (hr0 : Kd.C (Kd.int .i64) w A0 l0.length l0) (hc0 : l0.length ≤ c0) (h : slices_ContainsFunc_int_int_28_at29.f k l0 = some r) :
   Calls Try.prog 28 #[.slice A0 l0.length c0, .func (.func 29) #[] #[]] w fun e w' => e = .returned (.bool r) ∧ Drawn0 w w' := by
  have HR0 := Aside0.mk hr0
  have HC0 := Aside0.mk hc0
  clear hr0 hc0
  have H : ((slices_IndexFunc_int_int_48_at29.f k l0).bind fun t103 => (some (decide (t103 ≥ 0)))) = some r := h
  clear h
  replace H := Option.bind_eq_some_iff.mp H
  obtain ⟨t103, A30, H⟩ := H
  replace H : (some (decide (t103 ≥ 0))) = some r := H
  have A3 := Aside0.mk A30
  clear A30
  obtain rfl := Option.some.inj H
  go_enter Try.func28, Try.ntmps28
  go_wp2_with (first | ((with_reducible refine gate_callee (f := 48) rfl ?_); refine goesL_ (some 7) rfl rfl Try.func48 (by kernel_rfl) rfl #[.slice A0 l0.length c0, .func (.func 29) #[] #[]] rfl aM ?_; (with_reducible refine (slices_IndexFunc_int_int_48_at29.calls k _ _ l0  t103 _ ?side1 ?side2 A3.out).mono ?_); (case side1 => exact cK HR0.out); (case side2 => exact HC0.out); rintro e w' ⟨rfl, ⟨nd, rfl⟩⟩; refine ⟨_, rfl, ?_⟩))
  go_ret
  exact ⟨by first | rfl | (simp; done) | (simp [*]; done), by repeat (first | exact Drawn0.refl _ | apply Drawn0.step)⟩
mutual
def fact_Sum.j0 : Nat → List Int → Bool → List (S44) → Int → Option (Int × Int)
  | 0, _, _, _, _ => none
  | k + 1, x1, x21, x105000, x105001 => if x21 = true then (some (0, 3)) else (fact_Sum.l0 k x1 0 x105000 (x105000.length : Int) 0)
def fact_Sum.l0 : Nat → List Int → Int → List (S44) → Int → Int → Option (Int × Int)
  | 0, _, _, _, _, _ => none
  | k + 1, x1, x7, x23, x24, x25 => if x25 < x24 then (if 0 ≤ x25 then (if x25 < (x23.length : Int) then (if ((rd_T44 x23 x25).f0) < (x1.length : Int) then (if 0 ≤ ((rd_T44 x23 x25).f0) then (fact_Sum.l0 k x1 (wrap64 (x7 + (wrap64 (((rd_T44 x23 x25).f1) * (rd x1 ((rd_T44 x23 x25).f0)))))) x23 x24 (wrap64 (x25 + 1))) else (none)) else (fact_Sum.l0 k x1 x7 x23 x24 (wrap64 (x25 + 1)))) else (none)) else (none)) else (some (x7, 0))
end
def fact_Sum.f (k : Nat) (l0_0 : List (S44)) (a0_1 : Int) (l1 : List Int) : Option (Int × Int) := (fact_Check.f k l0_0 a0_1).bind fun t105 => (if t105 = 0 then (if (l1.length : Int) > 256 then (fact_Sum.j0 k l1 true l0_0 a0_1) else ((slices_ContainsFunc_int_int_28_at29.f k l1).bind fun t106 => (fact_Sum.j0 k l1 t106 l0_0 a0_1))) else (some (0, t105)))
theorem fact_Sum.mono_l : ∀ k, (∀ y0 y1 y2 y3, LeO (fact_Sum.j0 k y0 y1 y2 y3) (fact_Sum.j0 (k + 1) y0 y1 y2 y3)) ∧ (∀ y0 y1 y2 y3 y4, LeO (fact_Sum.l0 k y0 y1 y2 y3 y4) (fact_Sum.l0 (k + 1) y0 y1 y2 y3 y4))
  | 0 => ⟨fun _ _ _ _ r h => by simp [fact_Sum.j0] at h, fun _ _ _ _ _ r h => by simp [fact_Sum.l0] at h⟩
  | k + 1 => by
   obtain ⟨ih0, ih1⟩ := fact_Sum.mono_l k
   refine ⟨?_, ?_⟩
   ·intro y0 y1 y2 y3
    unfold fact_Sum.j0
    repeat' first
    | (with_reducible exact ih0 _ _ _ _)
    | (with_reducible exact ih1 _ _ _ _ _)
    | (with_reducible exact fact_Check.mono _ _ _)
    | (with_reducible exact slices_ContainsFunc_int_int_28_at29.mono _ _)
    | (with_reducible exact LeO.refl _)
    | (with_reducible exact LeO.none _)
    | (with_reducible refine LeO.ite ?_ ?_)
    | (with_reducible refine LeO.bind ?_ (fun _ => ?_))
    | exact ih0 _ _ _ _
    | exact ih1 _ _ _ _ _
    | exact fact_Check.mono _ _ _
    | exact slices_ContainsFunc_int_int_28_at29.mono _ _
    | exact LeO.none _
    | refine LeO.ite ?_ ?_
    | refine LeO.bind ?_ (fun _ => ?_)
   ·intro y0 y1 y2 y3 y4
    unfold fact_Sum.l0
    repeat' first
    | (with_reducible exact ih0 _ _ _ _)
    | (with_reducible exact ih1 _ _ _ _ _)
    | (with_reducible exact fact_Check.mono _ _ _)
    | (with_reducible exact slices_ContainsFunc_int_int_28_at29.mono _ _)
    | (with_reducible exact LeO.refl _)
    | (with_reducible exact LeO.none _)
    | (with_reducible refine LeO.ite ?_ ?_)
    | (with_reducible refine LeO.bind ?_ (fun _ => ?_))
    | exact ih0 _ _ _ _
    | exact ih1 _ _ _ _ _
    | exact fact_Check.mono _ _ _
    | exact slices_ContainsFunc_int_int_28_at29.mono _ _
    | exact LeO.none _
    | refine LeO.ite ?_ ?_
    | refine LeO.bind ?_ (fun _ => ?_)
theorem fact_Sum.mono : ∀ a0 a1 a2 k, LeO (fact_Sum.f k a0 a1 a2) (fact_Sum.f (k + 1) a0 a1 a2) := by
  intro a0 a1 a2 k
  obtain ⟨ih0, ih1⟩ := fact_Sum.mono_l k
  unfold fact_Sum.f
  repeat' first
    | (with_reducible exact ih0 _ _ _ _)
    | (with_reducible exact ih1 _ _ _ _ _)
    | (with_reducible exact fact_Check.mono _ _ _)
    | (with_reducible exact slices_ContainsFunc_int_int_28_at29.mono _ _)
    | (with_reducible exact LeO.refl _)
    | (with_reducible exact LeO.none _)
    | (with_reducible refine LeO.ite ?_ ?_)
    | (with_reducible refine LeO.bind ?_ (fun _ => ?_))
    | exact ih0 _ _ _ _
    | exact ih1 _ _ _ _ _
    | exact fact_Check.mono _ _ _
    | exact slices_ContainsFunc_int_int_28_at29.mono _ _
    | exact LeO.none _
    | refine LeO.ite ?_ ?_
    | refine LeO.bind ?_ (fun _ => ?_)
set_option maxHeartbeats 8000000 in
set_option maxRecDepth 100000 in
theorem fact_Sum.calls (k : Nat) (A0_0 : Option Addr) (c0_0 : Nat) (l0_0 : List (S44)) (a0_1 : Int) (A1 : Option Addr) (c1 : Nat) (l1 : List Int) (r1 : Int) (r2 : Int) (w : World) (hr0_0 : Kd.C k44 w A0_0 l0_0.length l0_0) (hc0_0 : l0_0.length ≤ c0_0) (hr1 : Kd.C (Kd.int .i64) w A1 l1.length l1) (hc1 : l1.length ≤ c1) (h : fact_Sum.f k l0_0 a0_1 l1 = some (r1, r2)) :
   Calls Try.prog 16 #[.agg #[.slice A0_0 l0_0.length c0_0, .int .i64 a0_1], .slice A1 l1.length c1] w fun e w' => e = .returned (.tuple #[.int .i64 r1, .int .i64 r2]) ∧ Below w.heap.size w w' := by
  have hu30 := Try.underlying30
  have hu44 := Try.underlying44
  have HR0_0 := Aside0.mk hr0_0
  have HC0_0 := Aside0.mk hc0_0
  clear hr0_0 hc0_0
  have HR1 := Aside0.mk hr1
  have HC1 := Aside0.mk hc1
  clear hr1 hc1
  have HB := Aside0.mk (Below.refl w.heap.size w)
  have H : ((fact_Check.f k l0_0 a0_1).bind fun t105 => (if t105 = 0 then (if (l1.length : Int) > 256 then (fact_Sum.j0 k l1 true l0_0 a0_1) else ((slices_ContainsFunc_int_int_28_at29.f k l1).bind fun t106 => (fact_Sum.j0 k l1 t106 l0_0 a0_1))) else (some (0, t105)))) = some (r1, r2) := h
  clear h
  replace H := Option.bind_eq_some_iff.mp H
  obtain ⟨t105, A30, H⟩ := H
  replace H : (if t105 = 0 then (if (l1.length : Int) > 256 then (fact_Sum.j0 k l1 true l0_0 a0_1) else ((slices_ContainsFunc_int_int_28_at29.f k l1).bind fun t106 => (fact_Sum.j0 k l1 t106 l0_0 a0_1))) else (some (0, t105))) = some (r1, r2) := H
  have A3 := Aside0.mk A30
  clear A30
  by_cases c4 : t105 = 0
  ·rw [if_pos c4] at H
   have c4b0 : (t105 == 0) = true := beq_iff_eq.mpr c4
   have c4b1 : (t105 != 0) = false := bne_eq_false_iff_eq.mpr c4
   clear c4
   have HC5 := Aside0.mk H
   clear H
   go_enter Try.func16, Try.ntmps16
   go_upto_region 4 with (first | ((with_reducible refine gate_dst (N := 2) rfl ?_); refine box_event ?hg (N := 2) ?hd (cs := #[.slice A0_0 l0_0.length c0_0, .int .i64 a0_1]) (t := 30) ?hr ?_; (case hd => rfl); (case hg => rfl); (case hr => first | (go_simp; done) | (go_simp; rfl)); intro gb104 hg w6 hbox hb; have n0_ := Aside0.mk (below_step (hB0 HB.out) hb); have n1_ := Aside0.mk (hbox); have n2_ := Aside0.mk ((by rw [hg]; exact (below_size (hB0 HB.out)) : w.heap.size ≤ gb104)); have n3_ := Aside0.mk ((by rw [hg]; exact (below_size (hB0 HB.out)) : w.heap.size ≤ gb104)); clear HB; have HB := n0_; have BK104 := n1_; have GW104 := n2_; have GE104 := n3_; clear n0_ n1_ n2_ n3_; clear hb hbox hg; have hcz7_0 : w6.cell? ⟨gb104, 0, none⟩ = some (.slice A0_0 l0_0.length c0_0) := (blk_cell BK104.out 0).trans rfl; have hcz7_1 : w6.cell? ⟨gb104, 1, none⟩ = some (.int .i64 a0_1) := (blk_cell BK104.out 1).trans rfl; have hfz7_0 := blk_frozen BK104.out 0; have hfz7_1 := blk_frozen BK104.out 1) | (go_at_call 18; (with_reducible refine (fact_Check.calls k _ _ l0_0 a0_1 t105 _ ?side1 ?side2 A3.out).mono ?_); (case side1 => repeat (first | exact (Kd.C_below HR0_0.out HB.out) | (with_reducible refine Kd.C_alloc ?_ _) | (with_reducible refine Kd.C_drewN ?_ _) | (with_reducible refine Kd.C_drew ?_))); (case side2 => exact HC0_0.out); rintro e w8 ⟨rfl, hb⟩; have n0_ := Aside0.mk (blk_below (g := gb104) (o := .cells #[.slice A0_0 l0_0.length c0_0, .int .i64 a0_1] 30 (0, 0)) (bK BK104.out) hb); have n1_ := Aside0.mk (below_step (hB1 HB.out GE104.out) hb); clear BK104 HB; have BK104 := n0_; have HB := n1_; clear n0_ n1_; (try clear hb)))
   repeat (go_quiet (first | ((with_reducible refine gate_dst (N := 2) rfl ?_); refine box_event ?hg (N := 2) ?hd (cs := #[.slice A0_0 l0_0.length c0_0, .int .i64 a0_1]) (t := 30) ?hr ?_; (case hd => rfl); (case hg => rfl); (case hr => first | (go_simp; done) | (go_simp; rfl)); intro gb104 hg w6 hbox hb; have n0_ := Aside0.mk (below_step (hB0 HB.out) hb); have n1_ := Aside0.mk (hbox); have n2_ := Aside0.mk ((by rw [hg]; exact (below_size (hB0 HB.out)) : w.heap.size ≤ gb104)); have n3_ := Aside0.mk ((by rw [hg]; exact (below_size (hB0 HB.out)) : w.heap.size ≤ gb104)); clear HB; have HB := n0_; have BK104 := n1_; have GW104 := n2_; have GE104 := n3_; clear n0_ n1_ n2_ n3_; clear hb hbox hg; have hcz7_0 : w6.cell? ⟨gb104, 0, none⟩ = some (.slice A0_0 l0_0.length c0_0) := (blk_cell BK104.out 0).trans rfl; have hcz7_1 : w6.cell? ⟨gb104, 1, none⟩ = some (.int .i64 a0_1) := (blk_cell BK104.out 1).trans rfl; have hfz7_0 := blk_frozen BK104.out 0; have hfz7_1 := blk_frozen BK104.out 1) | (go_at_call 18; (with_reducible refine (fact_Check.calls k _ _ l0_0 a0_1 t105 _ ?side1 ?side2 A3.out).mono ?_); (case side1 => repeat (first | exact (Kd.C_below HR0_0.out HB.out) | (with_reducible refine Kd.C_alloc ?_ _) | (with_reducible refine Kd.C_drewN ?_ _) | (with_reducible refine Kd.C_drew ?_))); (case side2 => exact HC0_0.out); rintro e w8 ⟨rfl, hb⟩; have n0_ := Aside0.mk (blk_below (g := gb104) (o := .cells #[.slice A0_0 l0_0.length c0_0, .int .i64 a0_1] 30 (0, 0)) (bK BK104.out) hb); have n1_ := Aside0.mk (below_step (hB1 HB.out GE104.out) hb); clear BK104 HB; have BK104 := n0_; have HB := n1_; clear n0_ n1_; (try clear hb))); go_upto_region 4 with (first | ((with_reducible refine gate_dst (N := 2) rfl ?_); refine box_event ?hg (N := 2) ?hd (cs := #[.slice A0_0 l0_0.length c0_0, .int .i64 a0_1]) (t := 30) ?hr ?_; (case hd => rfl); (case hg => rfl); (case hr => first | (go_simp; done) | (go_simp; rfl)); intro gb104 hg w6 hbox hb; have n0_ := Aside0.mk (below_step (hB0 HB.out) hb); have n1_ := Aside0.mk (hbox); have n2_ := Aside0.mk ((by rw [hg]; exact (below_size (hB0 HB.out)) : w.heap.size ≤ gb104)); have n3_ := Aside0.mk ((by rw [hg]; exact (below_size (hB0 HB.out)) : w.heap.size ≤ gb104)); clear HB; have HB := n0_; have BK104 := n1_; have GW104 := n2_; have GE104 := n3_; clear n0_ n1_ n2_ n3_; clear hb hbox hg; have hcz7_0 : w6.cell? ⟨gb104, 0, none⟩ = some (.slice A0_0 l0_0.length c0_0) := (blk_cell BK104.out 0).trans rfl; have hcz7_1 : w6.cell? ⟨gb104, 1, none⟩ = some (.int .i64 a0_1) := (blk_cell BK104.out 1).trans rfl; have hfz7_0 := blk_frozen BK104.out 0; have hfz7_1 := blk_frozen BK104.out 1) | (go_at_call 18; (with_reducible refine (fact_Check.calls k _ _ l0_0 a0_1 t105 _ ?side1 ?side2 A3.out).mono ?_); (case side1 => repeat (first | exact (Kd.C_below HR0_0.out HB.out) | (with_reducible refine Kd.C_alloc ?_ _) | (with_reducible refine Kd.C_drewN ?_ _) | (with_reducible refine Kd.C_drew ?_))); (case side2 => exact HC0_0.out); rintro e w8 ⟨rfl, hb⟩; have n0_ := Aside0.mk (blk_below (g := gb104) (o := .cells #[.slice A0_0 l0_0.length c0_0, .int .i64 a0_1] 30 (0, 0)) (bK BK104.out) hb); have n1_ := Aside0.mk (below_step (hB1 HB.out GE104.out) hb); clear BK104 HB; have BK104 := n0_; have HB := n1_; clear n0_ n1_; (try clear hb))))
   (try simp only [Act.put, List.setIfInBounds_toArray, List.set_cons_zero, List.set_cons_succ])
   go_cut [21] (fun v21 wc => ∃ (kq : Nat) (x21_4 : Bool), v21 = .bool x21_4 ∧ Aside0 (fact_Sum.j0 kq l1 x21_4 l0_0 a0_1 = some (r1, r2)) ∧ Aside0 (kq ≤ k) ∧ Aside0 (wc.heap[gb104]? = some (.cells #[(.slice A0_0 l0_0.length c0_0), .int .i64 a0_1] 30 (0, 0))) ∧ Aside0 (Below w.heap.size w wc))
   case first =>
    have H := HC5.out
    clear HC5
    by_cases c9 : (l1.length : Int) > 256
    ·rw [if_pos c9] at H
     have c9b0 : decide (256 < (l1.length : Int)) = true := decide_eq_true c9
     have c9b1 : decide (256 < l1.length) = true := decide_eq_true (by omega)
     clear c9
     (first | rw [c9b0] | (simp only [i64_w, i32_w]; rw [c9b0]) | skip)
     have H' := Aside0.mk H
     clear H
     go_wp2
     repeat (go_quiet (fail); try go_wp2)
     go_meet
     case rel => exact ⟨_, (true), rS, H', ⟨by first | omega | exact Nat.le_refl _⟩, ⟨bK BK104.out⟩, ⟨hB1 HB.out GE104.out⟩⟩
    ·rw [if_neg c9] at H
     have c9b0 : decide (256 < (l1.length : Int)) = false := decide_eq_false c9
     have c9b1 : decide (256 < l1.length) = false := decide_eq_false (by omega)
     clear c9
     (first | rw [c9b0] | (simp only [i64_w, i32_w]; rw [c9b0]) | skip)
     replace H := Option.bind_eq_some_iff.mp H
     obtain ⟨t106, A100, H⟩ := H
     replace H : (fact_Sum.j0 k l1 t106 l0_0 a0_1) = some (r1, r2) := H
     have A10 := Aside0.mk A100
     clear A100
     have H' := Aside0.mk H
     clear H
     go_wp2_with (first | (go_at_call 28; (with_reducible refine (slices_ContainsFunc_int_int_28_at29.calls k _ _ l1  t106 _ ?side1 ?side2 A10.out).mono ?_); (case side1 => repeat (first | exact (Kd.C_below HR1.out HB.out) | (with_reducible refine Kd.C_alloc ?_ _) | (with_reducible refine Kd.C_drewN ?_ _) | (with_reducible refine Kd.C_drew ?_))); (case side2 => exact HC1.out); rintro e w' ⟨rfl, ⟨nd, rfl⟩⟩; (try first | exact ⟨rfl, _, World.drewN_drewN _ _ _⟩ | exact ⟨rfl, _, Eq.trans (World.drewN_drewN _ _ _) (congrArg (World.drewN _) (Nat.add_assoc _ _ _))⟩)))
     repeat (go_quiet (first | (go_at_call 28; (with_reducible refine (slices_ContainsFunc_int_int_28_at29.calls k _ _ l1  t106 _ ?side1 ?side2 A10.out).mono ?_); (case side1 => repeat (first | exact (Kd.C_below HR1.out HB.out) | (with_reducible refine Kd.C_alloc ?_ _) | (with_reducible refine Kd.C_drewN ?_ _) | (with_reducible refine Kd.C_drew ?_))); (case side2 => exact HC1.out); rintro e w' ⟨rfl, ⟨nd, rfl⟩⟩; (try first | exact ⟨rfl, _, World.drewN_drewN _ _ _⟩ | exact ⟨rfl, _, Eq.trans (World.drewN_drewN _ _ _) (congrArg (World.drewN _) (Nat.add_assoc _ _ _))⟩))); try go_wp2_with (first | (go_at_call 28; (with_reducible refine (slices_ContainsFunc_int_int_28_at29.calls k _ _ l1  t106 _ ?side1 ?side2 A10.out).mono ?_); (case side1 => repeat (first | exact (Kd.C_below HR1.out HB.out) | (with_reducible refine Kd.C_alloc ?_ _) | (with_reducible refine Kd.C_drewN ?_ _) | (with_reducible refine Kd.C_drew ?_))); (case side2 => exact HC1.out); rintro e w' ⟨rfl, ⟨nd, rfl⟩⟩; (try first | exact ⟨rfl, _, World.drewN_drewN _ _ _⟩ | exact ⟨rfl, _, Eq.trans (World.drewN_drewN _ _ _) (congrArg (World.drewN _) (Nat.add_assoc _ _ _))⟩))))
     go_meet
     case rel => exact ⟨_, (t106), rS, H', ⟨by first | omega | exact Nat.le_refl _⟩, ⟨bK BK104.out⟩, ⟨hB1 HB.out GE104.out⟩⟩
   case rest =>
    clear HC5
    try clear c1
    try clear c4b0
    try clear c4b1
    try clear hcz7_0
    try clear hcz7_1
    try clear hfz7_0
    try clear hfz7_1
    obtain ⟨kq, x21_4, rfl, HA, HJ4, BK104, HB⟩ := hcut
    cases kq with
    | zero => exact absurd HA.out (by simp [fact_Sum.j0])
    | succ kj4 =>
     have H := HA.out
     clear HA
     simp only [fact_Sum.j0] at H
     by_cases c11 : x21_4 = true
     ·subst c11
      have H1 : (some (0, 3)) = some (r1, r2) := by rw [if_pos rfl] at H; exact H
      clear H
      have H := H1
      clear H1
      simp only [Option.some.injEq, Prod.mk.injEq] at H
      obtain ⟨rfl, rfl⟩ := H
      go_wp2
      repeat (go_quiet (fail); try go_wp2)
      go_ret2
      exact ⟨eW, hB1 HB.out GE104.out⟩
     ·replace c11 := Bool.eq_false_iff.mpr c11
      subst c11
      have H1 : (fact_Sum.l0 kj4 l1 0 l0_0 (l0_0.length : Int) 0) = some (r1, r2) := by rw [if_neg (show ¬ (false = true) by decide)] at H; exact H
      clear H
      have H := H1
      clear H1
      have H' := Aside0.mk H
      clear H
      have hcz12_0 : wc.cell? ⟨gb104, 0, none⟩ = some (.slice A0_0 l0_0.length c0_0) := (blk_cell BK104.out 0).trans rfl
      have hcz12_1 : wc.cell? ⟨gb104, 1, none⟩ = some (.int .i64 a0_1) := (blk_cell BK104.out 1).trans rfl
      have hfz12_0 := blk_frozen BK104.out 0
      have hfz12_1 := blk_frozen BK104.out 1
      go_wp2
      repeat (go_quiet (fail); try go_wp2)
      go_loopg [7, 25] kj4 (fun kq v7 v25 w' => ∃ (x7_2 : Int) (x25_2 : Int), v7 = .int .i64 x7_2 ∧ v25 = .int .i64 x25_2 ∧ Aside0 (fact_Sum.l0 kq l1 x7_2 l0_0 (l0_0.length : Int) x25_2 = some (r1, r2)) ∧ Aside0 (kq ≤ kj4) ∧ Aside0 (w'.heap[gb104]? = some (.cells #[(.slice A0_0 l0_0.length c0_0), .int .i64 a0_1] 30 (0, 0))) ∧ Aside0 (Below w.heap.size w w'))
      case atStart => exact ⟨(0), (0), rS, rS, H', ⟨Nat.le_refl _⟩, ⟨bK BK104.out⟩, ⟨hB1 HB.out GE104.out⟩⟩
      case round =>
       clear H'
       try clear c11
       try clear hcz12_0
       try clear hcz12_1
       try clear hfz12_0
       try clear hfz12_1
       obtain ⟨x7_2, x25_2, rfl, rfl, HA, HK2, BK104, HB⟩ := hrel
       cases gk with
       | zero => exact absurd HA.out (by simp [fact_Sum.l0])
       | succ k2 =>
        have H := HA.out
        clear HA
        simp only [fact_Sum.l0] at H
        by_cases c13 : x25_2 < (l0_0.length : Int)
        ·rw [if_pos c13] at H
         have c13b0 : decide (x25_2 < (l0_0.length : Int)) = true := decide_eq_true c13
         clear c13
         by_cases c14 : 0 ≤ x25_2
         ·rw [if_pos c14] at H
          have c14b0 : decide (0 ≤ x25_2) = true := decide_eq_true c14
          clear c14
          by_cases c15 : x25_2 < (l0_0.length : Int)
          ·rw [if_pos c15] at H
           have c15b0 : decide (x25_2 < (l0_0.length : Int)) = true := decide_eq_true c15
           clear c15
           by_cases c16 : ((rd_T44 l0_0 x25_2).f0) < (l1.length : Int)
           ·rw [if_pos c16] at H
            have c16b0 : decide (((rd_T44 l0_0 x25_2).f0) < (l1.length : Int)) = true := decide_eq_true c16
            clear c16
            by_cases c17 : 0 ≤ ((rd_T44 l0_0 x25_2).f0)
            ·rw [if_pos c17] at H
             have c17b0 : decide (0 ≤ ((rd_T44 l0_0 x25_2).f0)) = true := decide_eq_true c17
             clear c17
             have H' := Aside0.mk H
             clear H
             have p107 : 0 ≤ (x25_2 : Int) := oD
             have q107 : x25_2 < (l0_0.length : Int) := oD
             obtain ⟨ad107, e107, hx107_0, hx107_1⟩ := at_T44 HR0_0.out x25_2 p107 q107
             cases e107
             replace hx107_0 := (HB.out.cell (World.block_lt_of_cell? w _ hx107_0)).trans hx107_0
             replace hx107_1 := (HB.out.cell (World.block_lt_of_cell? w _ hx107_1)).trans hx107_1
             replace p107 := eq_true p107
             replace q107 := eq_true q107
             go_wp2_with (first | ((with_reducible refine gate_dst (N := 9) rfl ?_); refine box_event ?hg (N := 9) ?hd (cs := #[.int .i64 0, .int .i64 0]) (t := 44) ?hr ?_; (case hd => rfl); (case hg => rfl); (case hr => first | (go_simp; done) | (go_simp; rfl)); intro gb108 hg w18 hbox hb; have n0_ := Aside0.mk (blk_below (g := gb104) (o := .cells #[.slice (some ad107) l0_0.length c0_0, .int .i64 a0_1] 30 (0, 0)) (bK BK104.out) hb); have n1_ := Aside0.mk (below_step (hB1 HB.out GE104.out) hb); have n2_ := Aside0.mk (hbox); have n3_ := Aside0.mk ((by rw [hg]; exact (below_size (hB1 HB.out GE104.out)) : w.heap.size ≤ gb108)); have n4_ := Aside0.mk ((by rw [hg]; exact (below_size (hB1 HB.out GE104.out)) : w.heap.size ≤ gb108)); have n5_ := Aside0.mk ((by rw [hg]; exact Nat.ne_of_lt (blk_lt (g := gb104) (o := .cells #[.slice (some ad107) l0_0.length c0_0, .int .i64 a0_1] 30 (0, 0)) (bK BK104.out)) : gb104 ≠ gb108)); have n6_ := Aside0.mk ((by rw [hg]; exact Nat.ne_of_gt (blk_lt (g := gb104) (o := .cells #[.slice (some ad107) l0_0.length c0_0, .int .i64 a0_1] 30 (0, 0)) (bK BK104.out)) : gb108 ≠ gb104)); clear BK104 HB; have BK104 := n0_; have HB := n1_; have BK108 := n2_; have GW108 := n3_; have GE108 := n4_; have NB104_108 := n5_; have NB108_104 := n6_; clear n0_ n1_ n2_ n3_ n4_ n5_ n6_; clear hb hbox hg; have hnb19 := NB108_104.out; have hnc19 := NB104_108.out; have hcz20_0 : w18.cell? ⟨gb108, 0, none⟩ = some (.int .i64 0) := (blk_cell BK108.out 0).trans rfl; have hcz20_1 : w18.cell? ⟨gb108, 1, none⟩ = some (.int .i64 0) := (blk_cell BK108.out 1).trans rfl; have hfz20_0 := blk_frozen BK108.out 0; have hfz20_1 := blk_frozen BK108.out 1; have p109 : 0 ≤ (((rd_T44 l0_0 x25_2).f0) : Int) := oD; have q109 : ((rd_T44 l0_0 x25_2).f0) < (l1.length : Int) := oD; obtain ⟨ad109, e109, hx109_0⟩ := Kd.at_int HR1.out ((rd_T44 l0_0 x25_2).f0) p109 q109; cases e109; have hn109_0 : ad109.block ≠ gb108 := Nat.ne_of_lt (Nat.lt_of_lt_of_le (by have := World.block_lt_of_cell? _ _ hx109_0; first | rwa [add_block] at this | exact this) GW108.out); have hn109_1 : ad109.block ≠ gb108 := Nat.ne_of_lt (Nat.lt_of_lt_of_le (by have := World.block_lt_of_cell? _ _ hx109_0; first | rwa [add_block] at this | exact this) GW108.out); replace hx109_0 := (HB.out.cell (World.block_lt_of_cell? w _ hx109_0)).trans hx109_0; replace hx109_0 := (cell_far (p := ⟨gb108, 0, none⟩) (by first | (rw [add_block]; exact hn109_0) | (show (Addr.add _ _).block ≠ _; rw [add_block]; exact hn109_0) | exact hn109_0) (.int .i64 ((rd_T44 l0_0 x25_2).f0))).trans hx109_0; replace hx109_0 := (cell_far (p := ⟨gb108, 1, none⟩) (by first | (rw [add_block]; exact hn109_1) | (show (Addr.add _ _).block ≠ _; rw [add_block]; exact hn109_1) | exact hn109_1) (.int .i64 ((rd_T44 l0_0 x25_2).f1))).trans hx109_0; (try have hy109_0 := fun (n_ : Nat) => (show ((((w18.drewN n_).setCell ⟨gb108, 0, none⟩ (.int .i64 ((rd_T44 l0_0 x25_2).f0))).setCell ⟨gb108, 1, none⟩ (.int .i64 ((rd_T44 l0_0 x25_2).f1)))).cell? _ = some _ from hx109_0)); clear hn109_0 hn109_1; replace p109 := eq_true p109; replace q109 := eq_true q109))
             repeat (go_quiet (first | ((with_reducible refine gate_dst (N := 9) rfl ?_); refine box_event ?hg (N := 9) ?hd (cs := #[.int .i64 0, .int .i64 0]) (t := 44) ?hr ?_; (case hd => rfl); (case hg => rfl); (case hr => first | (go_simp; done) | (go_simp; rfl)); intro gb108 hg w18 hbox hb; have n0_ := Aside0.mk (blk_below (g := gb104) (o := .cells #[.slice (some ad107) l0_0.length c0_0, .int .i64 a0_1] 30 (0, 0)) (bK BK104.out) hb); have n1_ := Aside0.mk (below_step (hB1 HB.out GE104.out) hb); have n2_ := Aside0.mk (hbox); have n3_ := Aside0.mk ((by rw [hg]; exact (below_size (hB1 HB.out GE104.out)) : w.heap.size ≤ gb108)); have n4_ := Aside0.mk ((by rw [hg]; exact (below_size (hB1 HB.out GE104.out)) : w.heap.size ≤ gb108)); have n5_ := Aside0.mk ((by rw [hg]; exact Nat.ne_of_lt (blk_lt (g := gb104) (o := .cells #[.slice (some ad107) l0_0.length c0_0, .int .i64 a0_1] 30 (0, 0)) (bK BK104.out)) : gb104 ≠ gb108)); have n6_ := Aside0.mk ((by rw [hg]; exact Nat.ne_of_gt (blk_lt (g := gb104) (o := .cells #[.slice (some ad107) l0_0.length c0_0, .int .i64 a0_1] 30 (0, 0)) (bK BK104.out)) : gb108 ≠ gb104)); clear BK104 HB; have BK104 := n0_; have HB := n1_; have BK108 := n2_; have GW108 := n3_; have GE108 := n4_; have NB104_108 := n5_; have NB108_104 := n6_; clear n0_ n1_ n2_ n3_ n4_ n5_ n6_; clear hb hbox hg; have hnb19 := NB108_104.out; have hnc19 := NB104_108.out; have hcz20_0 : w18.cell? ⟨gb108, 0, none⟩ = some (.int .i64 0) := (blk_cell BK108.out 0).trans rfl; have hcz20_1 : w18.cell? ⟨gb108, 1, none⟩ = some (.int .i64 0) := (blk_cell BK108.out 1).trans rfl; have hfz20_0 := blk_frozen BK108.out 0; have hfz20_1 := blk_frozen BK108.out 1; have p109 : 0 ≤ (((rd_T44 l0_0 x25_2).f0) : Int) := oD; have q109 : ((rd_T44 l0_0 x25_2).f0) < (l1.length : Int) := oD; obtain ⟨ad109, e109, hx109_0⟩ := Kd.at_int HR1.out ((rd_T44 l0_0 x25_2).f0) p109 q109; cases e109; have hn109_0 : ad109.block ≠ gb108 := Nat.ne_of_lt (Nat.lt_of_lt_of_le (by have := World.block_lt_of_cell? _ _ hx109_0; first | rwa [add_block] at this | exact this) GW108.out); have hn109_1 : ad109.block ≠ gb108 := Nat.ne_of_lt (Nat.lt_of_lt_of_le (by have := World.block_lt_of_cell? _ _ hx109_0; first | rwa [add_block] at this | exact this) GW108.out); replace hx109_0 := (HB.out.cell (World.block_lt_of_cell? w _ hx109_0)).trans hx109_0; replace hx109_0 := (cell_far (p := ⟨gb108, 0, none⟩) (by first | (rw [add_block]; exact hn109_0) | (show (Addr.add _ _).block ≠ _; rw [add_block]; exact hn109_0) | exact hn109_0) (.int .i64 ((rd_T44 l0_0 x25_2).f0))).trans hx109_0; replace hx109_0 := (cell_far (p := ⟨gb108, 1, none⟩) (by first | (rw [add_block]; exact hn109_1) | (show (Addr.add _ _).block ≠ _; rw [add_block]; exact hn109_1) | exact hn109_1) (.int .i64 ((rd_T44 l0_0 x25_2).f1))).trans hx109_0; (try have hy109_0 := fun (n_ : Nat) => (show ((((w18.drewN n_).setCell ⟨gb108, 0, none⟩ (.int .i64 ((rd_T44 l0_0 x25_2).f0))).setCell ⟨gb108, 1, none⟩ (.int .i64 ((rd_T44 l0_0 x25_2).f1)))).cell? _ = some _ from hx109_0)); clear hn109_0 hn109_1; replace p109 := eq_true p109; replace q109 := eq_true q109)); try go_wp2_with (first | ((with_reducible refine gate_dst (N := 9) rfl ?_); refine box_event ?hg (N := 9) ?hd (cs := #[.int .i64 0, .int .i64 0]) (t := 44) ?hr ?_; (case hd => rfl); (case hg => rfl); (case hr => first | (go_simp; done) | (go_simp; rfl)); intro gb108 hg w18 hbox hb; have n0_ := Aside0.mk (blk_below (g := gb104) (o := .cells #[.slice (some ad107) l0_0.length c0_0, .int .i64 a0_1] 30 (0, 0)) (bK BK104.out) hb); have n1_ := Aside0.mk (below_step (hB1 HB.out GE104.out) hb); have n2_ := Aside0.mk (hbox); have n3_ := Aside0.mk ((by rw [hg]; exact (below_size (hB1 HB.out GE104.out)) : w.heap.size ≤ gb108)); have n4_ := Aside0.mk ((by rw [hg]; exact (below_size (hB1 HB.out GE104.out)) : w.heap.size ≤ gb108)); have n5_ := Aside0.mk ((by rw [hg]; exact Nat.ne_of_lt (blk_lt (g := gb104) (o := .cells #[.slice (some ad107) l0_0.length c0_0, .int .i64 a0_1] 30 (0, 0)) (bK BK104.out)) : gb104 ≠ gb108)); have n6_ := Aside0.mk ((by rw [hg]; exact Nat.ne_of_gt (blk_lt (g := gb104) (o := .cells #[.slice (some ad107) l0_0.length c0_0, .int .i64 a0_1] 30 (0, 0)) (bK BK104.out)) : gb108 ≠ gb104)); clear BK104 HB; have BK104 := n0_; have HB := n1_; have BK108 := n2_; have GW108 := n3_; have GE108 := n4_; have NB104_108 := n5_; have NB108_104 := n6_; clear n0_ n1_ n2_ n3_ n4_ n5_ n6_; clear hb hbox hg; have hnb19 := NB108_104.out; have hnc19 := NB104_108.out; have hcz20_0 : w18.cell? ⟨gb108, 0, none⟩ = some (.int .i64 0) := (blk_cell BK108.out 0).trans rfl; have hcz20_1 : w18.cell? ⟨gb108, 1, none⟩ = some (.int .i64 0) := (blk_cell BK108.out 1).trans rfl; have hfz20_0 := blk_frozen BK108.out 0; have hfz20_1 := blk_frozen BK108.out 1; have p109 : 0 ≤ (((rd_T44 l0_0 x25_2).f0) : Int) := oD; have q109 : ((rd_T44 l0_0 x25_2).f0) < (l1.length : Int) := oD; obtain ⟨ad109, e109, hx109_0⟩ := Kd.at_int HR1.out ((rd_T44 l0_0 x25_2).f0) p109 q109; cases e109; have hn109_0 : ad109.block ≠ gb108 := Nat.ne_of_lt (Nat.lt_of_lt_of_le (by have := World.block_lt_of_cell? _ _ hx109_0; first | rwa [add_block] at this | exact this) GW108.out); have hn109_1 : ad109.block ≠ gb108 := Nat.ne_of_lt (Nat.lt_of_lt_of_le (by have := World.block_lt_of_cell? _ _ hx109_0; first | rwa [add_block] at this | exact this) GW108.out); replace hx109_0 := (HB.out.cell (World.block_lt_of_cell? w _ hx109_0)).trans hx109_0; replace hx109_0 := (cell_far (p := ⟨gb108, 0, none⟩) (by first | (rw [add_block]; exact hn109_0) | (show (Addr.add _ _).block ≠ _; rw [add_block]; exact hn109_0) | exact hn109_0) (.int .i64 ((rd_T44 l0_0 x25_2).f0))).trans hx109_0; replace hx109_0 := (cell_far (p := ⟨gb108, 1, none⟩) (by first | (rw [add_block]; exact hn109_1) | (show (Addr.add _ _).block ≠ _; rw [add_block]; exact hn109_1) | exact hn109_1) (.int .i64 ((rd_T44 l0_0 x25_2).f1))).trans hx109_0; (try have hy109_0 := fun (n_ : Nat) => (show ((((w18.drewN n_).setCell ⟨gb108, 0, none⟩ (.int .i64 ((rd_T44 l0_0 x25_2).f0))).setCell ⟨gb108, 1, none⟩ (.int .i64 ((rd_T44 l0_0 x25_2).f1)))).cell? _ = some _ from hx109_0)); clear hn109_0 hn109_1; replace p109 := eq_true p109; replace q109 := eq_true q109)))
             go_roundg k2
             case measure => have := HJ4.out; have := HK2.out; omega
             case rel => exact ⟨(wrap64 (x7_2 + (wrap64 (((rd_T44 l0_0 x25_2).f1) * (rd l1 ((rd_T44 l0_0 x25_2).f0)))))), (wrap64 (x25_2 + 1)), rS, rS, H', ⟨by have := HJ4.out; have := HK2.out; omega⟩, ⟨by (with_reducible repeat (first | refine blk_drewN ?_ _ | refine blk_drew ?_ | refine blk_alloc ?_ _)); refine blk_far ?_ NB104_108.out _; (with_reducible repeat (first | refine blk_drewN ?_ _ | refine blk_drew ?_ | refine blk_alloc ?_ _)); refine blk_far ?_ NB104_108.out _; (with_reducible repeat (first | refine blk_drewN ?_ _ | refine blk_drew ?_ | refine blk_alloc ?_ _)); exact BK104.out⟩, ⟨hB2 HB.out GE104.out GE108.out⟩⟩
            ·rw [if_neg c17] at H
             exact absurd H (by simp)
           ·rw [if_neg c16] at H
            have c16b0 : decide (((rd_T44 l0_0 x25_2).f0) < (l1.length : Int)) = false := decide_eq_false c16
            clear c16
            have H' := Aside0.mk H
            clear H
            have p107 : 0 ≤ (x25_2 : Int) := oD
            have q107 : x25_2 < (l0_0.length : Int) := oD
            obtain ⟨ad107, e107, hx107_0, hx107_1⟩ := at_T44 HR0_0.out x25_2 p107 q107
            cases e107
            replace hx107_0 := (HB.out.cell (World.block_lt_of_cell? w _ hx107_0)).trans hx107_0
            replace hx107_1 := (HB.out.cell (World.block_lt_of_cell? w _ hx107_1)).trans hx107_1
            replace p107 := eq_true p107
            replace q107 := eq_true q107
            go_wp2_with (first | ((with_reducible refine gate_dst (N := 9) rfl ?_); refine box_event ?hg (N := 9) ?hd (cs := #[.int .i64 0, .int .i64 0]) (t := 44) ?hr ?_; (case hd => rfl); (case hg => rfl); (case hr => first | (go_simp; done) | (go_simp; rfl)); intro gb108 hg w21 hbox hb; have n0_ := Aside0.mk (blk_below (g := gb104) (o := .cells #[.slice (some ad107) l0_0.length c0_0, .int .i64 a0_1] 30 (0, 0)) (bK BK104.out) hb); have n1_ := Aside0.mk (below_step (hB1 HB.out GE104.out) hb); have n2_ := Aside0.mk (hbox); have n3_ := Aside0.mk ((by rw [hg]; exact (below_size (hB1 HB.out GE104.out)) : w.heap.size ≤ gb108)); have n4_ := Aside0.mk ((by rw [hg]; exact (below_size (hB1 HB.out GE104.out)) : w.heap.size ≤ gb108)); have n5_ := Aside0.mk ((by rw [hg]; exact Nat.ne_of_lt (blk_lt (g := gb104) (o := .cells #[.slice (some ad107) l0_0.length c0_0, .int .i64 a0_1] 30 (0, 0)) (bK BK104.out)) : gb104 ≠ gb108)); have n6_ := Aside0.mk ((by rw [hg]; exact Nat.ne_of_gt (blk_lt (g := gb104) (o := .cells #[.slice (some ad107) l0_0.length c0_0, .int .i64 a0_1] 30 (0, 0)) (bK BK104.out)) : gb108 ≠ gb104)); clear BK104 HB; have BK104 := n0_; have HB := n1_; have BK108 := n2_; have GW108 := n3_; have GE108 := n4_; have NB104_108 := n5_; have NB108_104 := n6_; clear n0_ n1_ n2_ n3_ n4_ n5_ n6_; clear hb hbox hg; have hnb22 := NB108_104.out; have hnc22 := NB104_108.out; have hcz23_0 : w21.cell? ⟨gb108, 0, none⟩ = some (.int .i64 0) := (blk_cell BK108.out 0).trans rfl; have hcz23_1 : w21.cell? ⟨gb108, 1, none⟩ = some (.int .i64 0) := (blk_cell BK108.out 1).trans rfl; have hfz23_0 := blk_frozen BK108.out 0; have hfz23_1 := blk_frozen BK108.out 1))
            repeat (go_quiet (first | ((with_reducible refine gate_dst (N := 9) rfl ?_); refine box_event ?hg (N := 9) ?hd (cs := #[.int .i64 0, .int .i64 0]) (t := 44) ?hr ?_; (case hd => rfl); (case hg => rfl); (case hr => first | (go_simp; done) | (go_simp; rfl)); intro gb108 hg w21 hbox hb; have n0_ := Aside0.mk (blk_below (g := gb104) (o := .cells #[.slice (some ad107) l0_0.length c0_0, .int .i64 a0_1] 30 (0, 0)) (bK BK104.out) hb); have n1_ := Aside0.mk (below_step (hB1 HB.out GE104.out) hb); have n2_ := Aside0.mk (hbox); have n3_ := Aside0.mk ((by rw [hg]; exact (below_size (hB1 HB.out GE104.out)) : w.heap.size ≤ gb108)); have n4_ := Aside0.mk ((by rw [hg]; exact (below_size (hB1 HB.out GE104.out)) : w.heap.size ≤ gb108)); have n5_ := Aside0.mk ((by rw [hg]; exact Nat.ne_of_lt (blk_lt (g := gb104) (o := .cells #[.slice (some ad107) l0_0.length c0_0, .int .i64 a0_1] 30 (0, 0)) (bK BK104.out)) : gb104 ≠ gb108)); have n6_ := Aside0.mk ((by rw [hg]; exact Nat.ne_of_gt (blk_lt (g := gb104) (o := .cells #[.slice (some ad107) l0_0.length c0_0, .int .i64 a0_1] 30 (0, 0)) (bK BK104.out)) : gb108 ≠ gb104)); clear BK104 HB; have BK104 := n0_; have HB := n1_; have BK108 := n2_; have GW108 := n3_; have GE108 := n4_; have NB104_108 := n5_; have NB108_104 := n6_; clear n0_ n1_ n2_ n3_ n4_ n5_ n6_; clear hb hbox hg; have hnb22 := NB108_104.out; have hnc22 := NB104_108.out; have hcz23_0 : w21.cell? ⟨gb108, 0, none⟩ = some (.int .i64 0) := (blk_cell BK108.out 0).trans rfl; have hcz23_1 : w21.cell? ⟨gb108, 1, none⟩ = some (.int .i64 0) := (blk_cell BK108.out 1).trans rfl; have hfz23_0 := blk_frozen BK108.out 0; have hfz23_1 := blk_frozen BK108.out 1)); try go_wp2_with (first | ((with_reducible refine gate_dst (N := 9) rfl ?_); refine box_event ?hg (N := 9) ?hd (cs := #[.int .i64 0, .int .i64 0]) (t := 44) ?hr ?_; (case hd => rfl); (case hg => rfl); (case hr => first | (go_simp; done) | (go_simp; rfl)); intro gb108 hg w21 hbox hb; have n0_ := Aside0.mk (blk_below (g := gb104) (o := .cells #[.slice (some ad107) l0_0.length c0_0, .int .i64 a0_1] 30 (0, 0)) (bK BK104.out) hb); have n1_ := Aside0.mk (below_step (hB1 HB.out GE104.out) hb); have n2_ := Aside0.mk (hbox); have n3_ := Aside0.mk ((by rw [hg]; exact (below_size (hB1 HB.out GE104.out)) : w.heap.size ≤ gb108)); have n4_ := Aside0.mk ((by rw [hg]; exact (below_size (hB1 HB.out GE104.out)) : w.heap.size ≤ gb108)); have n5_ := Aside0.mk ((by rw [hg]; exact Nat.ne_of_lt (blk_lt (g := gb104) (o := .cells #[.slice (some ad107) l0_0.length c0_0, .int .i64 a0_1] 30 (0, 0)) (bK BK104.out)) : gb104 ≠ gb108)); have n6_ := Aside0.mk ((by rw [hg]; exact Nat.ne_of_gt (blk_lt (g := gb104) (o := .cells #[.slice (some ad107) l0_0.length c0_0, .int .i64 a0_1] 30 (0, 0)) (bK BK104.out)) : gb108 ≠ gb104)); clear BK104 HB; have BK104 := n0_; have HB := n1_; have BK108 := n2_; have GW108 := n3_; have GE108 := n4_; have NB104_108 := n5_; have NB108_104 := n6_; clear n0_ n1_ n2_ n3_ n4_ n5_ n6_; clear hb hbox hg; have hnb22 := NB108_104.out; have hnc22 := NB104_108.out; have hcz23_0 : w21.cell? ⟨gb108, 0, none⟩ = some (.int .i64 0) := (blk_cell BK108.out 0).trans rfl; have hcz23_1 : w21.cell? ⟨gb108, 1, none⟩ = some (.int .i64 0) := (blk_cell BK108.out 1).trans rfl; have hfz23_0 := blk_frozen BK108.out 0; have hfz23_1 := blk_frozen BK108.out 1)))
            go_roundg k2
            case measure => have := HJ4.out; have := HK2.out; omega
            case rel => exact ⟨(x7_2), (wrap64 (x25_2 + 1)), rS, rS, H', ⟨by have := HJ4.out; have := HK2.out; omega⟩, ⟨by (with_reducible repeat (first | refine blk_drewN ?_ _ | refine blk_drew ?_ | refine blk_alloc ?_ _)); refine blk_far ?_ NB104_108.out _; (with_reducible repeat (first | refine blk_drewN ?_ _ | refine blk_drew ?_ | refine blk_alloc ?_ _)); refine blk_far ?_ NB104_108.out _; (with_reducible repeat (first | refine blk_drewN ?_ _ | refine blk_drew ?_ | refine blk_alloc ?_ _)); exact BK104.out⟩, ⟨hB2 HB.out GE104.out GE108.out⟩⟩
          ·rw [if_neg c15] at H
           exact absurd H (by simp)
         ·rw [if_neg c14] at H
          exact absurd H (by simp)
        ·rw [if_neg c13] at H
         have c13b0 : decide (x25_2 < (l0_0.length : Int)) = false := decide_eq_false c13
         clear c13
         simp only [Option.some.injEq, Prod.mk.injEq] at H
         obtain ⟨rfl, rfl⟩ := H
         go_wp2
         repeat (go_quiet (fail); try go_wp2)
         go_ret2
         exact ⟨eW, hB1 HB.out GE104.out⟩
  ·rw [if_neg c4] at H
   have c4b0 : (t105 == 0) = false := beq_eq_false_iff_ne.mpr c4
   have c4b1 : (t105 != 0) = true := bne_iff_ne.mpr c4
   simp only [Option.some.injEq, Prod.mk.injEq] at H
   obtain ⟨rfl, rfl⟩ := H
   go_enter Try.func16, Try.ntmps16
   go_wp2_with (first | ((with_reducible refine gate_dst (N := 2) rfl ?_); refine box_event ?hg (N := 2) ?hd (cs := #[.slice A0_0 l0_0.length c0_0, .int .i64 a0_1]) (t := 30) ?hr ?_; (case hd => rfl); (case hg => rfl); (case hr => first | (go_simp; done) | (go_simp; rfl)); intro gb104 hg w24 hbox hb; have n0_ := Aside0.mk (below_step (hB0 HB.out) hb); have n1_ := Aside0.mk (hbox); have n2_ := Aside0.mk ((by rw [hg]; exact (below_size (hB0 HB.out)) : w.heap.size ≤ gb104)); have n3_ := Aside0.mk ((by rw [hg]; exact (below_size (hB0 HB.out)) : w.heap.size ≤ gb104)); clear HB; have HB := n0_; have BK104 := n1_; have GW104 := n2_; have GE104 := n3_; clear n0_ n1_ n2_ n3_; clear hb hbox hg; have hcz25_0 : w24.cell? ⟨gb104, 0, none⟩ = some (.slice A0_0 l0_0.length c0_0) := (blk_cell BK104.out 0).trans rfl; have hcz25_1 : w24.cell? ⟨gb104, 1, none⟩ = some (.int .i64 a0_1) := (blk_cell BK104.out 1).trans rfl; have hfz25_0 := blk_frozen BK104.out 0; have hfz25_1 := blk_frozen BK104.out 1) | (go_at_call 18; (with_reducible refine (fact_Check.calls k _ _ l0_0 a0_1 t105 _ ?side1 ?side2 A3.out).mono ?_); (case side1 => repeat (first | exact (Kd.C_below HR0_0.out HB.out) | (with_reducible refine Kd.C_alloc ?_ _) | (with_reducible refine Kd.C_drewN ?_ _) | (with_reducible refine Kd.C_drew ?_))); (case side2 => exact HC0_0.out); rintro e w26 ⟨rfl, hb⟩; have n0_ := Aside0.mk (blk_below (g := gb104) (o := .cells #[.slice A0_0 l0_0.length c0_0, .int .i64 a0_1] 30 (0, 0)) (bK BK104.out) hb); have n1_ := Aside0.mk (below_step (hB1 HB.out GE104.out) hb); clear BK104 HB; have BK104 := n0_; have HB := n1_; clear n0_ n1_; (try clear hb)))
   repeat (go_quiet (first | ((with_reducible refine gate_dst (N := 2) rfl ?_); refine box_event ?hg (N := 2) ?hd (cs := #[.slice A0_0 l0_0.length c0_0, .int .i64 a0_1]) (t := 30) ?hr ?_; (case hd => rfl); (case hg => rfl); (case hr => first | (go_simp; done) | (go_simp; rfl)); intro gb104 hg w24 hbox hb; have n0_ := Aside0.mk (below_step (hB0 HB.out) hb); have n1_ := Aside0.mk (hbox); have n2_ := Aside0.mk ((by rw [hg]; exact (below_size (hB0 HB.out)) : w.heap.size ≤ gb104)); have n3_ := Aside0.mk ((by rw [hg]; exact (below_size (hB0 HB.out)) : w.heap.size ≤ gb104)); clear HB; have HB := n0_; have BK104 := n1_; have GW104 := n2_; have GE104 := n3_; clear n0_ n1_ n2_ n3_; clear hb hbox hg; have hcz25_0 : w24.cell? ⟨gb104, 0, none⟩ = some (.slice A0_0 l0_0.length c0_0) := (blk_cell BK104.out 0).trans rfl; have hcz25_1 : w24.cell? ⟨gb104, 1, none⟩ = some (.int .i64 a0_1) := (blk_cell BK104.out 1).trans rfl; have hfz25_0 := blk_frozen BK104.out 0; have hfz25_1 := blk_frozen BK104.out 1) | (go_at_call 18; (with_reducible refine (fact_Check.calls k _ _ l0_0 a0_1 t105 _ ?side1 ?side2 A3.out).mono ?_); (case side1 => repeat (first | exact (Kd.C_below HR0_0.out HB.out) | (with_reducible refine Kd.C_alloc ?_ _) | (with_reducible refine Kd.C_drewN ?_ _) | (with_reducible refine Kd.C_drew ?_))); (case side2 => exact HC0_0.out); rintro e w26 ⟨rfl, hb⟩; have n0_ := Aside0.mk (blk_below (g := gb104) (o := .cells #[.slice A0_0 l0_0.length c0_0, .int .i64 a0_1] 30 (0, 0)) (bK BK104.out) hb); have n1_ := Aside0.mk (below_step (hB1 HB.out GE104.out) hb); clear BK104 HB; have BK104 := n0_; have HB := n1_; clear n0_ n1_; (try clear hb))); try go_wp2_with (first | ((with_reducible refine gate_dst (N := 2) rfl ?_); refine box_event ?hg (N := 2) ?hd (cs := #[.slice A0_0 l0_0.length c0_0, .int .i64 a0_1]) (t := 30) ?hr ?_; (case hd => rfl); (case hg => rfl); (case hr => first | (go_simp; done) | (go_simp; rfl)); intro gb104 hg w24 hbox hb; have n0_ := Aside0.mk (below_step (hB0 HB.out) hb); have n1_ := Aside0.mk (hbox); have n2_ := Aside0.mk ((by rw [hg]; exact (below_size (hB0 HB.out)) : w.heap.size ≤ gb104)); have n3_ := Aside0.mk ((by rw [hg]; exact (below_size (hB0 HB.out)) : w.heap.size ≤ gb104)); clear HB; have HB := n0_; have BK104 := n1_; have GW104 := n2_; have GE104 := n3_; clear n0_ n1_ n2_ n3_; clear hb hbox hg; have hcz25_0 : w24.cell? ⟨gb104, 0, none⟩ = some (.slice A0_0 l0_0.length c0_0) := (blk_cell BK104.out 0).trans rfl; have hcz25_1 : w24.cell? ⟨gb104, 1, none⟩ = some (.int .i64 a0_1) := (blk_cell BK104.out 1).trans rfl; have hfz25_0 := blk_frozen BK104.out 0; have hfz25_1 := blk_frozen BK104.out 1) | (go_at_call 18; (with_reducible refine (fact_Check.calls k _ _ l0_0 a0_1 t105 _ ?side1 ?side2 A3.out).mono ?_); (case side1 => repeat (first | exact (Kd.C_below HR0_0.out HB.out) | (with_reducible refine Kd.C_alloc ?_ _) | (with_reducible refine Kd.C_drewN ?_ _) | (with_reducible refine Kd.C_drew ?_))); (case side2 => exact HC0_0.out); rintro e w26 ⟨rfl, hb⟩; have n0_ := Aside0.mk (blk_below (g := gb104) (o := .cells #[.slice A0_0 l0_0.length c0_0, .int .i64 a0_1] 30 (0, 0)) (bK BK104.out) hb); have n1_ := Aside0.mk (below_step (hB1 HB.out GE104.out) hb); clear BK104 HB; have BK104 := n0_; have HB := n1_; clear n0_ n1_; (try clear hb))))
   go_ret2
   exact ⟨eW, hB1 HB.out GE104.out⟩
def fact_Holds.f (k : Nat) (l0_0 : List (S44)) (a0_1 : Int) (l1 : List Int) : Option (Bool) := (fact_Sum.f k l0_0 a0_1 l1).bind fun bt102 => (if bt102.2 = 0 then (some (decide (bt102.1 ≤ a0_1))) else (some false))
theorem fact_Holds.mono : ∀ a0 a1 a2 k, LeO (fact_Holds.f k a0 a1 a2) (fact_Holds.f (k + 1) a0 a1 a2) := by
  intro a0 a1 a2 k
  unfold fact_Holds.f
  repeat' first
    | (with_reducible exact fact_Sum.mono _ _ _ _)
    | (with_reducible exact LeO.refl _)
    | (with_reducible exact LeO.none _)
    | (with_reducible refine LeO.ite ?_ ?_)
    | (with_reducible refine LeO.bind ?_ (fun _ => ?_))
    | exact fact_Sum.mono _ _ _ _
    | exact LeO.none _
    | refine LeO.ite ?_ ?_
    | refine LeO.bind ?_ (fun _ => ?_)
set_option maxHeartbeats 8000000 in
set_option maxRecDepth 100000 in
theorem fact_Holds.calls (k : Nat) (A0_0 : Option Addr) (c0_0 : Nat) (l0_0 : List (S44)) (a0_1 : Int) (A1 : Option Addr) (c1 : Nat) (l1 : List Int) (r : Bool) (w : World) (hr0_0 : Kd.C k44 w A0_0 l0_0.length l0_0) (hc0_0 : l0_0.length ≤ c0_0) (hr1 : Kd.C (Kd.int .i64) w A1 l1.length l1) (hc1 : l1.length ≤ c1) (h : fact_Holds.f k l0_0 a0_1 l1 = some r) :
   Calls Try.prog 17 #[.agg #[.slice A0_0 l0_0.length c0_0, .int .i64 a0_1], .slice A1 l1.length c1] w fun e w' => e = .returned (.bool r) ∧ Below w.heap.size w w' := by
  have hu30 := Try.underlying30
  have HR0_0 := Aside0.mk hr0_0
  have HC0_0 := Aside0.mk hc0_0
  clear hr0_0 hc0_0
  have HR1 := Aside0.mk hr1
  have HC1 := Aside0.mk hc1
  clear hr1 hc1
  have HB := Aside0.mk (Below.refl w.heap.size w)
  have H : ((fact_Sum.f k l0_0 a0_1 l1).bind fun bt102 => (if bt102.2 = 0 then (some (decide (bt102.1 ≤ a0_1))) else (some false))) = some r := h
  clear h
  replace H := Option.bind_eq_some_iff.mp H
  obtain ⟨⟨t102, t103⟩, A30, H⟩ := H
  replace H : (if t103 = 0 then (some (decide (t102 ≤ a0_1))) else (some false)) = some r := H
  have A3 := Aside0.mk A30
  clear A30
  by_cases c4 : t103 = 0
  ·rw [if_pos c4] at H
   have c4b0 : (t103 == 0) = true := beq_iff_eq.mpr c4
   have c4b1 : (t103 != 0) = false := bne_eq_false_iff_eq.mpr c4
   clear c4
   obtain rfl := Option.some.inj H
   go_enter Try.func17, Try.ntmps17
   go_wp2_with (first | ((with_reducible refine gate_dst (N := 2) rfl ?_); refine box_event ?hg (N := 2) ?hd (cs := #[.slice A0_0 l0_0.length c0_0, .int .i64 a0_1]) (t := 30) ?hr ?_; (case hd => rfl); (case hg => rfl); (case hr => first | (go_simp; done) | (go_simp; rfl)); intro gb101 hg w5 hbox hb; have n0_ := Aside0.mk (below_step (hB0 HB.out) hb); have n1_ := Aside0.mk (hbox); have n2_ := Aside0.mk ((by rw [hg]; exact (below_size (hB0 HB.out)) : w.heap.size ≤ gb101)); have n3_ := Aside0.mk ((by rw [hg]; exact (below_size (hB0 HB.out)) : w.heap.size ≤ gb101)); clear HB; have HB := n0_; have BK101 := n1_; have GW101 := n2_; have GE101 := n3_; clear n0_ n1_ n2_ n3_; clear hb hbox hg; have hcz6_0 : w5.cell? ⟨gb101, 0, none⟩ = some (.slice A0_0 l0_0.length c0_0) := (blk_cell BK101.out 0).trans rfl; have hcz6_1 : w5.cell? ⟨gb101, 1, none⟩ = some (.int .i64 a0_1) := (blk_cell BK101.out 1).trans rfl; have hfz6_0 := blk_frozen BK101.out 0; have hfz6_1 := blk_frozen BK101.out 1) | ((with_reducible refine gate_callee (f := 16) rfl ?_); refine goesL_ (some 10) rfl rfl Try.func16 (by kernel_rfl) rfl #[.agg #[.slice A0_0 l0_0.length c0_0, .int .i64 a0_1], .slice A1 l1.length c1] rfl aM ?_; (with_reducible refine (fact_Sum.calls k _ _ l0_0 a0_1 _ _ l1 t102 t103 _ ?side1 ?side2 ?side3 ?side4 A3.out).mono ?_); (case side1 => repeat (first | exact (Kd.C_below HR0_0.out HB.out) | (with_reducible refine Kd.C_alloc ?_ _) | (with_reducible refine Kd.C_drewN ?_ _) | (with_reducible refine Kd.C_drew ?_))); (case side2 => exact HC0_0.out); (case side3 => repeat (first | exact (Kd.C_below HR1.out HB.out) | (with_reducible refine Kd.C_alloc ?_ _) | (with_reducible refine Kd.C_drewN ?_ _) | (with_reducible refine Kd.C_drew ?_))); (case side4 => exact HC1.out); rintro e w7 ⟨rfl, hb⟩; refine ⟨_, rfl, ?_⟩; have n0_ := Aside0.mk (blk_below (g := gb101) (o := .cells #[.slice A0_0 l0_0.length c0_0, .int .i64 a0_1] 30 (0, 0)) (bK BK101.out) hb); have n1_ := Aside0.mk (below_step (hB1 HB.out GE101.out) hb); clear BK101 HB; have BK101 := n0_; have HB := n1_; clear n0_ n1_; (try clear hb); have hcz8_0 : w7.cell? ⟨gb101, 0, none⟩ = some (.slice A0_0 l0_0.length c0_0) := (blk_cell BK101.out 0).trans rfl; have hcz8_1 : w7.cell? ⟨gb101, 1, none⟩ = some (.int .i64 a0_1) := (blk_cell BK101.out 1).trans rfl; have hfz8_0 := blk_frozen BK101.out 0; have hfz8_1 := blk_frozen BK101.out 1))
   go_ret
   exact ⟨eW, hB1 HB.out GE101.out⟩
  ·rw [if_neg c4] at H
   have c4b0 : (t103 == 0) = false := beq_eq_false_iff_ne.mpr c4
   have c4b1 : (t103 != 0) = true := bne_iff_ne.mpr c4
   obtain rfl := Option.some.inj H
   go_enter Try.func17, Try.ntmps17
   go_wp2_with (first | ((with_reducible refine gate_dst (N := 2) rfl ?_); refine box_event ?hg (N := 2) ?hd (cs := #[.slice A0_0 l0_0.length c0_0, .int .i64 a0_1]) (t := 30) ?hr ?_; (case hd => rfl); (case hg => rfl); (case hr => first | (go_simp; done) | (go_simp; rfl)); intro gb101 hg w9 hbox hb; have n0_ := Aside0.mk (below_step (hB0 HB.out) hb); have n1_ := Aside0.mk (hbox); have n2_ := Aside0.mk ((by rw [hg]; exact (below_size (hB0 HB.out)) : w.heap.size ≤ gb101)); have n3_ := Aside0.mk ((by rw [hg]; exact (below_size (hB0 HB.out)) : w.heap.size ≤ gb101)); clear HB; have HB := n0_; have BK101 := n1_; have GW101 := n2_; have GE101 := n3_; clear n0_ n1_ n2_ n3_; clear hb hbox hg; have hcz10_0 : w9.cell? ⟨gb101, 0, none⟩ = some (.slice A0_0 l0_0.length c0_0) := (blk_cell BK101.out 0).trans rfl; have hcz10_1 : w9.cell? ⟨gb101, 1, none⟩ = some (.int .i64 a0_1) := (blk_cell BK101.out 1).trans rfl; have hfz10_0 := blk_frozen BK101.out 0; have hfz10_1 := blk_frozen BK101.out 1) | ((with_reducible refine gate_callee (f := 16) rfl ?_); refine goesL_ (some 10) rfl rfl Try.func16 (by kernel_rfl) rfl #[.agg #[.slice A0_0 l0_0.length c0_0, .int .i64 a0_1], .slice A1 l1.length c1] rfl aM ?_; (with_reducible refine (fact_Sum.calls k _ _ l0_0 a0_1 _ _ l1 t102 t103 _ ?side1 ?side2 ?side3 ?side4 A3.out).mono ?_); (case side1 => repeat (first | exact (Kd.C_below HR0_0.out HB.out) | (with_reducible refine Kd.C_alloc ?_ _) | (with_reducible refine Kd.C_drewN ?_ _) | (with_reducible refine Kd.C_drew ?_))); (case side2 => exact HC0_0.out); (case side3 => repeat (first | exact (Kd.C_below HR1.out HB.out) | (with_reducible refine Kd.C_alloc ?_ _) | (with_reducible refine Kd.C_drewN ?_ _) | (with_reducible refine Kd.C_drew ?_))); (case side4 => exact HC1.out); rintro e w11 ⟨rfl, hb⟩; refine ⟨_, rfl, ?_⟩; have n0_ := Aside0.mk (blk_below (g := gb101) (o := .cells #[.slice A0_0 l0_0.length c0_0, .int .i64 a0_1] 30 (0, 0)) (bK BK101.out) hb); have n1_ := Aside0.mk (below_step (hB1 HB.out GE101.out) hb); clear BK101 HB; have BK101 := n0_; have HB := n1_; clear n0_ n1_; (try clear hb)))
   go_ret
   exact ⟨eW, hB1 HB.out GE101.out⟩
def fact_mapped_1_1.f (a0 : Int) : Option (Bool) := (fact_block.f a0).bind fun t101 => (some (!t101))
set_option maxHeartbeats 8000000 in
set_option maxRecDepth 100000 in
theorem fact_mapped_1_1.calls (a0 : Int) (r : Bool) (w : World) (h : fact_mapped_1_1.f a0 = some r) :
   Calls Try.prog 47 #[.int .i64 a0] w fun e w' => e = .returned (.bool r) ∧ Drawn0 w w' := by
  have H : ((fact_block.f a0).bind fun t101 => (some (!t101))) = some r := h
  clear h
  replace H := Option.bind_eq_some_iff.mp H
  obtain ⟨t101, A20, H⟩ := H
  replace H : (some (!t101)) = some r := H
  have A2 := Aside0.mk A20
  clear A20
  obtain rfl := Option.some.inj H
  go_enter Try.func47, Try.ntmps47
  go_wp2_with (first | ((with_reducible refine gate_callee (f := 30) rfl ?_); refine goesL_ (some 4) rfl rfl Try.func30 (by kernel_rfl) rfl #[.int .i64 a0] rfl aM ?_; (with_reducible refine (fact_block.calls a0 t101 _ A2.out).mono ?_); rintro e w' ⟨rfl, ⟨nd, rfl⟩⟩; refine ⟨_, rfl, ?_⟩))
  go_ret
  exact ⟨by first | rfl | (simp; done) | (simp [*]; done), by repeat (first | exact Drawn0.refl _ | apply Drawn0.step)⟩
def slices_IndexFunc_int_int_48_at47.l0 : Nat → List Int → Int → Int → Option (Int)
  | 0, _, _, _ => none
  | k + 1, x0, x7, x8 => if x8 < x7 then (if 0 ≤ x8 then (if x8 < (x0.length : Int) then ((fact_mapped_1_1.f (rd x0 x8)).bind fun t103 => (if t103 = true then (some x8) else (slices_IndexFunc_int_int_48_at47.l0 k x0 x7 (wrap64 (x8 + 1))))) else (none)) else (none)) else (some (-1))
def slices_IndexFunc_int_int_48_at47.f (k : Nat) (l0 : List Int)  : Option (Int) := slices_IndexFunc_int_int_48_at47.l0 k l0 (l0.length : Int) 0
theorem slices_IndexFunc_int_int_48_at47.mono_l : ∀ k, (∀ y0 y1 y2, LeO (slices_IndexFunc_int_int_48_at47.l0 k y0 y1 y2) (slices_IndexFunc_int_int_48_at47.l0 (k + 1) y0 y1 y2))
  | 0 => fun _ _ _ r h => by simp [slices_IndexFunc_int_int_48_at47.l0] at h
  | k + 1 => by
   have ih0 := slices_IndexFunc_int_int_48_at47.mono_l k
   ·intro y0 y1 y2
    unfold slices_IndexFunc_int_int_48_at47.l0
    repeat' first
    | (with_reducible exact ih0 _ _ _)
    | (with_reducible exact LeO.refl _)
    | (with_reducible exact LeO.none _)
    | (with_reducible refine LeO.ite ?_ ?_)
    | (with_reducible refine LeO.bind ?_ (fun _ => ?_))
    | exact ih0 _ _ _
    | exact LeO.none _
    | refine LeO.ite ?_ ?_
    | refine LeO.bind ?_ (fun _ => ?_)
theorem slices_IndexFunc_int_int_48_at47.mono : ∀ a0 k, LeO (slices_IndexFunc_int_int_48_at47.f k a0) (slices_IndexFunc_int_int_48_at47.f (k + 1) a0) := by
  intro a0 k
  have ih0 := slices_IndexFunc_int_int_48_at47.mono_l k
  unfold slices_IndexFunc_int_int_48_at47.f
  repeat' first
    | (with_reducible exact ih0 _ _ _)
    | (with_reducible exact LeO.refl _)
    | (with_reducible exact LeO.none _)
    | (with_reducible refine LeO.ite ?_ ?_)
    | (with_reducible refine LeO.bind ?_ (fun _ => ?_))
    | exact ih0 _ _ _
    | exact LeO.none _
    | refine LeO.ite ?_ ?_
    | refine LeO.bind ?_ (fun _ => ?_)
set_option maxHeartbeats 8000000 in
set_option maxRecDepth 100000 in
theorem slices_IndexFunc_int_int_48_at47.calls (k : Nat) (A0 : Option Addr) (c0 : Nat) (l0 : List Int)  (r : Int) (w : World) (hr0 : Kd.C (Kd.int .i64) w A0 l0.length l0) (hc0 : l0.length ≤ c0) (h : slices_IndexFunc_int_int_48_at47.f k l0 = some r) :
   Calls Try.prog 48 #[.slice A0 l0.length c0, .func (.func 47) #[] #[]] w fun e w' => e = .returned (.int .i64 r) ∧ Drawn0 w w' := by
  have HR0 := Aside0.mk hr0
  have HC0 := Aside0.mk hc0
  clear hr0 hc0
  have H : (slices_IndexFunc_int_int_48_at47.l0 k l0 (l0.length : Int) 0) = some r := h
  clear h
  have H' := Aside0.mk H
  clear H
  go_enter Try.func48, Try.ntmps48
  go_wp2
  go_loopg [8] k (fun kq v8 w' => ∃ (x8_1 : Int), v8 = .int .i64 x8_1 ∧ Aside0 (slices_IndexFunc_int_int_48_at47.l0 kq l0 (l0.length : Int) x8_1 = some r) ∧ Aside0 (kq ≤ k) ∧ Drawn0 w w')
  case atStart => exact ⟨(0), rS, H', ⟨Nat.le_refl _⟩, by repeat (first | exact Drawn0.refl _ | apply Drawn0.step)⟩
  case round =>
   clear H'
   obtain ⟨x8_1, rfl, HA, HK1, ⟨m1, rfl⟩⟩ := hrel
   cases gk with
   | zero => exact absurd HA.out (by simp [slices_IndexFunc_int_int_48_at47.l0])
   | succ k1 =>
    have H := HA.out
    clear HA
    simp only [slices_IndexFunc_int_int_48_at47.l0] at H
    by_cases c3 : x8_1 < (l0.length : Int)
    ·rw [if_pos c3] at H
     have c3b0 : decide (x8_1 < (l0.length : Int)) = true := decide_eq_true c3
     clear c3
     by_cases c4 : 0 ≤ x8_1
     ·rw [if_pos c4] at H
      have c4b0 : decide (0 ≤ x8_1) = true := decide_eq_true c4
      clear c4
      by_cases c5 : x8_1 < (l0.length : Int)
      ·rw [if_pos c5] at H
       have c5b0 : decide (x8_1 < (l0.length : Int)) = true := decide_eq_true c5
       clear c5
       replace H := Option.bind_eq_some_iff.mp H
       obtain ⟨t103, A60, H⟩ := H
       replace H : (if t103 = true then (some x8_1) else (slices_IndexFunc_int_int_48_at47.l0 k1 l0 (l0.length : Int) (wrap64 (x8_1 + 1)))) = some r := H
       have A6 := Aside0.mk A60
       clear A60
       by_cases c7 : t103 = true
       ·subst c7
        have H1 : (some x8_1) = some r := by rw [if_pos rfl] at H; exact H
        clear H
        have H := H1
        clear H1
        obtain rfl := Option.some.inj H
        have p102 : 0 ≤ (x8_1 : Int) := oD
        have q102 : x8_1 < (l0.length : Int) := oD
        obtain ⟨ad102, e102, hx102_0⟩ := Kd.at_int HR0.out x8_1 p102 q102
        cases e102
        replace p102 := eq_true p102
        replace q102 := eq_true q102
        go_wp2_with (first | (go_at_call 47; (with_reducible refine (fact_mapped_1_1.calls (rd l0 x8_1) true _ A6.out).mono ?_); rintro e w' ⟨rfl, ⟨nd, rfl⟩⟩))
        go_ret
        exact ⟨by first | rfl | (simp; done) | (simp [*]; done), by repeat (first | exact Drawn0.refl _ | apply Drawn0.step)⟩
       ·replace c7 := Bool.eq_false_iff.mpr c7
        subst c7
        have H1 : (slices_IndexFunc_int_int_48_at47.l0 k1 l0 (l0.length : Int) (wrap64 (x8_1 + 1))) = some r := by rw [if_neg (show ¬ (false = true) by decide)] at H; exact H
        clear H
        have H := H1
        clear H1
        have H' := Aside0.mk H
        clear H
        have p102 : 0 ≤ (x8_1 : Int) := oD
        have q102 : x8_1 < (l0.length : Int) := oD
        obtain ⟨ad102, e102, hx102_0⟩ := Kd.at_int HR0.out x8_1 p102 q102
        cases e102
        replace p102 := eq_true p102
        replace q102 := eq_true q102
        go_wp2_with (first | (go_at_call 47; (with_reducible refine (fact_mapped_1_1.calls (rd l0 x8_1) false _ A6.out).mono ?_); rintro e w' ⟨rfl, ⟨nd, rfl⟩⟩))
        go_roundg k1
        case measure => have := HK1.out; omega
        case rel => exact ⟨(wrap64 (x8_1 + 1)), rS, H', ⟨by have := HK1.out; omega⟩, by repeat (first | exact Drawn0.refl _ | apply Drawn0.step)⟩
      ·rw [if_neg c5] at H
       exact absurd H (by simp)
     ·rw [if_neg c4] at H
      exact absurd H (by simp)
    ·rw [if_neg c3] at H
     have c3b0 : decide (x8_1 < (l0.length : Int)) = false := decide_eq_false c3
     clear c3
     obtain rfl := Option.some.inj H
     go_wp2
     go_ret
     exact ⟨by first | rfl | (simp; done) | (simp [*]; done), by repeat (first | exact Drawn0.refl _ | apply Drawn0.step)⟩
def slices_ContainsFunc_int_int_28_at47.f (k : Nat) (l0 : List Int)  : Option (Bool) := (slices_IndexFunc_int_int_48_at47.f k l0).bind fun t104 => (some (decide (t104 ≥ 0)))
theorem slices_ContainsFunc_int_int_28_at47.mono : ∀ a0 k, LeO (slices_ContainsFunc_int_int_28_at47.f k a0) (slices_ContainsFunc_int_int_28_at47.f (k + 1) a0) := by
  intro a0 k
  unfold slices_ContainsFunc_int_int_28_at47.f
  repeat' first
    | (with_reducible exact slices_IndexFunc_int_int_48_at47.mono _ _)
    | (with_reducible exact LeO.refl _)
    | (with_reducible exact LeO.none _)
    | (with_reducible refine LeO.ite ?_ ?_)
    | (with_reducible refine LeO.bind ?_ (fun _ => ?_))
    | exact slices_IndexFunc_int_int_48_at47.mono _ _
    | exact LeO.none _
    | refine LeO.ite ?_ ?_
    | refine LeO.bind ?_ (fun _ => ?_)
set_option maxHeartbeats 8000000 in
set_option maxRecDepth 100000 in
theorem slices_ContainsFunc_int_int_28_at47.calls (k : Nat) (A0 : Option Addr) (c0 : Nat) (l0 : List Int)  (r : Bool) (w : World) (hr0 : Kd.C (Kd.int .i64) w A0 l0.length l0) (hc0 : l0.length ≤ c0) (h : slices_ContainsFunc_int_int_28_at47.f k l0 = some r) :
   Calls Try.prog 28 #[.slice A0 l0.length c0, .func (.func 47) #[] #[]] w fun e w' => e = .returned (.bool r) ∧ Drawn0 w w' := by
  have HR0 := Aside0.mk hr0
  have HC0 := Aside0.mk hc0
  clear hr0 hc0
  have H : ((slices_IndexFunc_int_int_48_at47.f k l0).bind fun t104 => (some (decide (t104 ≥ 0)))) = some r := h
  clear h
  replace H := Option.bind_eq_some_iff.mp H
  obtain ⟨t104, A30, H⟩ := H
  replace H : (some (decide (t104 ≥ 0))) = some r := H
  have A3 := Aside0.mk A30
  clear A30
  obtain rfl := Option.some.inj H
  go_enter Try.func28, Try.ntmps28
  go_wp2_with (first | ((with_reducible refine gate_callee (f := 48) rfl ?_); refine goesL_ (some 7) rfl rfl Try.func48 (by kernel_rfl) rfl #[.slice A0 l0.length c0, .func (.func 47) #[] #[]] rfl aM ?_; (with_reducible refine (slices_IndexFunc_int_int_48_at47.calls k _ _ l0  t104 _ ?side1 ?side2 A3.out).mono ?_); (case side1 => exact cK HR0.out); (case side2 => exact HC0.out); rintro e w' ⟨rfl, ⟨nd, rfl⟩⟩; refine ⟨_, rfl, ?_⟩))
  go_ret
  exact ⟨by first | rfl | (simp; done) | (simp [*]; done), by repeat (first | exact Drawn0.refl _ | apply Drawn0.step)⟩
def fact_mapped_1.f (k : Nat) (l0 : List Int) : Option (Bool) := if (l0.length : Int) > 256 then (some true) else ((slices_ContainsFunc_int_int_28_at47.f k l0).bind fun t105 => (some t105))
theorem fact_mapped_1.mono : ∀ a0 k, LeO (fact_mapped_1.f k a0) (fact_mapped_1.f (k + 1) a0) := by
  intro a0 k
  unfold fact_mapped_1.f
  repeat' first
    | (with_reducible exact slices_ContainsFunc_int_int_28_at47.mono _ _)
    | (with_reducible exact LeO.refl _)
    | (with_reducible exact LeO.none _)
    | (with_reducible refine LeO.ite ?_ ?_)
    | (with_reducible refine LeO.bind ?_ (fun _ => ?_))
    | exact slices_ContainsFunc_int_int_28_at47.mono _ _
    | exact LeO.none _
    | refine LeO.ite ?_ ?_
    | refine LeO.bind ?_ (fun _ => ?_)
set_option maxHeartbeats 8000000 in
set_option maxRecDepth 100000 in
theorem fact_mapped_1.calls (k : Nat) (A0 : Option Addr) (c0 : Nat) (l0 : List Int) (r : Bool) (w : World) (hr0 : Kd.C (Kd.int .i64) w A0 l0.length l0) (hc0 : l0.length ≤ c0) (h : fact_mapped_1.f k l0 = some r) :
   Calls Try.prog 46 #[.slice A0 l0.length c0] w fun e w' => e = .returned (.bool r) ∧ Drawn0 w w' := by
  have HR0 := Aside0.mk hr0
  have HC0 := Aside0.mk hc0
  clear hr0 hc0
  have H : (if (l0.length : Int) > 256 then (some true) else ((slices_ContainsFunc_int_int_28_at47.f k l0).bind fun t105 => (some t105))) = some r := h
  clear h
  by_cases c2 : (l0.length : Int) > 256
  ·rw [if_pos c2] at H
   have c2b0 : decide (256 < (l0.length : Int)) = true := decide_eq_true c2
   have c2b1 : decide (256 < l0.length) = true := decide_eq_true (by omega)
   clear c2
   obtain rfl := Option.some.inj H
   go_enter Try.func46, Try.ntmps46
   go_wp2
   go_ret
   exact ⟨by first | rfl | (simp; done) | (simp [*]; done), by repeat (first | exact Drawn0.refl _ | apply Drawn0.step)⟩
  ·rw [if_neg c2] at H
   have c2b0 : decide (256 < (l0.length : Int)) = false := decide_eq_false c2
   have c2b1 : decide (256 < l0.length) = false := decide_eq_false (by omega)
   clear c2
   replace H := Option.bind_eq_some_iff.mp H
   obtain ⟨t105, A30, H⟩ := H
   replace H : (some t105) = some r := H
   have A3 := Aside0.mk A30
   clear A30
   obtain rfl := Option.some.inj H
   go_enter Try.func46, Try.ntmps46
   go_wp2_with (first | (go_at_call 28; (with_reducible refine (slices_ContainsFunc_int_int_28_at47.calls k _ _ l0  t105 _ ?side1 ?side2 A3.out).mono ?_); (case side1 => exact cK HR0.out); (case side2 => exact HC0.out); rintro e w' ⟨rfl, ⟨nd, rfl⟩⟩))
   go_ret
   exact ⟨by first | rfl | (simp; done) | (simp [*]; done), by repeat (first | exact Drawn0.refl _ | apply Drawn0.step)⟩
def slices_IndexFunc_int_int_57_at46.l0 : Nat → List (List Int) → Int → Int → Option (Int)
  | 0, _, _, _ => none
  | k + 1, x0, x7, x8 => if x8 < x7 then (if 0 ≤ x8 then (if x8 < (x0.length : Int) then ((fact_mapped_1.f k (rd_L2 x0 x8)).bind fun t107 => (if t107 = true then (some x8) else (slices_IndexFunc_int_int_57_at46.l0 k x0 x7 (wrap64 (x8 + 1))))) else (none)) else (none)) else (some (-1))
def slices_IndexFunc_int_int_57_at46.f (k : Nat) (l0 : List (List Int))  : Option (Int) := slices_IndexFunc_int_int_57_at46.l0 k l0 (l0.length : Int) 0
theorem slices_IndexFunc_int_int_57_at46.mono_l : ∀ k, (∀ y0 y1 y2, LeO (slices_IndexFunc_int_int_57_at46.l0 k y0 y1 y2) (slices_IndexFunc_int_int_57_at46.l0 (k + 1) y0 y1 y2))
  | 0 => fun _ _ _ r h => by simp [slices_IndexFunc_int_int_57_at46.l0] at h
  | k + 1 => by
   have ih0 := slices_IndexFunc_int_int_57_at46.mono_l k
   ·intro y0 y1 y2
    unfold slices_IndexFunc_int_int_57_at46.l0
    repeat' first
    | (with_reducible exact ih0 _ _ _)
    | (with_reducible exact fact_mapped_1.mono _ _)
    | (with_reducible exact LeO.refl _)
    | (with_reducible exact LeO.none _)
    | (with_reducible refine LeO.ite ?_ ?_)
    | (with_reducible refine LeO.bind ?_ (fun _ => ?_))
    | exact ih0 _ _ _
    | exact fact_mapped_1.mono _ _
    | exact LeO.none _
    | refine LeO.ite ?_ ?_
    | refine LeO.bind ?_ (fun _ => ?_)
theorem slices_IndexFunc_int_int_57_at46.mono : ∀ a0 k, LeO (slices_IndexFunc_int_int_57_at46.f k a0) (slices_IndexFunc_int_int_57_at46.f (k + 1) a0) := by
  intro a0 k
  have ih0 := slices_IndexFunc_int_int_57_at46.mono_l k
  unfold slices_IndexFunc_int_int_57_at46.f
  repeat' first
    | (with_reducible exact ih0 _ _ _)
    | (with_reducible exact fact_mapped_1.mono _ _)
    | (with_reducible exact LeO.refl _)
    | (with_reducible exact LeO.none _)
    | (with_reducible refine LeO.ite ?_ ?_)
    | (with_reducible refine LeO.bind ?_ (fun _ => ?_))
    | exact ih0 _ _ _
    | exact fact_mapped_1.mono _ _
    | exact LeO.none _
    | refine LeO.ite ?_ ?_
    | refine LeO.bind ?_ (fun _ => ?_)
set_option maxHeartbeats 8000000 in
set_option maxRecDepth 100000 in
theorem slices_IndexFunc_int_int_57_at46.calls (k : Nat) (A0 : Option Addr) (c0 : Nat) (l0 : List (List Int))  (r : Int) (w : World) (hr0 : Kd.C (Kd.slice 3 (Kd.int .i64)) w A0 l0.length l0) (hc0 : l0.length ≤ c0) (h : slices_IndexFunc_int_int_57_at46.f k l0 = some r) :
   Calls Try.prog 57 #[.slice A0 l0.length c0, .func (.func 46) #[] #[]] w fun e w' => e = .returned (.int .i64 r) ∧ Drawn0 w w' := by
  have HR0 := Aside0.mk hr0
  have HC0 := Aside0.mk hc0
  clear hr0 hc0
  have H : (slices_IndexFunc_int_int_57_at46.l0 k l0 (l0.length : Int) 0) = some r := h
  clear h
  have H' := Aside0.mk H
  clear H
  go_enter Try.func57, Try.ntmps57
  go_wp2
  go_loopg [8] k (fun kq v8 w' => ∃ (x8_1 : Int), v8 = .int .i64 x8_1 ∧ Aside0 (slices_IndexFunc_int_int_57_at46.l0 kq l0 (l0.length : Int) x8_1 = some r) ∧ Aside0 (kq ≤ k) ∧ Drawn0 w w')
  case atStart => exact ⟨(0), rS, H', ⟨Nat.le_refl _⟩, by repeat (first | exact Drawn0.refl _ | apply Drawn0.step)⟩
  case round =>
   clear H'
   obtain ⟨x8_1, rfl, HA, HK1, ⟨m1, rfl⟩⟩ := hrel
   cases gk with
   | zero => exact absurd HA.out (by simp [slices_IndexFunc_int_int_57_at46.l0])
   | succ k1 =>
    have H := HA.out
    clear HA
    simp only [slices_IndexFunc_int_int_57_at46.l0] at H
    by_cases c3 : x8_1 < (l0.length : Int)
    ·rw [if_pos c3] at H
     have c3b0 : decide (x8_1 < (l0.length : Int)) = true := decide_eq_true c3
     clear c3
     by_cases c4 : 0 ≤ x8_1
     ·rw [if_pos c4] at H
      have c4b0 : decide (0 ≤ x8_1) = true := decide_eq_true c4
      clear c4
      by_cases c5 : x8_1 < (l0.length : Int)
      ·rw [if_pos c5] at H
       have c5b0 : decide (x8_1 < (l0.length : Int)) = true := decide_eq_true c5
       clear c5
       replace H := Option.bind_eq_some_iff.mp H
       obtain ⟨t107, A60, H⟩ := H
       replace H : (if t107 = true then (some x8_1) else (slices_IndexFunc_int_int_57_at46.l0 k1 l0 (l0.length : Int) (wrap64 (x8_1 + 1)))) = some r := H
       have A6 := Aside0.mk A60
       clear A60
       by_cases c7 : t107 = true
       ·subst c7
        have H1 : (some x8_1) = some r := by rw [if_pos rfl] at H; exact H
        clear H
        have H := H1
        clear H1
        obtain rfl := Option.some.inj H
        have p106 : 0 ≤ (x8_1 : Int) := oD
        have q106 : x8_1 < (l0.length : Int) := oD
        obtain ⟨ad106, A106_0, c106_0, e106, hx106_0, hl106_0, hi106_0⟩ := at_L2 HR0.out x8_1 p106 q106
        cases e106
        have HR106_0 := Aside0.mk hi106_0
        have HC106_0 := Aside0.mk hl106_0
        clear hi106_0 hl106_0
        replace p106 := eq_true p106
        replace q106 := eq_true q106
        go_wp2_with (first | (go_at_call 46; (with_reducible refine (fact_mapped_1.calls k1 _ _ (rd_L2 l0 x8_1) true _ ?side1 ?side2 A6.out).mono ?_); (case side1 => exact cK HR106_0.out); (case side2 => exact HC106_0.out); rintro e w' ⟨rfl, ⟨nd, rfl⟩⟩))
        go_ret
        exact ⟨by first | rfl | (simp; done) | (simp [*]; done), by repeat (first | exact Drawn0.refl _ | apply Drawn0.step)⟩
       ·replace c7 := Bool.eq_false_iff.mpr c7
        subst c7
        have H1 : (slices_IndexFunc_int_int_57_at46.l0 k1 l0 (l0.length : Int) (wrap64 (x8_1 + 1))) = some r := by rw [if_neg (show ¬ (false = true) by decide)] at H; exact H
        clear H
        have H := H1
        clear H1
        have H' := Aside0.mk H
        clear H
        have p106 : 0 ≤ (x8_1 : Int) := oD
        have q106 : x8_1 < (l0.length : Int) := oD
        obtain ⟨ad106, A106_0, c106_0, e106, hx106_0, hl106_0, hi106_0⟩ := at_L2 HR0.out x8_1 p106 q106
        cases e106
        have HR106_0 := Aside0.mk hi106_0
        have HC106_0 := Aside0.mk hl106_0
        clear hi106_0 hl106_0
        replace p106 := eq_true p106
        replace q106 := eq_true q106
        go_wp2_with (first | (go_at_call 46; (with_reducible refine (fact_mapped_1.calls k1 _ _ (rd_L2 l0 x8_1) false _ ?side1 ?side2 A6.out).mono ?_); (case side1 => exact cK HR106_0.out); (case side2 => exact HC106_0.out); rintro e w' ⟨rfl, ⟨nd, rfl⟩⟩))
        go_roundg k1
        case measure => have := HK1.out; omega
        case rel => exact ⟨(wrap64 (x8_1 + 1)), rS, H', ⟨by have := HK1.out; omega⟩, by repeat (first | exact Drawn0.refl _ | apply Drawn0.step)⟩
      ·rw [if_neg c5] at H
       exact absurd H (by simp)
     ·rw [if_neg c4] at H
      exact absurd H (by simp)
    ·rw [if_neg c3] at H
     have c3b0 : decide (x8_1 < (l0.length : Int)) = false := decide_eq_false c3
     clear c3
     obtain rfl := Option.some.inj H
     go_wp2
     go_ret
     exact ⟨by first | rfl | (simp; done) | (simp [*]; done), by repeat (first | exact Drawn0.refl _ | apply Drawn0.step)⟩
def slices_ContainsFunc_int_int_45_at46.f (k : Nat) (l0 : List (List Int))  : Option (Bool) := (slices_IndexFunc_int_int_57_at46.f k l0).bind fun t108 => (some (decide (t108 ≥ 0)))
theorem slices_ContainsFunc_int_int_45_at46.mono : ∀ a0 k, LeO (slices_ContainsFunc_int_int_45_at46.f k a0) (slices_ContainsFunc_int_int_45_at46.f (k + 1) a0) := by
  intro a0 k
  unfold slices_ContainsFunc_int_int_45_at46.f
  repeat' first
    | (with_reducible exact slices_IndexFunc_int_int_57_at46.mono _ _)
    | (with_reducible exact LeO.refl _)
    | (with_reducible exact LeO.none _)
    | (with_reducible refine LeO.ite ?_ ?_)
    | (with_reducible refine LeO.bind ?_ (fun _ => ?_))
    | exact slices_IndexFunc_int_int_57_at46.mono _ _
    | exact LeO.none _
    | refine LeO.ite ?_ ?_
    | refine LeO.bind ?_ (fun _ => ?_)
set_option maxHeartbeats 8000000 in
set_option maxRecDepth 100000 in
theorem slices_ContainsFunc_int_int_45_at46.calls (k : Nat) (A0 : Option Addr) (c0 : Nat) (l0 : List (List Int))  (r : Bool) (w : World) (hr0 : Kd.C (Kd.slice 3 (Kd.int .i64)) w A0 l0.length l0) (hc0 : l0.length ≤ c0) (h : slices_ContainsFunc_int_int_45_at46.f k l0 = some r) :
   Calls Try.prog 45 #[.slice A0 l0.length c0, .func (.func 46) #[] #[]] w fun e w' => e = .returned (.bool r) ∧ Drawn0 w w' := by
  have HR0 := Aside0.mk hr0
  have HC0 := Aside0.mk hc0
  clear hr0 hc0
  have H : ((slices_IndexFunc_int_int_57_at46.f k l0).bind fun t108 => (some (decide (t108 ≥ 0)))) = some r := h
  clear h
  replace H := Option.bind_eq_some_iff.mp H
  obtain ⟨t108, A30, H⟩ := H
  replace H : (some (decide (t108 ≥ 0))) = some r := H
  have A3 := Aside0.mk A30
  clear A30
  obtain rfl := Option.some.inj H
  go_enter Try.func45, Try.ntmps45
  go_wp2_with (first | ((with_reducible refine gate_callee (f := 57) rfl ?_); refine goesL_ (some 7) rfl rfl Try.func57 (by kernel_rfl) rfl #[.slice A0 l0.length c0, .func (.func 46) #[] #[]] rfl aM ?_; (with_reducible refine (slices_IndexFunc_int_int_57_at46.calls k _ _ l0  t108 _ ?side1 ?side2 A3.out).mono ?_); (case side1 => exact cK HR0.out); (case side2 => exact HC0.out); rintro e w' ⟨rfl, ⟨nd, rfl⟩⟩; refine ⟨_, rfl, ?_⟩))
  go_ret
  exact ⟨by first | rfl | (simp; done) | (simp [*]; done), by repeat (first | exact Drawn0.refl _ | apply Drawn0.step)⟩
def fact_mapped.f (k : Nat) (l0 : List (List Int)) : Option (Bool) := if (l0.length : Int) ≤ 256 then ((slices_ContainsFunc_int_int_45_at46.f k l0).bind fun t109 => (some (!t109))) else (some false)
theorem fact_mapped.mono : ∀ a0 k, LeO (fact_mapped.f k a0) (fact_mapped.f (k + 1) a0) := by
  intro a0 k
  unfold fact_mapped.f
  repeat' first
    | (with_reducible exact slices_ContainsFunc_int_int_45_at46.mono _ _)
    | (with_reducible exact LeO.refl _)
    | (with_reducible exact LeO.none _)
    | (with_reducible refine LeO.ite ?_ ?_)
    | (with_reducible refine LeO.bind ?_ (fun _ => ?_))
    | exact slices_ContainsFunc_int_int_45_at46.mono _ _
    | exact LeO.none _
    | refine LeO.ite ?_ ?_
    | refine LeO.bind ?_ (fun _ => ?_)
set_option maxHeartbeats 8000000 in
set_option maxRecDepth 100000 in
theorem fact_mapped.calls (k : Nat) (A0 : Option Addr) (c0 : Nat) (l0 : List (List Int)) (r : Bool) (w : World) (hr0 : Kd.C (Kd.slice 3 (Kd.int .i64)) w A0 l0.length l0) (hc0 : l0.length ≤ c0) (h : fact_mapped.f k l0 = some r) :
   Calls Try.prog 27 #[.slice A0 l0.length c0] w fun e w' => e = .returned (.bool r) ∧ Drawn0 w w' := by
  have HR0 := Aside0.mk hr0
  have HC0 := Aside0.mk hc0
  clear hr0 hc0
  have H : (if (l0.length : Int) ≤ 256 then ((slices_ContainsFunc_int_int_45_at46.f k l0).bind fun t109 => (some (!t109))) else (some false)) = some r := h
  clear h
  by_cases c2 : (l0.length : Int) ≤ 256
  ·rw [if_pos c2] at H
   have c2b0 : decide ((l0.length : Int) ≤ 256) = true := decide_eq_true c2
   have c2b1 : decide (l0.length ≤ 256) = true := decide_eq_true (by omega)
   clear c2
   replace H := Option.bind_eq_some_iff.mp H
   obtain ⟨t109, A30, H⟩ := H
   replace H : (some (!t109)) = some r := H
   have A3 := Aside0.mk A30
   clear A30
   obtain rfl := Option.some.inj H
   go_enter Try.func27, Try.ntmps27
   go_wp2_with (first | (go_at_call 45; (with_reducible refine (slices_ContainsFunc_int_int_45_at46.calls k _ _ l0  t109 _ ?side1 ?side2 A3.out).mono ?_); (case side1 => exact cK HR0.out); (case side2 => exact HC0.out); rintro e w' ⟨rfl, ⟨nd, rfl⟩⟩))
   go_ret
   exact ⟨by first | rfl | (simp; done) | (simp [*]; done), by repeat (first | exact Drawn0.refl _ | apply Drawn0.step)⟩
  ·rw [if_neg c2] at H
   have c2b0 : decide ((l0.length : Int) ≤ 256) = false := decide_eq_false c2
   have c2b1 : decide (l0.length ≤ 256) = false := decide_eq_false (by omega)
   clear c2
   obtain rfl := Option.some.inj H
   go_enter Try.func27, Try.ntmps27
   go_wp2
   go_ret
   exact ⟨by first | rfl | (simp; done) | (simp [*]; done), by repeat (first | exact Drawn0.refl _ | apply Drawn0.step)⟩
mutual
def fact_Map.l0 : Nat → List (List Int) → List (S44) → List (S44) → Int → Int → List (S44) → Int → Option ((List (S44)) × Int × Int)
  | 0, _, _, _, _, _, _, _ => none
  | k + 1, x1, x7, x23, x24, x25, x102000, x102001 => if x25 < x24 then (if 0 ≤ x25 then (if x25 < (x23.length : Int) then (if ((rd_T44 x23 x25).f0) ≥ (x1.length : Int) then (some (([] : List (S44)), 0, 11)) else (if 0 ≤ ((rd_T44 x23 x25).f0) then (if ((rd_T44 x23 x25).f0) < (x1.length : Int) then (fact_Map.l1 k x1 x7 x23 x24 x25 (rd_L2 x1 ((rd_T44 x23 x25).f0)) ((rd_L2 x1 ((rd_T44 x23 x25).f0)).length : Int) 0 x102000 x102001 ((rd_T44 x23 x25).f0) ((rd_T44 x23 x25).f1)) else (none)) else (none))) else (none)) else (none)) else ((fact_Of.f k x7 x102001).bind fun bt105 => (some (bt105.1, bt105.2.1, bt105.2.2)))
def fact_Map.l1 : Nat → List (List Int) → List (S44) → List (S44) → Int → Int → List Int → Int → Int → List (S44) → Int → Int → Int → Option ((List (S44)) × Int × Int)
  | 0, _, _, _, _, _, _, _, _, _, _, _, _ => none
  | k + 1, x1, x7, x23, x24, x25, x39, x40, x41, x102000, x102001, x112000, x112001 => if x41 < x40 then (if 0 ≤ x41 then (if x41 < (x39.length : Int) then (if x7.length < 8796093022208 then (fact_Map.l1 k x1 (x7 ++ [(⟨rd x39 x41, x112001⟩ : S44)]) x23 x24 x25 x39 x40 (wrap64 (x41 + 1)) x102000 x102001 x112000 x112001) else (none)) else (none)) else (none)) else (fact_Map.l0 k x1 x7 x23 x24 (wrap64 (x25 + 1)) x102000 x102001)
end
def fact_Map.f (k : Nat) (l0_0 : List (S44)) (a0_1 : Int) (l1 : List (List Int)) : Option ((List (S44)) × Int × Int) := (fact_Check.f k l0_0 a0_1).bind fun t103 => (if t103 = 0 then ((fact_mapped.f k l1).bind fun t104 => (if t104 = true then (fact_Map.l0 k l1 ([] : List (S44)) l0_0 (l0_0.length : Int) 0 l0_0 a0_1) else (some (([] : List (S44)), 0, 10)))) else (some (([] : List (S44)), 0, t103)))
theorem fact_Map.mono_l : ∀ k, (∀ y0 y1 y2 y3 y4 y5 y6, LeO (fact_Map.l0 k y0 y1 y2 y3 y4 y5 y6) (fact_Map.l0 (k + 1) y0 y1 y2 y3 y4 y5 y6)) ∧ (∀ y0 y1 y2 y3 y4 y5 y6 y7 y8 y9 y10 y11, LeO (fact_Map.l1 k y0 y1 y2 y3 y4 y5 y6 y7 y8 y9 y10 y11) (fact_Map.l1 (k + 1) y0 y1 y2 y3 y4 y5 y6 y7 y8 y9 y10 y11))
  | 0 => ⟨fun _ _ _ _ _ _ _ r h => by simp [fact_Map.l0] at h, fun _ _ _ _ _ _ _ _ _ _ _ _ r h => by simp [fact_Map.l1] at h⟩
  | k + 1 => by
   obtain ⟨ih0, ih1⟩ := fact_Map.mono_l k
   refine ⟨?_, ?_⟩
   ·intro y0 y1 y2 y3 y4 y5 y6
    unfold fact_Map.l0
    repeat' first
    | (with_reducible exact ih0 _ _ _ _ _ _ _)
    | (with_reducible exact ih1 _ _ _ _ _ _ _ _ _ _ _ _)
    | (with_reducible exact fact_Check.mono _ _ _)
    | (with_reducible exact fact_Of.mono _ _ _)
    | (with_reducible exact fact_mapped.mono _ _)
    | (with_reducible exact LeO.refl _)
    | (with_reducible exact LeO.none _)
    | (with_reducible refine LeO.ite ?_ ?_)
    | (with_reducible refine LeO.bind ?_ (fun _ => ?_))
    | exact ih0 _ _ _ _ _ _ _
    | exact ih1 _ _ _ _ _ _ _ _ _ _ _ _
    | exact fact_Check.mono _ _ _
    | exact fact_Of.mono _ _ _
    | exact fact_mapped.mono _ _
    | exact LeO.none _
    | refine LeO.ite ?_ ?_
    | refine LeO.bind ?_ (fun _ => ?_)
   ·intro y0 y1 y2 y3 y4 y5 y6 y7 y8 y9 y10 y11
    unfold fact_Map.l1
    repeat' first
    | (with_reducible exact ih0 _ _ _ _ _ _ _)
    | (with_reducible exact ih1 _ _ _ _ _ _ _ _ _ _ _ _)
    | (with_reducible exact fact_Check.mono _ _ _)
    | (with_reducible exact fact_Of.mono _ _ _)
    | (with_reducible exact fact_mapped.mono _ _)
    | (with_reducible exact LeO.refl _)
    | (with_reducible exact LeO.none _)
    | (with_reducible refine LeO.ite ?_ ?_)
    | (with_reducible refine LeO.bind ?_ (fun _ => ?_))
    | exact ih0 _ _ _ _ _ _ _
    | exact ih1 _ _ _ _ _ _ _ _ _ _ _ _
    | exact fact_Check.mono _ _ _
    | exact fact_Of.mono _ _ _
    | exact fact_mapped.mono _ _
    | exact LeO.none _
    | refine LeO.ite ?_ ?_
    | refine LeO.bind ?_ (fun _ => ?_)
theorem fact_Map.mono : ∀ a0 a1 a2 k, LeO (fact_Map.f k a0 a1 a2) (fact_Map.f (k + 1) a0 a1 a2) := by
  intro a0 a1 a2 k
  obtain ⟨ih0, ih1⟩ := fact_Map.mono_l k
  unfold fact_Map.f
  repeat' first
    | (with_reducible exact ih0 _ _ _ _ _ _ _)
    | (with_reducible exact ih1 _ _ _ _ _ _ _ _ _ _ _ _)
    | (with_reducible exact fact_Check.mono _ _ _)
    | (with_reducible exact fact_Of.mono _ _ _)
    | (with_reducible exact fact_mapped.mono _ _)
    | (with_reducible exact LeO.refl _)
    | (with_reducible exact LeO.none _)
    | (with_reducible refine LeO.ite ?_ ?_)
    | (with_reducible refine LeO.bind ?_ (fun _ => ?_))
    | exact ih0 _ _ _ _ _ _ _
    | exact ih1 _ _ _ _ _ _ _ _ _ _ _ _
    | exact fact_Check.mono _ _ _
    | exact fact_Of.mono _ _ _
    | exact fact_mapped.mono _ _
    | exact LeO.none _
    | refine LeO.ite ?_ ?_
    | refine LeO.bind ?_ (fun _ => ?_)
set_option maxHeartbeats 8000000 in
set_option maxRecDepth 100000 in
theorem fact_Map.calls (k : Nat) (A0_0 : Option Addr) (c0_0 : Nat) (l0_0 : List (S44)) (a0_1 : Int) (A1 : Option Addr) (c1 : Nat) (l1 : List (List Int)) (r1 : List (S44)) (r2 : Int) (r3 : Int) (w : World) (hr0_0 : Kd.C k44 w A0_0 l0_0.length l0_0) (hc0_0 : l0_0.length ≤ c0_0) (hr1 : Kd.C (Kd.slice 3 (Kd.int .i64)) w A1 l1.length l1) (hc1 : l1.length ≤ c1) (h : fact_Map.f k l0_0 a0_1 l1 = some (r1, r2, r3)) :
   Calls Try.prog 15 #[.agg #[.slice A0_0 l0_0.length c0_0, .int .i64 a0_1], .slice A1 l1.length c1] w fun e w' => ∃ v0_ : Value, e = .returned (.tuple #[.agg #[v0_, .int .i64 r2], .int .i64 r3]) ∧ Kd.R k44 44 w' w.heap.size (fun _ => True) v0_ r1 ∧ Below w.heap.size w w' := by
  have hu30 := Try.underlying30
  have hu44 := Try.underlying44
  have HR0_0 := Aside0.mk hr0_0
  have HC0_0 := Aside0.mk hc0_0
  clear hr0_0 hc0_0
  have HR1 := Aside0.mk hr1
  have HC1 := Aside0.mk hc1
  clear hr1 hc1
  have HB := Aside0.mk (Below.refl w.heap.size w)
  have H : ((fact_Check.f k l0_0 a0_1).bind fun t103 => (if t103 = 0 then ((fact_mapped.f k l1).bind fun t104 => (if t104 = true then (fact_Map.l0 k l1 ([] : List (S44)) l0_0 (l0_0.length : Int) 0 l0_0 a0_1) else (some (([] : List (S44)), 0, 10)))) else (some (([] : List (S44)), 0, t103)))) = some (r1, r2, r3) := h
  clear h
  replace H := Option.bind_eq_some_iff.mp H
  obtain ⟨t103, A30, H⟩ := H
  replace H : (if t103 = 0 then ((fact_mapped.f k l1).bind fun t104 => (if t104 = true then (fact_Map.l0 k l1 ([] : List (S44)) l0_0 (l0_0.length : Int) 0 l0_0 a0_1) else (some (([] : List (S44)), 0, 10)))) else (some (([] : List (S44)), 0, t103))) = some (r1, r2, r3) := H
  have A3 := Aside0.mk A30
  clear A30
  by_cases c4 : t103 = 0
  ·rw [if_pos c4] at H
   have c4b0 : (t103 == 0) = true := beq_iff_eq.mpr c4
   have c4b1 : (t103 != 0) = false := bne_eq_false_iff_eq.mpr c4
   clear c4
   replace H := Option.bind_eq_some_iff.mp H
   obtain ⟨t104, A50, H⟩ := H
   replace H : (if t104 = true then (fact_Map.l0 k l1 ([] : List (S44)) l0_0 (l0_0.length : Int) 0 l0_0 a0_1) else (some (([] : List (S44)), 0, 10))) = some (r1, r2, r3) := H
   have A5 := Aside0.mk A50
   clear A50
   by_cases c6 : t104 = true
   ·subst c6
    have H1 : (fact_Map.l0 k l1 ([] : List (S44)) l0_0 (l0_0.length : Int) 0 l0_0 a0_1) = some (r1, r2, r3) := by rw [if_pos rfl] at H; exact H
    clear H
    have H := H1
    clear H1
    have H' := Aside0.mk H
    clear H
    go_enter Try.func15, Try.ntmps15
    go_wp2_with (first | ((with_reducible refine gate_dst (N := 2) rfl ?_); refine box_event ?hg (N := 2) ?hd (cs := #[.slice A0_0 l0_0.length c0_0, .int .i64 a0_1]) (t := 30) ?hr ?_; (case hd => rfl); (case hg => rfl); (case hr => first | (go_simp; done) | (go_simp; rfl)); intro gb101 hg w7 hbox hb; have n0_ := Aside0.mk (below_step (hB0 HB.out) hb); have n1_ := Aside0.mk (hbox); have n2_ := Aside0.mk ((by rw [hg]; exact (below_size (hB0 HB.out)) : w.heap.size ≤ gb101)); have n3_ := Aside0.mk ((by rw [hg]; exact (below_size (hB0 HB.out)) : w.heap.size ≤ gb101)); clear HB; have HB := n0_; have BK101 := n1_; have GW101 := n2_; have GE101 := n3_; clear n0_ n1_ n2_ n3_; clear hb hbox hg) | ((with_reducible refine gate_dst (N := 4) rfl ?_); refine box_event ?hg (N := 4) ?hd (cs := #[.slice none 0 0, .int .i64 0]) (t := 30) ?hr ?_; (case hd => rfl); (case hg => rfl); (case hr => first | (go_simp; done) | (go_simp; rfl)); intro gb102 hg w8 hbox hb; have n0_ := Aside0.mk (blk_below (g := gb101) (o := .cells #[.slice A0_0 l0_0.length c0_0, .int .i64 a0_1] 30 (0, 0)) (bK BK101.out) hb); have n1_ := Aside0.mk (below_step (hB1 HB.out GE101.out) hb); have n2_ := Aside0.mk (hbox); have n3_ := Aside0.mk ((by rw [hg]; exact (below_size (hB1 HB.out GE101.out)) : w.heap.size ≤ gb102)); have n4_ := Aside0.mk ((by rw [hg]; exact (below_size (hB1 HB.out GE101.out)) : w.heap.size ≤ gb102)); have n5_ := Aside0.mk ((by rw [hg]; exact Nat.ne_of_lt (blk_lt (g := gb101) (o := .cells #[.slice A0_0 l0_0.length c0_0, .int .i64 a0_1] 30 (0, 0)) (bK BK101.out)) : gb101 ≠ gb102)); have n6_ := Aside0.mk ((by rw [hg]; exact Nat.ne_of_gt (blk_lt (g := gb101) (o := .cells #[.slice A0_0 l0_0.length c0_0, .int .i64 a0_1] 30 (0, 0)) (bK BK101.out)) : gb102 ≠ gb101)); clear BK101 HB; have BK101 := n0_; have HB := n1_; have BK102 := n2_; have GW102 := n3_; have GE102 := n4_; have NB101_102 := n5_; have NB102_101 := n6_; clear n0_ n1_ n2_ n3_ n4_ n5_ n6_; clear hb hbox hg; have hnb9 := NB101_102.out; have hnc9 := NB102_101.out; have hcz10_0 : w8.cell? ⟨gb101, 0, none⟩ = some (.slice A0_0 l0_0.length c0_0) := (blk_cell BK101.out 0).trans rfl; have hcz10_1 : w8.cell? ⟨gb101, 1, none⟩ = some (.int .i64 a0_1) := (blk_cell BK101.out 1).trans rfl; have hfz10_0 := blk_frozen BK101.out 0; have hfz10_1 := blk_frozen BK101.out 1) | ((with_reducible refine gate_callee (f := 18) rfl ?_); refine goesL_ (some 13) rfl rfl Try.func18 (by kernel_rfl) rfl #[.agg #[.slice A0_0 l0_0.length c0_0, .int .i64 a0_1]] rfl aM ?_; (with_reducible refine (fact_Check.calls k _ _ l0_0 a0_1 t103 _ ?side1 ?side2 A3.out).mono ?_); (case side1 => repeat (first | exact (Kd.C_below HR0_0.out HB.out) | (with_reducible refine Kd.C_alloc ?_ _) | (with_reducible refine Kd.C_drewN ?_ _) | (with_reducible refine Kd.C_drew ?_))); (case side2 => exact HC0_0.out); rintro e w11 ⟨rfl, hb⟩; refine ⟨_, rfl, ?_⟩; have n0_ := Aside0.mk (blk_below (g := gb101) (o := .cells #[.slice A0_0 l0_0.length c0_0, .int .i64 a0_1] 30 (0, 0)) (bK BK101.out) hb); have n1_ := Aside0.mk (blk_below (g := gb102) (o := .cells #[.slice none 0 0, .int .i64 0] 30 (0, 0)) (bK BK102.out) hb); have n2_ := Aside0.mk (below_step (hB2 HB.out GE101.out GE102.out) hb); clear BK101 BK102 HB; have BK101 := n0_; have BK102 := n1_; have HB := n2_; clear n0_ n1_ n2_; (try clear hb)) | ((with_reducible refine gate_callee (f := 27) rfl ?_); refine goesL_ (some 19) rfl rfl Try.func27 (by kernel_rfl) rfl #[.slice A1 l1.length c1] rfl aM ?_; (with_reducible refine (fact_mapped.calls k _ _ l1 true _ ?side1 ?side2 A5.out).mono ?_); (case side1 => repeat (first | exact (Kd.C_below HR1.out HB.out) | (with_reducible refine Kd.C_alloc ?_ _) | (with_reducible refine Kd.C_drewN ?_ _) | (with_reducible refine Kd.C_drew ?_))); (case side2 => exact HC1.out); rintro e w' ⟨rfl, ⟨nd, rfl⟩⟩; refine ⟨_, rfl, ?_⟩; have hcz12_0 : w11.cell? ⟨gb101, 0, none⟩ = some (.slice A0_0 l0_0.length c0_0) := (blk_cell BK101.out 0).trans rfl; have hcz12_1 : w11.cell? ⟨gb101, 1, none⟩ = some (.int .i64 a0_1) := (blk_cell BK101.out 1).trans rfl; have hfz12_0 := blk_frozen BK101.out 0; have hfz12_1 := blk_frozen BK101.out 1))
    (try simp only [Act.put, List.setIfInBounds_toArray, List.set_cons_zero, List.set_cons_succ])
    go_loopg [7, 25] k (fun kq v7 v25 w' => ∃ (x7_1 : List (S44)) (x25_1 : Int) (x103001_1 : Int), v25 = .int .i64 x25_1 ∧ Aside0 (fact_Map.l0 kq l1 x7_1 l0_0 (l0_0.length : Int) x25_1 l0_0 a0_1 = some (r1, r2, r3)) ∧ Aside0 (kq ≤ k) ∧ Aside0 (Kd.R k44 44 w' w.heap.size (fun _ => True) v7 x7_1) ∧ Aside0 (w'.heap[gb101]? = some (.cells #[(.slice A0_0 l0_0.length c0_0), .int .i64 a0_1] 30 (0, 0))) ∧ Aside0 (w'.heap[gb102]? = some (.cells #[(.slice none 0 0), .int .i64 x103001_1] 30 (0, 0))) ∧ Aside0 (Below w.heap.size w w'))
    case atStart => exact ⟨(([] : List (S44))), (0), (0), rS, H', ⟨Nat.le_refl _⟩, ⟨by first | exact Kd.R_nil _ _ _ _ _ | exact Kd.N_nil _ _ _ _ _ | exact Kd.V_nil _ _ _ _ _ | exact Kd.Q_nil _ _ _ _ _ | exact Kd.S_nil _ _ _ _ _⟩, ⟨bK BK101.out⟩, ⟨bK BK102.out⟩, ⟨hB2 HB.out GE101.out GE102.out⟩⟩
    case round =>
     clear H'
     try clear c1
     try clear c4b0
     try clear c4b1
     try clear c6
     try clear hcz10_0
     try clear hcz10_1
     try clear hcz12_0
     try clear hcz12_1
     try clear hfz10_0
     try clear hfz10_1
     try clear hfz12_0
     try clear hfz12_1
     obtain ⟨x7_1, x25_1, x103001_1, rfl, HA, HK1, HO_7, BK101, BK102, HB⟩ := hrel
     cases gk with
     | zero => exact absurd HA.out (by simp [fact_Map.l0])
     | succ k1 =>
      have H := HA.out
      clear HA
      simp only [fact_Map.l0] at H
      by_cases c13 : x25_1 < (l0_0.length : Int)
      ·rw [if_pos c13] at H
       have c13b0 : decide (x25_1 < (l0_0.length : Int)) = true := decide_eq_true c13
       clear c13
       by_cases c14 : 0 ≤ x25_1
       ·rw [if_pos c14] at H
        have c14b0 : decide (0 ≤ x25_1) = true := decide_eq_true c14
        clear c14
        by_cases c15 : x25_1 < (l0_0.length : Int)
        ·rw [if_pos c15] at H
         have c15b0 : decide (x25_1 < (l0_0.length : Int)) = true := decide_eq_true c15
         clear c15
         by_cases c16 : ((rd_T44 l0_0 x25_1).f0) ≥ (l1.length : Int)
         ·rw [if_pos c16] at H
          have c16b0 : decide ((l1.length : Int) ≤ ((rd_T44 l0_0 x25_1).f0)) = true := decide_eq_true c16
          clear c16
          simp only [Option.some.injEq, Prod.mk.injEq] at H
          obtain ⟨rfl, rfl, rfl⟩ := H
          have p110 : 0 ≤ (x25_1 : Int) := oD
          have q110 : x25_1 < (l0_0.length : Int) := oD
          obtain ⟨ad110, e110, hx110_0, hx110_1⟩ := at_T44 HR0_0.out x25_1 p110 q110
          cases e110
          replace hx110_0 := (HB.out.cell (World.block_lt_of_cell? w _ hx110_0)).trans hx110_0
          replace hx110_1 := (HB.out.cell (World.block_lt_of_cell? w _ hx110_1)).trans hx110_1
          replace p110 := eq_true p110
          replace q110 := eq_true q110
          go_wp2_with (first | ((with_reducible refine gate_dst (N := 9) rfl ?_); refine box_event ?hg (N := 9) ?hd (cs := #[.int .i64 0, .int .i64 0]) (t := 44) ?hr ?_; (case hd => rfl); (case hg => rfl); (case hr => first | (go_simp; done) | (go_simp; rfl)); intro gb111 hg w17 hbox hb; have n0_ := Aside0.mk (Kd.R_below (Kd.R_elderB (rK HO_7.out) gb111 (Nat.le_of_eq hg.symm)) hb); have n1_ := Aside0.mk (blk_below (g := gb101) (o := .cells #[.slice (some ad110) l0_0.length c0_0, .int .i64 a0_1] 30 (0, 0)) (bK BK101.out) hb); have n2_ := Aside0.mk (blk_below (g := gb102) (o := .cells #[.slice none 0 0, .int .i64 x103001_1] 30 (0, 0)) (bK BK102.out) hb); have n3_ := Aside0.mk (below_step (hB2 HB.out GE101.out GE102.out) hb); have n4_ := Aside0.mk (hbox); have n5_ := Aside0.mk ((by rw [hg]; exact (below_size (hB2 HB.out GE101.out GE102.out)) : w.heap.size ≤ gb111)); have n6_ := Aside0.mk ((by rw [hg]; exact (below_size (hB2 HB.out GE101.out GE102.out)) : w.heap.size ≤ gb111)); have n7_ := Aside0.mk ((by rw [hg]; exact Nat.ne_of_lt (blk_lt (g := gb101) (o := .cells #[.slice (some ad110) l0_0.length c0_0, .int .i64 a0_1] 30 (0, 0)) (bK BK101.out)) : gb101 ≠ gb111)); have n8_ := Aside0.mk ((by rw [hg]; exact Nat.ne_of_gt (blk_lt (g := gb101) (o := .cells #[.slice (some ad110) l0_0.length c0_0, .int .i64 a0_1] 30 (0, 0)) (bK BK101.out)) : gb111 ≠ gb101)); have n9_ := Aside0.mk ((by rw [hg]; exact Nat.ne_of_lt (blk_lt (g := gb102) (o := .cells #[.slice none 0 0, .int .i64 x103001_1] 30 (0, 0)) (bK BK102.out)) : gb102 ≠ gb111)); have n10_ := Aside0.mk ((by rw [hg]; exact Nat.ne_of_gt (blk_lt (g := gb102) (o := .cells #[.slice none 0 0, .int .i64 x103001_1] 30 (0, 0)) (bK BK102.out)) : gb111 ≠ gb102)); clear HO_7 BK101 BK102 HB; have HO_7 := n0_; have BK101 := n1_; have BK102 := n2_; have HB := n3_; have BK111 := n4_; have GW111 := n5_; have GE111 := n6_; have NB101_111 := n7_; have NB111_101 := n8_; have NB102_111 := n9_; have NB111_102 := n10_; clear n0_ n1_ n2_ n3_ n4_ n5_ n6_ n7_ n8_ n9_ n10_; clear hb hbox hg; have hnb18 := NB111_101.out; have hnc18 := NB101_111.out; have hnb19 := NB111_102.out; have hnc19 := NB102_111.out; have hcz20_0 : w17.cell? ⟨gb111, 0, none⟩ = some (.int .i64 0) := (blk_cell BK111.out 0).trans rfl; have hcz20_1 : w17.cell? ⟨gb111, 1, none⟩ = some (.int .i64 0) := (blk_cell BK111.out 1).trans rfl; have hfz20_0 := blk_frozen BK111.out 0; have hfz20_1 := blk_frozen BK111.out 1; have hnb21 := NB102_101.out; have hnc21 := NB101_102.out; have hcz22_0 : w17.cell? ⟨gb102, 0, none⟩ = some (.slice none 0 0) := (blk_cell BK102.out 0).trans rfl; have hcz22_1 : w17.cell? ⟨gb102, 1, none⟩ = some (.int .i64 x103001_1) := (blk_cell BK102.out 1).trans rfl; have hfz22_0 := blk_frozen BK102.out 0; have hfz22_1 := blk_frozen BK102.out 1))
          refine bodyPost_ret (results_ct rfl _ _ gb102 30 #[.slice none 0 0, .int .i64 0] (0, 0) _ rfl (by (with_reducible repeat (first | refine blk_drewN ?_ _ | refine blk_drew ?_ | refine blk_alloc ?_ _)); refine blk_put (cs := #[.slice none 0 0, .int .i64 x103001_1]) ?_ 1 _ rfl; (with_reducible repeat (first | refine blk_drewN ?_ _ | refine blk_drew ?_ | refine blk_alloc ?_ _)); refine blk_put (cs := #[.slice none 0 0, .int .i64 x103001_1]) ?_ 0 _ rfl; (with_reducible repeat (first | refine blk_drewN ?_ _ | refine blk_drew ?_ | refine blk_alloc ?_ _)); refine blk_far ?_ NB102_111.out _; (with_reducible repeat (first | refine blk_drewN ?_ _ | refine blk_drew ?_ | refine blk_alloc ?_ _)); refine blk_far ?_ NB102_111.out _; (with_reducible repeat (first | refine blk_drewN ?_ _ | refine blk_drew ?_ | refine blk_alloc ?_ _)); exact BK102.out) Try.underlying30 rfl (by kernel_rfl)) rfl ?_
          exact ⟨_, by first | rfl | (simp [errW_none, errW_some] <;> rfl) | (simp [*, errW_none, errW_some] <;> rfl), by first | exact Kd.R_nil _ _ _ _ _ | exact Kd.N_nil _ _ _ _ _ | exact Kd.V_nil _ _ _ _ _ | exact Kd.Q_nil _ _ _ _ _ | exact Kd.S_nil _ _ _ _ _, hB3 HB.out GE101.out GE102.out GE111.out⟩
         ·rw [if_neg c16] at H
          have c16b0 : decide ((l1.length : Int) ≤ ((rd_T44 l0_0 x25_1).f0)) = false := decide_eq_false c16
          clear c16
          by_cases c23 : 0 ≤ ((rd_T44 l0_0 x25_1).f0)
          ·rw [if_pos c23] at H
           have c23b0 : decide (0 ≤ ((rd_T44 l0_0 x25_1).f0)) = true := decide_eq_true c23
           clear c23
           by_cases c24 : ((rd_T44 l0_0 x25_1).f0) < (l1.length : Int)
           ·rw [if_pos c24] at H
            have c24b0 : decide (((rd_T44 l0_0 x25_1).f0) < (l1.length : Int)) = true := decide_eq_true c24
            clear c24
            have H' := Aside0.mk H
            clear H
            have p110 : 0 ≤ (x25_1 : Int) := oD
            have q110 : x25_1 < (l0_0.length : Int) := oD
            obtain ⟨ad110, e110, hx110_0, hx110_1⟩ := at_T44 HR0_0.out x25_1 p110 q110
            cases e110
            replace hx110_0 := (HB.out.cell (World.block_lt_of_cell? w _ hx110_0)).trans hx110_0
            replace hx110_1 := (HB.out.cell (World.block_lt_of_cell? w _ hx110_1)).trans hx110_1
            replace p110 := eq_true p110
            replace q110 := eq_true q110
            go_wp2_with (first | ((with_reducible refine gate_dst (N := 9) rfl ?_); refine box_event ?hg (N := 9) ?hd (cs := #[.int .i64 0, .int .i64 0]) (t := 44) ?hr ?_; (case hd => rfl); (case hg => rfl); (case hr => first | (go_simp; done) | (go_simp; rfl)); intro gb111 hg w25 hbox hb; have n0_ := Aside0.mk (Kd.R_below (Kd.R_elderB (rK HO_7.out) gb111 (Nat.le_of_eq hg.symm)) hb); have n1_ := Aside0.mk (blk_below (g := gb101) (o := .cells #[.slice (some ad110) l0_0.length c0_0, .int .i64 a0_1] 30 (0, 0)) (bK BK101.out) hb); have n2_ := Aside0.mk (blk_below (g := gb102) (o := .cells #[.slice none 0 0, .int .i64 x103001_1] 30 (0, 0)) (bK BK102.out) hb); have n3_ := Aside0.mk (below_step (hB2 HB.out GE101.out GE102.out) hb); have n4_ := Aside0.mk (hbox); have n5_ := Aside0.mk ((by rw [hg]; exact (below_size (hB2 HB.out GE101.out GE102.out)) : w.heap.size ≤ gb111)); have n6_ := Aside0.mk ((by rw [hg]; exact (below_size (hB2 HB.out GE101.out GE102.out)) : w.heap.size ≤ gb111)); have n7_ := Aside0.mk ((by rw [hg]; exact Nat.ne_of_lt (blk_lt (g := gb101) (o := .cells #[.slice (some ad110) l0_0.length c0_0, .int .i64 a0_1] 30 (0, 0)) (bK BK101.out)) : gb101 ≠ gb111)); have n8_ := Aside0.mk ((by rw [hg]; exact Nat.ne_of_gt (blk_lt (g := gb101) (o := .cells #[.slice (some ad110) l0_0.length c0_0, .int .i64 a0_1] 30 (0, 0)) (bK BK101.out)) : gb111 ≠ gb101)); have n9_ := Aside0.mk ((by rw [hg]; exact Nat.ne_of_lt (blk_lt (g := gb102) (o := .cells #[.slice none 0 0, .int .i64 x103001_1] 30 (0, 0)) (bK BK102.out)) : gb102 ≠ gb111)); have n10_ := Aside0.mk ((by rw [hg]; exact Nat.ne_of_gt (blk_lt (g := gb102) (o := .cells #[.slice none 0 0, .int .i64 x103001_1] 30 (0, 0)) (bK BK102.out)) : gb111 ≠ gb102)); clear HO_7 BK101 BK102 HB; have HO_7 := n0_; have BK101 := n1_; have BK102 := n2_; have HB := n3_; have BK111 := n4_; have GW111 := n5_; have GE111 := n6_; have NB101_111 := n7_; have NB111_101 := n8_; have NB102_111 := n9_; have NB111_102 := n10_; clear n0_ n1_ n2_ n3_ n4_ n5_ n6_ n7_ n8_ n9_ n10_; clear hb hbox hg; have hnb26 := NB111_101.out; have hnc26 := NB101_111.out; have hnb27 := NB111_102.out; have hnc27 := NB102_111.out; have hcz28_0 : w25.cell? ⟨gb111, 0, none⟩ = some (.int .i64 0) := (blk_cell BK111.out 0).trans rfl; have hcz28_1 : w25.cell? ⟨gb111, 1, none⟩ = some (.int .i64 0) := (blk_cell BK111.out 1).trans rfl; have hfz28_0 := blk_frozen BK111.out 0; have hfz28_1 := blk_frozen BK111.out 1; have p112 : 0 ≤ (((rd_T44 l0_0 x25_1).f0) : Int) := oD; have q112 : ((rd_T44 l0_0 x25_1).f0) < (l1.length : Int) := oD; obtain ⟨ad112, A112_0, c112_0, e112, hx112_0, hl112_0, hi112_0⟩ := at_L2 HR1.out ((rd_T44 l0_0 x25_1).f0) p112 q112; cases e112; have hn112_0 : ad112.block ≠ gb111 := Nat.ne_of_lt (Nat.lt_of_lt_of_le (by have := World.block_lt_of_cell? _ _ hx112_0; first | rwa [add_block] at this | exact this) GW111.out); have hn112_1 : ad112.block ≠ gb111 := Nat.ne_of_lt (Nat.lt_of_lt_of_le (by have := World.block_lt_of_cell? _ _ hx112_0; first | rwa [add_block] at this | exact this) GW111.out); replace hx112_0 := (HB.out.cell (World.block_lt_of_cell? w _ hx112_0)).trans hx112_0; have HR112_0 := Aside0.mk hi112_0; have HC112_0 := Aside0.mk hl112_0; clear hi112_0 hl112_0; replace hx112_0 := (cell_far (p := ⟨gb111, 0, none⟩) (by first | (rw [add_block]; exact hn112_0) | (show (Addr.add _ _).block ≠ _; rw [add_block]; exact hn112_0) | exact hn112_0) (.int .i64 ((rd_T44 l0_0 x25_1).f0))).trans hx112_0; replace hx112_0 := (cell_far (p := ⟨gb111, 1, none⟩) (by first | (rw [add_block]; exact hn112_1) | (show (Addr.add _ _).block ≠ _; rw [add_block]; exact hn112_1) | exact hn112_1) (.int .i64 ((rd_T44 l0_0 x25_1).f1))).trans hx112_0; clear hn112_0 hn112_1; replace p112 := eq_true p112; replace q112 := eq_true q112))
            (try simp only [Act.put, List.setIfInBounds_toArray, List.set_cons_zero, List.set_cons_succ])
            go_loopg [7, 41] k1 (fun kq v7 v41 w' => ∃ (x7_2 : List (S44)) (x41_2 : Int), v41 = .int .i64 x41_2 ∧ Aside0 (fact_Map.l1 kq l1 x7_2 l0_0 (l0_0.length : Int) x25_1 (rd_L2 l1 ((rd_T44 l0_0 x25_1).f0)) ((rd_L2 l1 ((rd_T44 l0_0 x25_1).f0)).length : Int) x41_2 l0_0 a0_1 ((rd_T44 l0_0 x25_1).f0) ((rd_T44 l0_0 x25_1).f1) = some (r1, r2, r3)) ∧ Aside0 (kq ≤ k1) ∧ Aside0 (Kd.R k44 44 w' w.heap.size (fun k_ => k_ ≠ gb111) v7 x7_2) ∧ Aside0 (w'.heap[gb101]? = some (.cells #[(.slice (some ad110) l0_0.length c0_0), .int .i64 a0_1] 30 (0, 0))) ∧ Aside0 (w'.heap[gb102]? = some (.cells #[(.slice none 0 0), .int .i64 x103001_1] 30 (0, 0))) ∧ Aside0 (w'.heap[gb111]? = some (.cells #[.int .i64 ((rd_T44 l0_0 x25_1).f0), .int .i64 ((rd_T44 l0_0 x25_1).f1)] 44 (0, 0))) ∧ Aside0 (Below w.heap.size w w'))
            case atStart => exact ⟨(x7_1), (0), rS, H', ⟨Nat.le_refl _⟩, ⟨by (with_reducible repeat (first | apply Kd.R_alloc | apply Kd.R_drewN | apply Kd.R_drew)); exact Kd.R_mono (Kd.R_far (p := ⟨gb111, 1, none⟩) (Kd.R_far (p := ⟨gb111, 0, none⟩) (Kd.R_mono HO_7.out (fun k_ hk => (⟨hk, hk.2⟩ : _ ∧ k_ ≠ gb111))) (fun _ hk => hk.2) (.int .i64 ((rd_T44 l0_0 x25_1).f0))) (fun _ hk => hk.2) (.int .i64 ((rd_T44 l0_0 x25_1).f1))) (fun _ hk => hk.1.2)⟩, ⟨by (with_reducible repeat (first | refine blk_drewN ?_ _ | refine blk_drew ?_ | refine blk_alloc ?_ _)); refine blk_far ?_ NB101_111.out _; (with_reducible repeat (first | refine blk_drewN ?_ _ | refine blk_drew ?_ | refine blk_alloc ?_ _)); refine blk_far ?_ NB101_111.out _; (with_reducible repeat (first | refine blk_drewN ?_ _ | refine blk_drew ?_ | refine blk_alloc ?_ _)); exact BK101.out⟩, ⟨by (with_reducible repeat (first | refine blk_drewN ?_ _ | refine blk_drew ?_ | refine blk_alloc ?_ _)); refine blk_far ?_ NB102_111.out _; (with_reducible repeat (first | refine blk_drewN ?_ _ | refine blk_drew ?_ | refine blk_alloc ?_ _)); refine blk_far ?_ NB102_111.out _; (with_reducible repeat (first | refine blk_drewN ?_ _ | refine blk_drew ?_ | refine blk_alloc ?_ _)); exact BK102.out⟩, ⟨by (with_reducible repeat (first | refine blk_drewN ?_ _ | refine blk_drew ?_ | refine blk_alloc ?_ _)); refine blk_put (cs := #[.int .i64 ((rd_T44 l0_0 x25_1).f0), .int .i64 0]) ?_ 1 _ rfl; (with_reducible repeat (first | refine blk_drewN ?_ _ | refine blk_drew ?_ | refine blk_alloc ?_ _)); refine blk_put (cs := #[.int .i64 0, .int .i64 0]) ?_ 0 _ rfl; (with_reducible repeat (first | refine blk_drewN ?_ _ | refine blk_drew ?_ | refine blk_alloc ?_ _)); exact BK111.out⟩, ⟨hB3 HB.out GE101.out GE102.out GE111.out⟩⟩
            case round =>
             clear H'
             try clear c13b0
             try clear c14b0
             try clear c15b0
             try clear c16b0
             try clear c23b0
             try clear c24b0
             try clear hcz28_0
             try clear hcz28_1
             try clear hfz28_0
             try clear hfz28_1
             try clear hx110_0
             try clear hx110_1
             try clear hx112_0
             try clear p110
             try clear p112
             try clear q110
             try clear q112
             obtain ⟨x7_2, x41_2, rfl, HA, HK2, HO_7, BK101, BK102, BK111, HB⟩ := hrel
             cases gk with
             | zero => exact absurd HA.out (by simp [fact_Map.l1])
             | succ k2 =>
              have H := HA.out
              clear HA
              simp only [fact_Map.l1] at H
              by_cases c29 : x41_2 < ((rd_L2 l1 ((rd_T44 l0_0 x25_1).f0)).length : Int)
              ·rw [if_pos c29] at H
               have c29b0 : decide (x41_2 < ((rd_L2 l1 ((rd_T44 l0_0 x25_1).f0)).length : Int)) = true := decide_eq_true c29
               clear c29
               by_cases c30 : 0 ≤ x41_2
               ·rw [if_pos c30] at H
                have c30b0 : decide (0 ≤ x41_2) = true := decide_eq_true c30
                clear c30
                by_cases c31 : x41_2 < ((rd_L2 l1 ((rd_T44 l0_0 x25_1).f0)).length : Int)
                ·rw [if_pos c31] at H
                 have c31b0 : decide (x41_2 < ((rd_L2 l1 ((rd_T44 l0_0 x25_1).f0)).length : Int)) = true := decide_eq_true c31
                 clear c31
                 by_cases c32 : x7_2.length < 8796093022208
                 ·rw [if_pos c32] at H
                  have LMc32 := Aside0.mk c32
                  clear c32
                  obtain ⟨y114, hy114⟩ : ∃ y_ : List (S44), y_ = (x7_2 ++ [(⟨rd (rd_L2 l1 ((rd_T44 l0_0 x25_1).f0)) x41_2, ((rd_T44 l0_0 x25_1).f1)⟩ : S44)]) := ⟨_, rfl⟩
                  replace H : (fact_Map.l1 k2 l1 y114 l0_0 (l0_0.length : Int) x25_1 (rd_L2 l1 ((rd_T44 l0_0 x25_1).f0)) ((rd_L2 l1 ((rd_T44 l0_0 x25_1).f0)).length : Int) (wrap64 (x41_2 + 1)) l0_0 a0_1 ((rd_T44 l0_0 x25_1).f0) ((rd_T44 l0_0 x25_1).f1)) = some (r1, r2, r3) := by first | (rw [hy114]; with_reducible exact H) | (have H2_ := (Option.bind_some _ _).symm.trans H; rw [hy114]; with_reducible exact H2_) | (have H2_ := (Option.bind_some _ _).symm.trans H; with_reducible exact H2_) | with_reducible exact H | (rw [hy114]; exact H) | exact H
                  have Ny114 := Aside0.mk hy114
                  clear hy114
                  have H' := Aside0.mk H
                  clear H
                  have p113 : 0 ≤ (x41_2 : Int) := oD
                  have q113 : x41_2 < ((rd_L2 l1 ((rd_T44 l0_0 x25_1).f0)).length : Int) := oD
                  obtain ⟨ad113, e113, hx113_0⟩ := Kd.at_int HR112_0.out x41_2 p113 q113
                  cases e113
                  replace hx113_0 := (HB.out.cell (World.block_lt_of_cell? w _ hx113_0)).trans hx113_0
                  replace p113 := eq_true p113
                  replace q113 := eq_true q113
                  have hnb33 := NB111_101.out
                  have hnc33 := NB101_111.out
                  have hnb34 := NB111_102.out
                  have hnc34 := NB102_111.out
                  have hcz35_0 : wr.cell? ⟨gb111, 0, none⟩ = some (.int .i64 ((rd_T44 l0_0 x25_1).f0)) := (blk_cell BK111.out 0).trans rfl
                  have hcz35_1 : wr.cell? ⟨gb111, 1, none⟩ = some (.int .i64 ((rd_T44 l0_0 x25_1).f1)) := (blk_cell BK111.out 1).trans rfl
                  have hfz35_0 := blk_frozen BK111.out 0
                  have hfz35_1 := blk_frozen BK111.out 1
                  go_wp2_with (first | ((with_reducible refine gate_builtin (b := .append) (xs := #[.tmp 45, .tmp 50]) rfl ?_); at_builtin; refine Kd.R_append k44 (w0 := w) w.heap.size rfl (.tmp 45) (.tmp 50) 28 44 (.agg #[(.int .i64 0), (.int .i64 0)]) 16 rfl Try.underlying28 info44 rfl (by decide) (by omega) u7 x7_2 (⟨rd (rd_L2 l1 ((rd_T44 l0_0 x25_1).f0)) x41_2, ((rd_T44 l0_0 x25_1).f1)⟩ : S44) [.int .i64 (rd (rd_L2 l1 ((rd_T44 l0_0 x25_1).f0)) x41_2), .int .i64 ((rd_T44 l0_0 x25_1).f1)] (fun k_ => k_ ≠ gb111) (fun _ => False) rfl rfl ?aP (fun _ hk => hk.elim) ?aF ?aO ?aB ?aS ?aL ?_; (case aP => exact k44_mkM _ _ _ (⟨rd (rd_L2 l1 ((rd_T44 l0_0 x25_1).f0)) x41_2, ((rd_T44 l0_0 x25_1).f1)⟩ : S44)); (case aB => exact (hB3 HB.out GE101.out GE102.out GE111.out)); (case aF => exact (fun k_ hk => Kd.freshB (g := gb111) (o := .cells #[.int .i64 ((rd_T44 l0_0 x25_1).f0), .int .i64 ((rd_T44 l0_0 x25_1).f1)] 44 (0, 0)) (bK BK111.out) k_ hk)); (case aO => exact (rK HO_7.out)); (case aS => exact (below_size (hB3 HB.out GE101.out GE102.out GE111.out))); (case aL => have := LMc32.out; omega); intro v115 w36 ho hb hg hat; rw [← Ny114.out] at ho; have n0_ := Aside0.mk (blk_grown (g := gb101) (o := .cells #[.slice (some ad110) l0_0.length c0_0, .int .i64 a0_1] 30 (0, 0)) (bK BK101.out) hg (Kd.R_ne HO_7.out BK101.out (by decide))); have n1_ := Aside0.mk (blk_grown (g := gb102) (o := .cells #[.slice none 0 0, .int .i64 x103001_1] 30 (0, 0)) (bK BK102.out) hg (Kd.R_ne HO_7.out BK102.out (by decide))); have n2_ := Aside0.mk (blk_grown (g := gb111) (o := .cells #[.int .i64 ((rd_T44 l0_0 x25_1).f0), .int .i64 ((rd_T44 l0_0 x25_1).f1)] 44 (0, 0)) (bK BK111.out) hg (Kd.R_away HO_7.out (fun _ hk => hk))); have n3_ := Aside0.mk (hb); have n4_ := Aside0.mk (ho); clear BK101 BK102 BK111 HB HO_7; have BK101 := n0_; have BK102 := n1_; have BK111 := n2_; have HB := n3_; have HO116 := n4_; clear n0_ n1_ n2_ n3_ n4_; clear ho hb hg hat))
                  go_roundg k2
                  case measure => have := HK1.out; have := HK2.out; omega
                  case rel => exact ⟨(y114), (wrap64 (x41_2 + 1)), rS, H', ⟨by have := HK1.out; have := HK2.out; omega⟩, ⟨rK HO116.out⟩, ⟨bK BK101.out⟩, ⟨bK BK102.out⟩, ⟨bK BK111.out⟩, ⟨hB3 HB.out GE101.out GE102.out GE111.out⟩⟩
                 ·rw [if_neg c32] at H
                  exact absurd H (by simp)
                ·rw [if_neg c31] at H
                 exact absurd H (by simp)
               ·rw [if_neg c30] at H
                exact absurd H (by simp)
              ·rw [if_neg c29] at H
               have c29b0 : decide (x41_2 < ((rd_L2 l1 ((rd_T44 l0_0 x25_1).f0)).length : Int)) = false := decide_eq_false c29
               clear c29
               have H' := Aside0.mk H
               clear H
               go_wp2
               go_roundg k2
               case measure => have := HK1.out; have := HK2.out; omega
               case rel => exact ⟨(x7_2), (wrap64 (x25_1 + 1)), (x103001_1), rS, H', ⟨by have := HK1.out; have := HK2.out; omega⟩, ⟨by (with_reducible repeat (first | apply Kd.R_alloc | apply Kd.R_drewN | apply Kd.R_drew)); exact Kd.R_mono HO_7.out (fun _ hk => trivial)⟩, ⟨bK BK101.out⟩, ⟨bK BK102.out⟩, ⟨hB3 HB.out GE101.out GE102.out GE111.out⟩⟩
           ·rw [if_neg c24] at H
            exact absurd H (by simp)
          ·rw [if_neg c23] at H
           exact absurd H (by simp)
        ·rw [if_neg c15] at H
         exact absurd H (by simp)
       ·rw [if_neg c14] at H
        exact absurd H (by simp)
      ·rw [if_neg c13] at H
       have c13b0 : decide (x25_1 < (l0_0.length : Int)) = false := decide_eq_false c13
       clear c13
       replace H := Option.bind_eq_some_iff.mp H
       obtain ⟨⟨t105, t108, t109⟩, A370, H⟩ := H
       replace H : (some (t105, t108, t109)) = some (r1, r2, r3) := H
       have A37 := Aside0.mk A370
       clear A370
       simp only [Option.some.injEq, Prod.mk.injEq] at H
       obtain ⟨rfl, rfl, rfl⟩ := H
       have hnb38 := NB101_102.out
       have hnc38 := NB102_101.out
       have hcz39_0 : wr.cell? ⟨gb101, 0, none⟩ = some (.slice A0_0 l0_0.length c0_0) := (blk_cell BK101.out 0).trans rfl
       have hcz39_1 : wr.cell? ⟨gb101, 1, none⟩ = some (.int .i64 a0_1) := (blk_cell BK101.out 1).trans rfl
       have hfz39_0 := blk_frozen BK101.out 0
       have hfz39_1 := blk_frozen BK101.out 1
       obtain ⟨Ao40, co40, eo40⟩ := Kd.R_slice HO_7.out
       subst eo40
       go_wp2_with (first | ((with_reducible refine gate_callee (f := 19) rfl ?_); refine goesL_ (some 57) rfl rfl Try.func19 (by kernel_rfl) rfl #[.slice Ao40 x7_1.length co40, .int .i64 a0_1] rfl aM ?_; (with_reducible refine (fact_Of.calls k1 _ _ x7_1 a0_1 t105 t108 t109 _ ?side1 ?side2 A37.out).mono ?_); (case side1 => exact cK (Kd.R_reads' HO_7.out).2.2); (case side2 => exact (Kd.R_reads' HO_7.out).2.1); rintro e w41 ⟨v106, rfl, ho0, hb⟩; refine ⟨_, rfl, ?_⟩; have n0_ := Aside0.mk (Kd.R_elder' (rK HO_7.out) (Kd.R_base ho0) hb); have n1_ := Aside0.mk (Kd.R_lower (Kd.R_new' ho0 (Kd.R_lt (rK HO_7.out))) (below_size (hB2 HB.out GE101.out GE102.out))); have n2_ := Aside0.mk (blk_below (g := gb101) (o := .cells #[.slice A0_0 l0_0.length c0_0, .int .i64 a0_1] 30 (0, 0)) (bK BK101.out) hb); have n3_ := Aside0.mk (blk_below (g := gb102) (o := .cells #[.slice none 0 0, .int .i64 x103001_1] 30 (0, 0)) (bK BK102.out) hb); have n4_ := Aside0.mk (below_step (hB2 HB.out GE101.out GE102.out) hb); clear HO_7 BK101 BK102 HB; have HO_7 := n0_; have HO107 := n1_; have BK101 := n2_; have BK102 := n3_; have HB := n4_; clear n0_ n1_ n2_ n3_ n4_; (try clear hb); (try clear ho0); obtain ⟨Ao42, co42, eo42⟩ := Kd.R_slice HO107.out; subst eo42; have hcz43_0 : w41.cell? ⟨gb102, 0, none⟩ = some (.slice none 0 0) := (blk_cell BK102.out 0).trans rfl; have hcz43_1 : w41.cell? ⟨gb102, 1, none⟩ = some (.int .i64 x103001_1) := (blk_cell BK102.out 1).trans rfl; have hfz43_0 := blk_frozen BK102.out 0; have hfz43_1 := blk_frozen BK102.out 1))
       refine bodyPost_ret (results_ct rfl _ _ gb102 30 #[.slice Ao42 t105.length co42, .int .i64 t108] (0, 0) _ rfl (by (with_reducible repeat (first | refine blk_drewN ?_ _ | refine blk_drew ?_ | refine blk_alloc ?_ _)); refine blk_put (cs := #[.slice Ao42 t105.length co42, .int .i64 x103001_1]) ?_ 1 _ rfl; (with_reducible repeat (first | refine blk_drewN ?_ _ | refine blk_drew ?_ | refine blk_alloc ?_ _)); refine blk_put (cs := #[.slice none 0 0, .int .i64 x103001_1]) ?_ 0 _ rfl; (with_reducible repeat (first | refine blk_drewN ?_ _ | refine blk_drew ?_ | refine blk_alloc ?_ _)); exact BK102.out) Try.underlying30 rfl (by kernel_rfl)) rfl ?_
       exact ⟨_, by first | rfl | (simp [errW_none, errW_some] <;> rfl) | (simp [*, errW_none, errW_some] <;> rfl), by (with_reducible repeat (first | apply Kd.R_alloc | apply Kd.R_drewN | apply Kd.R_drew)); exact Kd.R_mono (Kd.R_far (p := ⟨gb102, 1, none⟩) (Kd.R_far (p := ⟨gb102, 0, none⟩) (Kd.R_types HO107.out BK102.out (by decide)) (fun _ hk => hk.2) (.slice Ao42 t105.length co42)) (fun _ hk => hk.2) (.int .i64 t108)) (fun _ hk => trivial), hB2 HB.out GE101.out GE102.out⟩
   ·replace c6 := Bool.eq_false_iff.mpr c6
    subst c6
    have H1 : (some (([] : List (S44)), 0, 10)) = some (r1, r2, r3) := by rw [if_neg (show ¬ (false = true) by decide)] at H; exact H
    clear H
    have H := H1
    clear H1
    simp only [Option.some.injEq, Prod.mk.injEq] at H
    obtain ⟨rfl, rfl, rfl⟩ := H
    go_enter Try.func15, Try.ntmps15
    go_wp2_with (first | ((with_reducible refine gate_dst (N := 2) rfl ?_); refine box_event ?hg (N := 2) ?hd (cs := #[.slice A0_0 l0_0.length c0_0, .int .i64 a0_1]) (t := 30) ?hr ?_; (case hd => rfl); (case hg => rfl); (case hr => first | (go_simp; done) | (go_simp; rfl)); intro gb101 hg w44 hbox hb; have n0_ := Aside0.mk (below_step (hB0 HB.out) hb); have n1_ := Aside0.mk (hbox); have n2_ := Aside0.mk ((by rw [hg]; exact (below_size (hB0 HB.out)) : w.heap.size ≤ gb101)); have n3_ := Aside0.mk ((by rw [hg]; exact (below_size (hB0 HB.out)) : w.heap.size ≤ gb101)); clear HB; have HB := n0_; have BK101 := n1_; have GW101 := n2_; have GE101 := n3_; clear n0_ n1_ n2_ n3_; clear hb hbox hg) | ((with_reducible refine gate_dst (N := 4) rfl ?_); refine box_event ?hg (N := 4) ?hd (cs := #[.slice none 0 0, .int .i64 0]) (t := 30) ?hr ?_; (case hd => rfl); (case hg => rfl); (case hr => first | (go_simp; done) | (go_simp; rfl)); intro gb102 hg w45 hbox hb; have n0_ := Aside0.mk (blk_below (g := gb101) (o := .cells #[.slice A0_0 l0_0.length c0_0, .int .i64 a0_1] 30 (0, 0)) (bK BK101.out) hb); have n1_ := Aside0.mk (below_step (hB1 HB.out GE101.out) hb); have n2_ := Aside0.mk (hbox); have n3_ := Aside0.mk ((by rw [hg]; exact (below_size (hB1 HB.out GE101.out)) : w.heap.size ≤ gb102)); have n4_ := Aside0.mk ((by rw [hg]; exact (below_size (hB1 HB.out GE101.out)) : w.heap.size ≤ gb102)); have n5_ := Aside0.mk ((by rw [hg]; exact Nat.ne_of_lt (blk_lt (g := gb101) (o := .cells #[.slice A0_0 l0_0.length c0_0, .int .i64 a0_1] 30 (0, 0)) (bK BK101.out)) : gb101 ≠ gb102)); have n6_ := Aside0.mk ((by rw [hg]; exact Nat.ne_of_gt (blk_lt (g := gb101) (o := .cells #[.slice A0_0 l0_0.length c0_0, .int .i64 a0_1] 30 (0, 0)) (bK BK101.out)) : gb102 ≠ gb101)); clear BK101 HB; have BK101 := n0_; have HB := n1_; have BK102 := n2_; have GW102 := n3_; have GE102 := n4_; have NB101_102 := n5_; have NB102_101 := n6_; clear n0_ n1_ n2_ n3_ n4_ n5_ n6_; clear hb hbox hg; have hnb46 := NB101_102.out; have hnc46 := NB102_101.out; have hcz47_0 : w45.cell? ⟨gb101, 0, none⟩ = some (.slice A0_0 l0_0.length c0_0) := (blk_cell BK101.out 0).trans rfl; have hcz47_1 : w45.cell? ⟨gb101, 1, none⟩ = some (.int .i64 a0_1) := (blk_cell BK101.out 1).trans rfl; have hfz47_0 := blk_frozen BK101.out 0; have hfz47_1 := blk_frozen BK101.out 1) | ((with_reducible refine gate_callee (f := 18) rfl ?_); refine goesL_ (some 13) rfl rfl Try.func18 (by kernel_rfl) rfl #[.agg #[.slice A0_0 l0_0.length c0_0, .int .i64 a0_1]] rfl aM ?_; (with_reducible refine (fact_Check.calls k _ _ l0_0 a0_1 t103 _ ?side1 ?side2 A3.out).mono ?_); (case side1 => repeat (first | exact (Kd.C_below HR0_0.out HB.out) | (with_reducible refine Kd.C_alloc ?_ _) | (with_reducible refine Kd.C_drewN ?_ _) | (with_reducible refine Kd.C_drew ?_))); (case side2 => exact HC0_0.out); rintro e w48 ⟨rfl, hb⟩; refine ⟨_, rfl, ?_⟩; have n0_ := Aside0.mk (blk_below (g := gb101) (o := .cells #[.slice A0_0 l0_0.length c0_0, .int .i64 a0_1] 30 (0, 0)) (bK BK101.out) hb); have n1_ := Aside0.mk (blk_below (g := gb102) (o := .cells #[.slice none 0 0, .int .i64 0] 30 (0, 0)) (bK BK102.out) hb); have n2_ := Aside0.mk (below_step (hB2 HB.out GE101.out GE102.out) hb); clear BK101 BK102 HB; have BK101 := n0_; have BK102 := n1_; have HB := n2_; clear n0_ n1_ n2_; (try clear hb)) | ((with_reducible refine gate_callee (f := 27) rfl ?_); refine goesL_ (some 19) rfl rfl Try.func27 (by kernel_rfl) rfl #[.slice A1 l1.length c1] rfl aM ?_; (with_reducible refine (fact_mapped.calls k _ _ l1 false _ ?side1 ?side2 A5.out).mono ?_); (case side1 => repeat (first | exact (Kd.C_below HR1.out HB.out) | (with_reducible refine Kd.C_alloc ?_ _) | (with_reducible refine Kd.C_drewN ?_ _) | (with_reducible refine Kd.C_drew ?_))); (case side2 => exact HC1.out); rintro e w' ⟨rfl, ⟨nd, rfl⟩⟩; refine ⟨_, rfl, ?_⟩; (try (rw [drewN_self w48]; generalize hq_ : World.drewN w48 _ = w48; have n0_ : Aside0 (w48.heap[gb101]? = some (.cells #[.slice A0_0 l0_0.length c0_0, .int .i64 a0_1] 30 (0, 0))) := ⟨by rw [← hq_]; exact (bK BK101.out)⟩; have n1_ : Aside0 (w48.heap[gb102]? = some (.cells #[.slice none 0 0, .int .i64 0] 30 (0, 0))) := ⟨by rw [← hq_]; exact (bK BK102.out)⟩; have n2_ : Aside0 (Below w.heap.size w w48) := ⟨by rw [← hq_]; exact (hB2 HB.out GE101.out GE102.out)⟩; clear BK101 BK102 HB hq_; have BK101 := n0_; have BK102 := n1_; have HB := n2_; clear n0_ n1_ n2_)); have hcz49_0 : w48.cell? ⟨gb102, 0, none⟩ = some (.slice none 0 0) := (blk_cell BK102.out 0).trans rfl; have hcz49_1 : w48.cell? ⟨gb102, 1, none⟩ = some (.int .i64 0) := (blk_cell BK102.out 1).trans rfl; have hfz49_0 := blk_frozen BK102.out 0; have hfz49_1 := blk_frozen BK102.out 1))
    refine bodyPost_ret (results_ct rfl _ _ gb102 30 #[.slice none 0 0, .int .i64 0] (0, 0) _ rfl (by (with_reducible repeat (first | refine blk_drewN ?_ _ | refine blk_drew ?_ | refine blk_alloc ?_ _)); refine blk_put (cs := #[.slice none 0 0, .int .i64 0]) ?_ 1 _ rfl; (with_reducible repeat (first | refine blk_drewN ?_ _ | refine blk_drew ?_ | refine blk_alloc ?_ _)); refine blk_put (cs := #[.slice none 0 0, .int .i64 0]) ?_ 0 _ rfl; (with_reducible repeat (first | refine blk_drewN ?_ _ | refine blk_drew ?_ | refine blk_alloc ?_ _)); exact BK102.out) Try.underlying30 rfl (by kernel_rfl)) rfl ?_
    exact ⟨_, by first | rfl | (simp [errW_none, errW_some] <;> rfl) | (simp [*, errW_none, errW_some] <;> rfl), by first | exact Kd.R_nil _ _ _ _ _ | exact Kd.N_nil _ _ _ _ _ | exact Kd.V_nil _ _ _ _ _ | exact Kd.Q_nil _ _ _ _ _ | exact Kd.S_nil _ _ _ _ _, hB2 HB.out GE101.out GE102.out⟩
  ·rw [if_neg c4] at H
   have c4b0 : (t103 == 0) = false := beq_eq_false_iff_ne.mpr c4
   have c4b1 : (t103 != 0) = true := bne_iff_ne.mpr c4
   simp only [Option.some.injEq, Prod.mk.injEq] at H
   obtain ⟨rfl, rfl, rfl⟩ := H
   go_enter Try.func15, Try.ntmps15
   go_wp2_with (first | ((with_reducible refine gate_dst (N := 2) rfl ?_); refine box_event ?hg (N := 2) ?hd (cs := #[.slice A0_0 l0_0.length c0_0, .int .i64 a0_1]) (t := 30) ?hr ?_; (case hd => rfl); (case hg => rfl); (case hr => first | (go_simp; done) | (go_simp; rfl)); intro gb101 hg w50 hbox hb; have n0_ := Aside0.mk (below_step (hB0 HB.out) hb); have n1_ := Aside0.mk (hbox); have n2_ := Aside0.mk ((by rw [hg]; exact (below_size (hB0 HB.out)) : w.heap.size ≤ gb101)); have n3_ := Aside0.mk ((by rw [hg]; exact (below_size (hB0 HB.out)) : w.heap.size ≤ gb101)); clear HB; have HB := n0_; have BK101 := n1_; have GW101 := n2_; have GE101 := n3_; clear n0_ n1_ n2_ n3_; clear hb hbox hg) | ((with_reducible refine gate_dst (N := 4) rfl ?_); refine box_event ?hg (N := 4) ?hd (cs := #[.slice none 0 0, .int .i64 0]) (t := 30) ?hr ?_; (case hd => rfl); (case hg => rfl); (case hr => first | (go_simp; done) | (go_simp; rfl)); intro gb102 hg w51 hbox hb; have n0_ := Aside0.mk (blk_below (g := gb101) (o := .cells #[.slice A0_0 l0_0.length c0_0, .int .i64 a0_1] 30 (0, 0)) (bK BK101.out) hb); have n1_ := Aside0.mk (below_step (hB1 HB.out GE101.out) hb); have n2_ := Aside0.mk (hbox); have n3_ := Aside0.mk ((by rw [hg]; exact (below_size (hB1 HB.out GE101.out)) : w.heap.size ≤ gb102)); have n4_ := Aside0.mk ((by rw [hg]; exact (below_size (hB1 HB.out GE101.out)) : w.heap.size ≤ gb102)); have n5_ := Aside0.mk ((by rw [hg]; exact Nat.ne_of_lt (blk_lt (g := gb101) (o := .cells #[.slice A0_0 l0_0.length c0_0, .int .i64 a0_1] 30 (0, 0)) (bK BK101.out)) : gb101 ≠ gb102)); have n6_ := Aside0.mk ((by rw [hg]; exact Nat.ne_of_gt (blk_lt (g := gb101) (o := .cells #[.slice A0_0 l0_0.length c0_0, .int .i64 a0_1] 30 (0, 0)) (bK BK101.out)) : gb102 ≠ gb101)); clear BK101 HB; have BK101 := n0_; have HB := n1_; have BK102 := n2_; have GW102 := n3_; have GE102 := n4_; have NB101_102 := n5_; have NB102_101 := n6_; clear n0_ n1_ n2_ n3_ n4_ n5_ n6_; clear hb hbox hg; have hnb52 := NB101_102.out; have hnc52 := NB102_101.out; have hcz53_0 : w51.cell? ⟨gb101, 0, none⟩ = some (.slice A0_0 l0_0.length c0_0) := (blk_cell BK101.out 0).trans rfl; have hcz53_1 : w51.cell? ⟨gb101, 1, none⟩ = some (.int .i64 a0_1) := (blk_cell BK101.out 1).trans rfl; have hfz53_0 := blk_frozen BK101.out 0; have hfz53_1 := blk_frozen BK101.out 1) | ((with_reducible refine gate_callee (f := 18) rfl ?_); refine goesL_ (some 13) rfl rfl Try.func18 (by kernel_rfl) rfl #[.agg #[.slice A0_0 l0_0.length c0_0, .int .i64 a0_1]] rfl aM ?_; (with_reducible refine (fact_Check.calls k _ _ l0_0 a0_1 t103 _ ?side1 ?side2 A3.out).mono ?_); (case side1 => repeat (first | exact (Kd.C_below HR0_0.out HB.out) | (with_reducible refine Kd.C_alloc ?_ _) | (with_reducible refine Kd.C_drewN ?_ _) | (with_reducible refine Kd.C_drew ?_))); (case side2 => exact HC0_0.out); rintro e w54 ⟨rfl, hb⟩; refine ⟨_, rfl, ?_⟩; have n0_ := Aside0.mk (blk_below (g := gb101) (o := .cells #[.slice A0_0 l0_0.length c0_0, .int .i64 a0_1] 30 (0, 0)) (bK BK101.out) hb); have n1_ := Aside0.mk (blk_below (g := gb102) (o := .cells #[.slice none 0 0, .int .i64 0] 30 (0, 0)) (bK BK102.out) hb); have n2_ := Aside0.mk (below_step (hB2 HB.out GE101.out GE102.out) hb); clear BK101 BK102 HB; have BK101 := n0_; have BK102 := n1_; have HB := n2_; clear n0_ n1_ n2_; (try clear hb); have hcz55_0 : w54.cell? ⟨gb102, 0, none⟩ = some (.slice none 0 0) := (blk_cell BK102.out 0).trans rfl; have hcz55_1 : w54.cell? ⟨gb102, 1, none⟩ = some (.int .i64 0) := (blk_cell BK102.out 1).trans rfl; have hfz55_0 := blk_frozen BK102.out 0; have hfz55_1 := blk_frozen BK102.out 1))
   refine bodyPost_ret (results_ct rfl _ _ gb102 30 #[.slice none 0 0, .int .i64 0] (0, 0) _ rfl (by (with_reducible repeat (first | refine blk_drewN ?_ _ | refine blk_drew ?_ | refine blk_alloc ?_ _)); refine blk_put (cs := #[.slice none 0 0, .int .i64 0]) ?_ 1 _ rfl; (with_reducible repeat (first | refine blk_drewN ?_ _ | refine blk_drew ?_ | refine blk_alloc ?_ _)); refine blk_put (cs := #[.slice none 0 0, .int .i64 0]) ?_ 0 _ rfl; (with_reducible repeat (first | refine blk_drewN ?_ _ | refine blk_drew ?_ | refine blk_alloc ?_ _)); exact BK102.out) Try.underlying30 rfl (by kernel_rfl)) rfl ?_
   exact ⟨_, by first | rfl | (simp [errW_none, errW_some] <;> rfl) | (simp [*, errW_none, errW_some] <;> rfl), by first | exact Kd.R_nil _ _ _ _ _ | exact Kd.N_nil _ _ _ _ _ | exact Kd.V_nil _ _ _ _ _ | exact Kd.Q_nil _ _ _ _ _ | exact Kd.S_nil _ _ _ _ _, hB2 HB.out GE101.out GE102.out⟩
theorem eqA44 (d : Nat) (w : World) (x0 y0 : Int) (x1 y1 : Int) :
   (Op.equalIn (d + 2) 44 (.agg #[.int .i64 x0, .int .i64 x1]) (.agg #[.int .i64 y0, .int .i64 y1])).run Try.prog w = .ok (x0 == y0 && (x1 == y1)) w := by
  refine eqA_of Try.underlying44 (by kernel_rfl) ?_
  refine eqf_cons (by rfl) (by go_simp; rfl) (by go_simp; rfl) (by go_simp) ?_
  exact eqf_last (by rfl) (by go_simp; rfl) (by go_simp; rfl) (by go_simp)
end Go.Proofs.Ytikpfbfeoifmkaa.X
end
section
namespace Go.Proofs.Ytikpfbfeoifmkaa.X
open Go.RowKit Go.Proofs.YtikpfbfeoifmkaaW.PrintWords Go.Proofs.YtikpfbfeoifmkaaW.PrintLast Go.Proofs.YtikpfbfeoifmkaaW.PrintMore
attribute [local go_sem] max2_int min2_int max_two min_two max_three min_three max_four min_four
set_option linter.unusedVariables false
set_option linter.unusedSimpArgs false
attribute [local go_sem high] eqA44
mutual
def timeboundref11_Same.j0 : Nat → Bool → List (S44) → Int → List (S44) → Int → Option (Bool)
  | 0, _, _, _, _, _ => none
  | k + 1, x19, x102000, x102001, x103000, x103001 => if x19 = true then (some false) else (timeboundref11_Same.l0 k 0 x102000 x102001 x103000 x103001)
def timeboundref11_Same.l0 : Nat → Int → List (S44) → Int → List (S44) → Int → Option (Bool)
  | 0, _, _, _, _, _ => none
  | k + 1, x5, x102000, x102001, x103000, x103001 => if x5 < (x102000.length : Int) then (if 0 ≤ x5 then (if x5 < (x103000.length : Int) then (if (!(((rd_T44 x102000 x5).f0) == ((rd_T44 x103000 x5).f0)) || (!(((rd_T44 x102000 x5).f1) == ((rd_T44 x103000 x5).f1)))) = true then (some false) else (timeboundref11_Same.l0 k (wrap64 (x5 + 1)) x102000 x102001 x103000 x103001)) else (none)) else (none)) else (some true)
end
def timeboundref11_Same.f (k : Nat) (l0_0 : List (S44)) (a0_1 : Int) (l1_0 : List (S44)) (a1_1 : Int) : Option (Bool) := if a0_1 = a1_1 then (timeboundref11_Same.j0 k ((l0_0.length : Int) != (l1_0.length : Int)) l0_0 a0_1 l1_0 a1_1) else (timeboundref11_Same.j0 k true l0_0 a0_1 l1_0 a1_1)
theorem timeboundref11_Same.mono_l : ∀ k, (∀ y0 y1 y2 y3 y4, LeO (timeboundref11_Same.j0 k y0 y1 y2 y3 y4) (timeboundref11_Same.j0 (k + 1) y0 y1 y2 y3 y4)) ∧ (∀ y0 y1 y2 y3 y4, LeO (timeboundref11_Same.l0 k y0 y1 y2 y3 y4) (timeboundref11_Same.l0 (k + 1) y0 y1 y2 y3 y4))
  | 0 => ⟨fun _ _ _ _ _ r h => by simp [timeboundref11_Same.j0] at h, fun _ _ _ _ _ r h => by simp [timeboundref11_Same.l0] at h⟩
  | k + 1 => by
   obtain ⟨ih0, ih1⟩ := timeboundref11_Same.mono_l k
   refine ⟨?_, ?_⟩
   ·intro y0 y1 y2 y3 y4
    unfold timeboundref11_Same.j0
    repeat' first
    | (with_reducible exact ih0 _ _ _ _ _)
    | (with_reducible exact ih1 _ _ _ _ _)
    | (with_reducible exact LeO.refl _)
    | (with_reducible exact LeO.none _)
    | (with_reducible refine LeO.ite ?_ ?_)
    | (with_reducible refine LeO.bind ?_ (fun _ => ?_))
    | exact ih0 _ _ _ _ _
    | exact ih1 _ _ _ _ _
    | exact LeO.none _
    | refine LeO.ite ?_ ?_
    | refine LeO.bind ?_ (fun _ => ?_)
   ·intro y0 y1 y2 y3 y4
    unfold timeboundref11_Same.l0
    repeat' first
    | (with_reducible exact ih0 _ _ _ _ _)
    | (with_reducible exact ih1 _ _ _ _ _)
    | (with_reducible exact LeO.refl _)
    | (with_reducible exact LeO.none _)
    | (with_reducible refine LeO.ite ?_ ?_)
    | (with_reducible refine LeO.bind ?_ (fun _ => ?_))
    | exact ih0 _ _ _ _ _
    | exact ih1 _ _ _ _ _
    | exact LeO.none _
    | refine LeO.ite ?_ ?_
    | refine LeO.bind ?_ (fun _ => ?_)
theorem timeboundref11_Same.mono : ∀ a0 a1 a2 a3 k, LeO (timeboundref11_Same.f k a0 a1 a2 a3) (timeboundref11_Same.f (k + 1) a0 a1 a2 a3) := by
  intro a0 a1 a2 a3 k
  obtain ⟨ih0, ih1⟩ := timeboundref11_Same.mono_l k
  unfold timeboundref11_Same.f
  repeat' first
    | (with_reducible exact ih0 _ _ _ _ _)
    | (with_reducible exact ih1 _ _ _ _ _)
    | (with_reducible exact LeO.refl _)
    | (with_reducible exact LeO.none _)
    | (with_reducible refine LeO.ite ?_ ?_)
    | (with_reducible refine LeO.bind ?_ (fun _ => ?_))
    | exact ih0 _ _ _ _ _
    | exact ih1 _ _ _ _ _
    | exact LeO.none _
    | refine LeO.ite ?_ ?_
    | refine LeO.bind ?_ (fun _ => ?_)
set_option maxHeartbeats 8000000 in
set_option maxRecDepth 100000 in
theorem timeboundref11_Same.calls (k : Nat) (A0_0 : Option Addr) (c0_0 : Nat) (l0_0 : List (S44)) (a0_1 : Int) (A1_0 : Option Addr) (c1_0 : Nat) (l1_0 : List (S44)) (a1_1 : Int) (r : Bool) (w : World) (hr0_0 : Kd.C k44 w A0_0 l0_0.length l0_0) (hc0_0 : l0_0.length ≤ c0_0) (hr1_0 : Kd.C k44 w A1_0 l1_0.length l1_0) (hc1_0 : l1_0.length ≤ c1_0) (h : timeboundref11_Same.f k l0_0 a0_1 l1_0 a1_1 = some r) :
   Calls Try.prog 20 #[.agg #[.slice A0_0 l0_0.length c0_0, .int .i64 a0_1], .agg #[.slice A1_0 l1_0.length c1_0, .int .i64 a1_1]] w fun e w' => e = .returned (.bool r) ∧ Below w.heap.size w w' := by
  have hu30 := Try.underlying30
  have hu44 := Try.underlying44
  have HR0_0 := Aside0.mk hr0_0
  have HC0_0 := Aside0.mk hc0_0
  clear hr0_0 hc0_0
  have HR1_0 := Aside0.mk hr1_0
  have HC1_0 := Aside0.mk hc1_0
  clear hr1_0 hc1_0
  have HB := Aside0.mk (Below.refl w.heap.size w)
  have H : (if a0_1 = a1_1 then (timeboundref11_Same.j0 k ((l0_0.length : Int) != (l1_0.length : Int)) l0_0 a0_1 l1_0 a1_1) else (timeboundref11_Same.j0 k true l0_0 a0_1 l1_0 a1_1)) = some r := h
  clear h
  have HC3 := Aside0.mk H
  clear H
  go_enter Try.func20, Try.ntmps20
  go_upto_region 1 with (first | ((with_reducible refine gate_dst (N := 2) rfl ?_); (try (refine gate_guard (by rfl) ?_; dsimp only)); refine box_event ?hg (N := 2) ?hd (cs := #[.slice A0_0 l0_0.length c0_0, .int .i64 a0_1]) (t := 30) ?hr ?_; (case hd => rfl); (case hg => rfl); (case hr => first | (go_simp; done) | (go_simp; rfl)); intro gb101 hg w4 hbox hb; have n0_ := Aside0.mk (below_step (hB0 HB.out) hb); have n1_ := Aside0.mk (hbox); have n2_ := Aside0.mk ((by rw [hg]; exact (below_size (hB0 HB.out)) : w.heap.size ≤ gb101)); have n3_ := Aside0.mk ((by rw [hg]; exact (below_size (hB0 HB.out)) : w.heap.size ≤ gb101)); clear HB; have HB := n0_; have BK101 := n1_; have GW101 := n2_; have GE101 := n3_; clear n0_ n1_ n2_ n3_; clear hb hbox hg) | ((with_reducible refine gate_dst (N := 3) rfl ?_); (try (refine gate_guard (by rfl) ?_; dsimp only)); refine box_event ?hg (N := 3) ?hd (cs := #[.slice A1_0 l1_0.length c1_0, .int .i64 a1_1]) (t := 30) ?hr ?_; (case hd => rfl); (case hg => rfl); (case hr => first | (go_simp; done) | (go_simp; rfl)); intro gb102 hg w5 hbox hb; have n0_ := Aside0.mk (blk_below (g := gb101) (o := .cells #[.slice A0_0 l0_0.length c0_0, .int .i64 a0_1] 30 (0, 0)) (bK BK101.out) hb); have n1_ := Aside0.mk (below_step (hB1 HB.out GE101.out) hb); have n2_ := Aside0.mk (hbox); have n3_ := Aside0.mk ((by rw [hg]; exact (below_size (hB1 HB.out GE101.out)) : w.heap.size ≤ gb102)); have n4_ := Aside0.mk ((by rw [hg]; exact (below_size (hB1 HB.out GE101.out)) : w.heap.size ≤ gb102)); have n5_ := Aside0.mk ((by rw [hg]; exact Nat.ne_of_lt (blk_lt (g := gb101) (o := .cells #[.slice A0_0 l0_0.length c0_0, .int .i64 a0_1] 30 (0, 0)) (bK BK101.out)) : gb101 ≠ gb102)); have n6_ := Aside0.mk ((by rw [hg]; exact Nat.ne_of_gt (blk_lt (g := gb101) (o := .cells #[.slice A0_0 l0_0.length c0_0, .int .i64 a0_1] 30 (0, 0)) (bK BK101.out)) : gb102 ≠ gb101)); clear BK101 HB; have BK101 := n0_; have HB := n1_; have BK102 := n2_; have GW102 := n3_; have GE102 := n4_; have NB101_102 := n5_; have NB102_101 := n6_; clear n0_ n1_ n2_ n3_ n4_ n5_ n6_; clear hb hbox hg))
  repeat (go_quiet (first | ((with_reducible refine gate_dst (N := 2) rfl ?_); (try (refine gate_guard (by rfl) ?_; dsimp only)); refine box_event ?hg (N := 2) ?hd (cs := #[.slice A0_0 l0_0.length c0_0, .int .i64 a0_1]) (t := 30) ?hr ?_; (case hd => rfl); (case hg => rfl); (case hr => first | (go_simp; done) | (go_simp; rfl)); intro gb101 hg w4 hbox hb; have n0_ := Aside0.mk (below_step (hB0 HB.out) hb); have n1_ := Aside0.mk (hbox); have n2_ := Aside0.mk ((by rw [hg]; exact (below_size (hB0 HB.out)) : w.heap.size ≤ gb101)); have n3_ := Aside0.mk ((by rw [hg]; exact (below_size (hB0 HB.out)) : w.heap.size ≤ gb101)); clear HB; have HB := n0_; have BK101 := n1_; have GW101 := n2_; have GE101 := n3_; clear n0_ n1_ n2_ n3_; clear hb hbox hg) | ((with_reducible refine gate_dst (N := 3) rfl ?_); (try (refine gate_guard (by rfl) ?_; dsimp only)); refine box_event ?hg (N := 3) ?hd (cs := #[.slice A1_0 l1_0.length c1_0, .int .i64 a1_1]) (t := 30) ?hr ?_; (case hd => rfl); (case hg => rfl); (case hr => first | (go_simp; done) | (go_simp; rfl)); intro gb102 hg w5 hbox hb; have n0_ := Aside0.mk (blk_below (g := gb101) (o := .cells #[.slice A0_0 l0_0.length c0_0, .int .i64 a0_1] 30 (0, 0)) (bK BK101.out) hb); have n1_ := Aside0.mk (below_step (hB1 HB.out GE101.out) hb); have n2_ := Aside0.mk (hbox); have n3_ := Aside0.mk ((by rw [hg]; exact (below_size (hB1 HB.out GE101.out)) : w.heap.size ≤ gb102)); have n4_ := Aside0.mk ((by rw [hg]; exact (below_size (hB1 HB.out GE101.out)) : w.heap.size ≤ gb102)); have n5_ := Aside0.mk ((by rw [hg]; exact Nat.ne_of_lt (blk_lt (g := gb101) (o := .cells #[.slice A0_0 l0_0.length c0_0, .int .i64 a0_1] 30 (0, 0)) (bK BK101.out)) : gb101 ≠ gb102)); have n6_ := Aside0.mk ((by rw [hg]; exact Nat.ne_of_gt (blk_lt (g := gb101) (o := .cells #[.slice A0_0 l0_0.length c0_0, .int .i64 a0_1] 30 (0, 0)) (bK BK101.out)) : gb102 ≠ gb101)); clear BK101 HB; have BK101 := n0_; have HB := n1_; have BK102 := n2_; have GW102 := n3_; have GE102 := n4_; have NB101_102 := n5_; have NB102_101 := n6_; clear n0_ n1_ n2_ n3_ n4_ n5_ n6_; clear hb hbox hg)); go_upto_region 1 with (first | ((with_reducible refine gate_dst (N := 2) rfl ?_); (try (refine gate_guard (by rfl) ?_; dsimp only)); refine box_event ?hg (N := 2) ?hd (cs := #[.slice A0_0 l0_0.length c0_0, .int .i64 a0_1]) (t := 30) ?hr ?_; (case hd => rfl); (case hg => rfl); (case hr => first | (go_simp; done) | (go_simp; rfl)); intro gb101 hg w4 hbox hb; have n0_ := Aside0.mk (below_step (hB0 HB.out) hb); have n1_ := Aside0.mk (hbox); have n2_ := Aside0.mk ((by rw [hg]; exact (below_size (hB0 HB.out)) : w.heap.size ≤ gb101)); have n3_ := Aside0.mk ((by rw [hg]; exact (below_size (hB0 HB.out)) : w.heap.size ≤ gb101)); clear HB; have HB := n0_; have BK101 := n1_; have GW101 := n2_; have GE101 := n3_; clear n0_ n1_ n2_ n3_; clear hb hbox hg) | ((with_reducible refine gate_dst (N := 3) rfl ?_); (try (refine gate_guard (by rfl) ?_; dsimp only)); refine box_event ?hg (N := 3) ?hd (cs := #[.slice A1_0 l1_0.length c1_0, .int .i64 a1_1]) (t := 30) ?hr ?_; (case hd => rfl); (case hg => rfl); (case hr => first | (go_simp; done) | (go_simp; rfl)); intro gb102 hg w5 hbox hb; have n0_ := Aside0.mk (blk_below (g := gb101) (o := .cells #[.slice A0_0 l0_0.length c0_0, .int .i64 a0_1] 30 (0, 0)) (bK BK101.out) hb); have n1_ := Aside0.mk (below_step (hB1 HB.out GE101.out) hb); have n2_ := Aside0.mk (hbox); have n3_ := Aside0.mk ((by rw [hg]; exact (below_size (hB1 HB.out GE101.out)) : w.heap.size ≤ gb102)); have n4_ := Aside0.mk ((by rw [hg]; exact (below_size (hB1 HB.out GE101.out)) : w.heap.size ≤ gb102)); have n5_ := Aside0.mk ((by rw [hg]; exact Nat.ne_of_lt (blk_lt (g := gb101) (o := .cells #[.slice A0_0 l0_0.length c0_0, .int .i64 a0_1] 30 (0, 0)) (bK BK101.out)) : gb101 ≠ gb102)); have n6_ := Aside0.mk ((by rw [hg]; exact Nat.ne_of_gt (blk_lt (g := gb101) (o := .cells #[.slice A0_0 l0_0.length c0_0, .int .i64 a0_1] 30 (0, 0)) (bK BK101.out)) : gb102 ≠ gb101)); clear BK101 HB; have BK101 := n0_; have HB := n1_; have BK102 := n2_; have GW102 := n3_; have GE102 := n4_; have NB101_102 := n5_; have NB102_101 := n6_; clear n0_ n1_ n2_ n3_ n4_ n5_ n6_; clear hb hbox hg)))
  (try simp only [Act.put, List.setIfInBounds_toArray, List.set_cons_zero, List.set_cons_succ])
  go_cut [19] (fun v19 wc => ∃ (kq : Nat) (x19_2 : Bool), v19 = .bool x19_2 ∧ Aside0 (timeboundref11_Same.j0 kq x19_2 l0_0 a0_1 l1_0 a1_1 = some r) ∧ Aside0 (kq ≤ k) ∧ Aside0 (wc.heap[gb101]? = some (.cells #[(.slice A0_0 l0_0.length c0_0), .int .i64 a0_1] 30 (0, 0))) ∧ Aside0 (wc.heap[gb102]? = some (.cells #[(.slice A1_0 l1_0.length c1_0), .int .i64 a1_1] 30 (0, 0))) ∧ Aside0 (Below w.heap.size w wc))
  case first =>
   have H := HC3.out
   clear HC3
   by_cases c6 : a0_1 = a1_1
   ·rw [if_pos c6] at H
    have c6b0 : (a0_1 == a1_1) = true := beq_iff_eq.mpr c6
    have c6b1 : (a0_1 != a1_1) = false := bne_eq_false_iff_eq.mpr c6
    clear c6
    (first | rw [c6b0] | (simp only [i64_w, i32_w]; rw [c6b0]) | skip)
    have H' := Aside0.mk H
    clear H
    have hnb7 := NB101_102.out
    have hnc7 := NB102_101.out
    have hcz8_0 : w5.cell? ⟨gb101, 0, none⟩ = some (.slice A0_0 l0_0.length c0_0) := (blk_cell BK101.out 0).trans rfl
    have hcz8_1 : w5.cell? ⟨gb101, 1, none⟩ = some (.int .i64 a0_1) := (blk_cell BK101.out 1).trans rfl
    have hfz8_0 := blk_frozen BK101.out 0
    have hfz8_1 := blk_frozen BK101.out 1
    have hcz9_0 : w5.cell? ⟨gb102, 0, none⟩ = some (.slice A1_0 l1_0.length c1_0) := (blk_cell BK102.out 0).trans rfl
    have hcz9_1 : w5.cell? ⟨gb102, 1, none⟩ = some (.int .i64 a1_1) := (blk_cell BK102.out 1).trans rfl
    have hfz9_0 := blk_frozen BK102.out 0
    have hfz9_1 := blk_frozen BK102.out 1
    go_wp2
    repeat (go_quiet (fail); try go_wp2)
    go_meet
    case rel => exact ⟨_, (((l0_0.length : Int) != (l1_0.length : Int))), rS, H', ⟨by first | omega | exact Nat.le_refl _⟩, ⟨bK BK101.out⟩, ⟨bK BK102.out⟩, ⟨hB2 HB.out GE101.out GE102.out⟩⟩
   ·rw [if_neg c6] at H
    have c6b0 : (a0_1 == a1_1) = false := beq_eq_false_iff_ne.mpr c6
    have c6b1 : (a0_1 != a1_1) = true := bne_iff_ne.mpr c6
    (first | rw [c6b0] | (simp only [i64_w, i32_w]; rw [c6b0]) | skip)
    have H' := Aside0.mk H
    clear H
    have hnb10 := NB101_102.out
    have hnc10 := NB102_101.out
    have hcz11_0 : w5.cell? ⟨gb101, 0, none⟩ = some (.slice A0_0 l0_0.length c0_0) := (blk_cell BK101.out 0).trans rfl
    have hcz11_1 : w5.cell? ⟨gb101, 1, none⟩ = some (.int .i64 a0_1) := (blk_cell BK101.out 1).trans rfl
    have hfz11_0 := blk_frozen BK101.out 0
    have hfz11_1 := blk_frozen BK101.out 1
    have hcz12_0 : w5.cell? ⟨gb102, 0, none⟩ = some (.slice A1_0 l1_0.length c1_0) := (blk_cell BK102.out 0).trans rfl
    have hcz12_1 : w5.cell? ⟨gb102, 1, none⟩ = some (.int .i64 a1_1) := (blk_cell BK102.out 1).trans rfl
    have hfz12_0 := blk_frozen BK102.out 0
    have hfz12_1 := blk_frozen BK102.out 1
    go_wp2
    repeat (go_quiet (fail); try go_wp2)
    go_meet
    case rel => exact ⟨_, (true), rS, H', ⟨by first | omega | exact Nat.le_refl _⟩, ⟨bK BK101.out⟩, ⟨bK BK102.out⟩, ⟨hB2 HB.out GE101.out GE102.out⟩⟩
  case rest =>
   clear HC3
   obtain ⟨kq, x19_2, rfl, HA, HJ2, BK101, BK102, HB⟩ := hcut
   cases kq with
   | zero => exact absurd HA.out (by simp [timeboundref11_Same.j0])
   | succ kj2 =>
    have H := HA.out
    clear HA
    simp only [timeboundref11_Same.j0] at H
    by_cases c13 : x19_2 = true
    ·subst c13
     have H1 : (some false) = some r := by rw [if_pos rfl] at H; exact H
     clear H
     have H := H1
     clear H1
     obtain rfl := Option.some.inj H
     go_wp2
     repeat (go_quiet (fail); try go_wp2)
     go_ret
     exact ⟨eW, hB2 HB.out GE101.out GE102.out⟩
    ·replace c13 := Bool.eq_false_iff.mpr c13
     subst c13
     have H1 : (timeboundref11_Same.l0 kj2 0 l0_0 a0_1 l1_0 a1_1) = some r := by rw [if_neg (show ¬ (false = true) by decide)] at H; exact H
     clear H
     have H := H1
     clear H1
     have H' := Aside0.mk H
     clear H
     go_wp2
     repeat (go_quiet (fail); try go_wp2)
     go_loopg [5] kj2 (fun kq v5 w' => ∃ (x5_2 : Int), v5 = .int .i64 x5_2 ∧ Aside0 (timeboundref11_Same.l0 kq x5_2 l0_0 a0_1 l1_0 a1_1 = some r) ∧ Aside0 (kq ≤ kj2) ∧ Aside0 (w'.heap[gb101]? = some (.cells #[(.slice A0_0 l0_0.length c0_0), .int .i64 a0_1] 30 (0, 0))) ∧ Aside0 (w'.heap[gb102]? = some (.cells #[(.slice A1_0 l1_0.length c1_0), .int .i64 a1_1] 30 (0, 0))) ∧ Aside0 (Below w.heap.size w w'))
     case atStart => exact ⟨(0), rS, H', ⟨Nat.le_refl _⟩, ⟨bK BK101.out⟩, ⟨bK BK102.out⟩, ⟨hB2 HB.out GE101.out GE102.out⟩⟩
     case round =>
      clear H'
      try clear c13
      obtain ⟨x5_2, rfl, HA, HK2, BK101, BK102, HB⟩ := hrel
      cases gk with
      | zero => exact absurd HA.out (by simp [timeboundref11_Same.l0])
      | succ k2 =>
       have H := HA.out
       clear HA
       simp only [timeboundref11_Same.l0] at H
       by_cases c14 : x5_2 < (l0_0.length : Int)
       ·rw [if_pos c14] at H
        have c14b0 : decide (x5_2 < (l0_0.length : Int)) = true := decide_eq_true c14
        clear c14
        by_cases c15 : 0 ≤ x5_2
        ·rw [if_pos c15] at H
         have c15b0 : decide (0 ≤ x5_2) = true := decide_eq_true c15
         clear c15
         by_cases c16 : x5_2 < (l1_0.length : Int)
         ·rw [if_pos c16] at H
          have c16b0 : decide (x5_2 < (l1_0.length : Int)) = true := decide_eq_true c16
          clear c16
          by_cases c17 : (!(((rd_T44 l0_0 x5_2).f0) == ((rd_T44 l1_0 x5_2).f0)) || (!(((rd_T44 l0_0 x5_2).f1) == ((rd_T44 l1_0 x5_2).f1)))) = true
          ·rw [if_pos c17] at H
           have c17b0 : (!(((rd_T44 l0_0 x5_2).f0) == ((rd_T44 l1_0 x5_2).f0)) || (!(((rd_T44 l0_0 x5_2).f1) == ((rd_T44 l1_0 x5_2).f1)))) = true := c17
           clear c17
           obtain rfl := Option.some.inj H
           have hnb18 := NB101_102.out
           have hnc18 := NB102_101.out
           have hcz19_0 : wr.cell? ⟨gb101, 0, none⟩ = some (.slice A0_0 l0_0.length c0_0) := (blk_cell BK101.out 0).trans rfl
           have hcz19_1 : wr.cell? ⟨gb101, 1, none⟩ = some (.int .i64 a0_1) := (blk_cell BK101.out 1).trans rfl
           have hfz19_0 := blk_frozen BK101.out 0
           have hfz19_1 := blk_frozen BK101.out 1
           have p103 : 0 ≤ (x5_2 : Int) := oD
           have q103 : x5_2 < (l0_0.length : Int) := oD
           obtain ⟨ad103, e103, hx103_0, hx103_1⟩ := at_T44 HR0_0.out x5_2 p103 q103
           cases e103
           replace hx103_0 := (HB.out.cell (World.block_lt_of_cell? w _ hx103_0)).trans hx103_0
           replace hx103_1 := (HB.out.cell (World.block_lt_of_cell? w _ hx103_1)).trans hx103_1
           replace p103 := eq_true p103
           replace q103 := eq_true q103
           have hcz20_0 : wr.cell? ⟨gb102, 0, none⟩ = some (.slice A1_0 l1_0.length c1_0) := (blk_cell BK102.out 0).trans rfl
           have hcz20_1 : wr.cell? ⟨gb102, 1, none⟩ = some (.int .i64 a1_1) := (blk_cell BK102.out 1).trans rfl
           have hfz20_0 := blk_frozen BK102.out 0
           have hfz20_1 := blk_frozen BK102.out 1
           have p104 : 0 ≤ (x5_2 : Int) := oD
           have q104 : x5_2 < (l1_0.length : Int) := oD
           obtain ⟨ad104, e104, hx104_0, hx104_1⟩ := at_T44 HR1_0.out x5_2 p104 q104
           cases e104
           replace hx104_0 := (HB.out.cell (World.block_lt_of_cell? w _ hx104_0)).trans hx104_0
           replace hx104_1 := (HB.out.cell (World.block_lt_of_cell? w _ hx104_1)).trans hx104_1
           replace p104 := eq_true p104
           replace q104 := eq_true q104
           go_wp2
           repeat (go_quiet (fail); try go_wp2)
           go_ret
           exact ⟨eW, hB2 HB.out GE101.out GE102.out⟩
          ·rw [if_neg c17] at H
           have c17b0 : (!(((rd_T44 l0_0 x5_2).f0) == ((rd_T44 l1_0 x5_2).f0)) || (!(((rd_T44 l0_0 x5_2).f1) == ((rd_T44 l1_0 x5_2).f1)))) = false := by simpa using c17
           clear c17
           have H' := Aside0.mk H
           clear H
           have hnb21 := NB101_102.out
           have hnc21 := NB102_101.out
           have hcz22_0 : wr.cell? ⟨gb101, 0, none⟩ = some (.slice A0_0 l0_0.length c0_0) := (blk_cell BK101.out 0).trans rfl
           have hcz22_1 : wr.cell? ⟨gb101, 1, none⟩ = some (.int .i64 a0_1) := (blk_cell BK101.out 1).trans rfl
           have hfz22_0 := blk_frozen BK101.out 0
           have hfz22_1 := blk_frozen BK101.out 1
           have p103 : 0 ≤ (x5_2 : Int) := oD
           have q103 : x5_2 < (l0_0.length : Int) := oD
           obtain ⟨ad103, e103, hx103_0, hx103_1⟩ := at_T44 HR0_0.out x5_2 p103 q103
           cases e103
           replace hx103_0 := (HB.out.cell (World.block_lt_of_cell? w _ hx103_0)).trans hx103_0
           replace hx103_1 := (HB.out.cell (World.block_lt_of_cell? w _ hx103_1)).trans hx103_1
           replace p103 := eq_true p103
           replace q103 := eq_true q103
           have hcz23_0 : wr.cell? ⟨gb102, 0, none⟩ = some (.slice A1_0 l1_0.length c1_0) := (blk_cell BK102.out 0).trans rfl
           have hcz23_1 : wr.cell? ⟨gb102, 1, none⟩ = some (.int .i64 a1_1) := (blk_cell BK102.out 1).trans rfl
           have hfz23_0 := blk_frozen BK102.out 0
           have hfz23_1 := blk_frozen BK102.out 1
           have p104 : 0 ≤ (x5_2 : Int) := oD
           have q104 : x5_2 < (l1_0.length : Int) := oD
           obtain ⟨ad104, e104, hx104_0, hx104_1⟩ := at_T44 HR1_0.out x5_2 p104 q104
           cases e104
           replace hx104_0 := (HB.out.cell (World.block_lt_of_cell? w _ hx104_0)).trans hx104_0
           replace hx104_1 := (HB.out.cell (World.block_lt_of_cell? w _ hx104_1)).trans hx104_1
           replace p104 := eq_true p104
           replace q104 := eq_true q104
           go_wp2
           repeat (go_quiet (fail); try go_wp2)
           go_roundg k2
           case measure => have := HJ2.out; have := HK2.out; omega
           case rel => exact ⟨(wrap64 (x5_2 + 1)), rS, H', ⟨by have := HJ2.out; have := HK2.out; omega⟩, ⟨bK BK101.out⟩, ⟨bK BK102.out⟩, ⟨hB2 HB.out GE101.out GE102.out⟩⟩
         ·rw [if_neg c16] at H
          exact absurd H (by simp)
        ·rw [if_neg c15] at H
         exact absurd H (by simp)
       ·rw [if_neg c14] at H
        have c14b0 : decide (x5_2 < (l0_0.length : Int)) = false := decide_eq_false c14
        clear c14
        obtain rfl := Option.some.inj H
        have hnb24 := NB101_102.out
        have hnc24 := NB102_101.out
        have hcz25_0 : wr.cell? ⟨gb101, 0, none⟩ = some (.slice A0_0 l0_0.length c0_0) := (blk_cell BK101.out 0).trans rfl
        have hcz25_1 : wr.cell? ⟨gb101, 1, none⟩ = some (.int .i64 a0_1) := (blk_cell BK101.out 1).trans rfl
        have hfz25_0 := blk_frozen BK101.out 0
        have hfz25_1 := blk_frozen BK101.out 1
        go_wp2
        repeat (go_quiet (fail); try go_wp2)
        go_ret
        exact ⟨eW, hB2 HB.out GE101.out GE102.out⟩
end Go.Proofs.Ytikpfbfeoifmkaa.X
end
section
namespace Go.Proofs.Ytikpfbfeoifmkaa.X
open Go.RowKit Go.Proofs.YtikpfbfeoifmkaaW.PrintWords Go.Proofs.YtikpfbfeoifmkaaW.PrintLast Go.Proofs.YtikpfbfeoifmkaaW.PrintMore
attribute [local go_sem] max2_int min2_int max_two min_two max_three min_three max_four min_four
set_option linter.unusedVariables false
set_option linter.unusedSimpArgs false
def timeboundlaw11_awake.j0 : Nat → Bool → Option (Bool)
  | 0, _ => none
  | k + 1, x0 => some x0
def timeboundlaw11_awake.f (k : Nat)  : Option (Bool) := (some (([(⟨2, 1⟩ : S44), (⟨5, (-3)⟩ : S44)] : List (S44)) : List (S44))).bind fun y101 => ((fact_Map.f k y101 0 (([[], [], (([4, 7] : List Int)), [], [], (([1] : List Int))] : List (List Int)))).bind fun bt114 => (if bt114.2.2 = 0 then ((timeboundref11_Same.f k bt114.1 bt114.2.1 (([(⟨1, (-3)⟩ : S44), (⟨4, 1⟩ : S44), (⟨7, 1⟩ : S44)] : List (S44))) 0).bind fun t123 => (if t123 = true then ((fact_Holds.f k y101 0 (([0, 0, 3, 0, 0, 1] : List Int))).bind fun t127 => (timeboundlaw11_awake.j0 k t127)) else (timeboundlaw11_awake.j0 k false))) else (timeboundlaw11_awake.j0 k false)))
theorem timeboundlaw11_awake.mono_l : ∀ k, (∀ y0, LeO (timeboundlaw11_awake.j0 k y0) (timeboundlaw11_awake.j0 (k + 1) y0))
  | 0 => fun _ r h => by simp [timeboundlaw11_awake.j0] at h
  | k + 1 => by
   have ih0 := timeboundlaw11_awake.mono_l k
   ·intro y0
    unfold timeboundlaw11_awake.j0
    repeat' first
    | (with_reducible exact ih0 _)
    | (with_reducible exact fact_Holds.mono _ _ _ _)
    | (with_reducible exact fact_Map.mono _ _ _ _)
    | (with_reducible exact timeboundref11_Same.mono _ _ _ _ _)
    | (with_reducible exact LeO.refl _)
    | (with_reducible exact LeO.none _)
    | (with_reducible refine LeO.ite ?_ ?_)
    | (with_reducible refine LeO.bind ?_ (fun _ => ?_))
    | exact ih0 _
    | exact fact_Holds.mono _ _ _ _
    | exact fact_Map.mono _ _ _ _
    | exact timeboundref11_Same.mono _ _ _ _ _
    | exact LeO.none _
    | refine LeO.ite ?_ ?_
    | refine LeO.bind ?_ (fun _ => ?_)
theorem timeboundlaw11_awake.mono : ∀ k, LeO (timeboundlaw11_awake.f k ) (timeboundlaw11_awake.f (k + 1) ) := by
  intro  k
  have ih0 := timeboundlaw11_awake.mono_l k
  unfold timeboundlaw11_awake.f
  repeat' first
    | (with_reducible exact ih0 _)
    | (with_reducible exact fact_Holds.mono _ _ _ _)
    | (with_reducible exact fact_Map.mono _ _ _ _)
    | (with_reducible exact timeboundref11_Same.mono _ _ _ _ _)
    | (with_reducible exact LeO.refl _)
    | (with_reducible exact LeO.none _)
    | (with_reducible refine LeO.ite ?_ ?_)
    | (with_reducible refine LeO.bind ?_ (fun _ => ?_))
    | exact ih0 _
    | exact fact_Holds.mono _ _ _ _
    | exact fact_Map.mono _ _ _ _
    | exact timeboundref11_Same.mono _ _ _ _ _
    | exact LeO.none _
    | refine LeO.ite ?_ ?_
    | refine LeO.bind ?_ (fun _ => ?_)
set_option maxHeartbeats 8000000 in
set_option maxRecDepth 100000 in
theorem timeboundlaw11_awake.calls (k : Nat)  (r : Bool) (w : World) (h : timeboundlaw11_awake.f k  = some r) :
   Calls Try.prog 9 #[] w fun e w' => e = .returned (.bool r) ∧ Below w.heap.size w w' := by
  have hu44 := Try.underlying44
  have hu30 := Try.underlying30
  have HB := Aside0.mk (Below.refl w.heap.size w)
  have H : ((some (([(⟨2, 1⟩ : S44), (⟨5, (-3)⟩ : S44)] : List (S44)) : List (S44))).bind fun y101 => ((fact_Map.f k y101 0 (([[], [], (([4, 7] : List Int)), [], [], (([1] : List Int))] : List (List Int)))).bind fun bt114 => (if bt114.2.2 = 0 then ((timeboundref11_Same.f k bt114.1 bt114.2.1 (([(⟨1, (-3)⟩ : S44), (⟨4, 1⟩ : S44), (⟨7, 1⟩ : S44)] : List (S44))) 0).bind fun t123 => (if t123 = true then ((fact_Holds.f k y101 0 (([0, 0, 3, 0, 0, 1] : List Int))).bind fun t127 => (timeboundlaw11_awake.j0 k t127)) else (timeboundlaw11_awake.j0 k false))) else (timeboundlaw11_awake.j0 k false)))) = some r := h
  clear h
  obtain ⟨y101, hy101⟩ : ∃ y_ : List (S44), y_ = (([(⟨2, 1⟩ : S44), (⟨5, (-3)⟩ : S44)] : List (S44))) := ⟨_, rfl⟩
  replace H : ((fact_Map.f k y101 0 (([[], [], (([4, 7] : List Int)), [], [], (([1] : List Int))] : List (List Int)))).bind fun bt114 => (if bt114.2.2 = 0 then ((timeboundref11_Same.f k bt114.1 bt114.2.1 (([(⟨1, (-3)⟩ : S44), (⟨4, 1⟩ : S44), (⟨7, 1⟩ : S44)] : List (S44))) 0).bind fun t123 => (if t123 = true then ((fact_Holds.f k y101 0 (([0, 0, 3, 0, 0, 1] : List Int))).bind fun t127 => (timeboundlaw11_awake.j0 k t127)) else (timeboundlaw11_awake.j0 k false))) else (timeboundlaw11_awake.j0 k false))) = some r := by first | (rw [hy101]; with_reducible exact H) | (have H2_ := (Option.bind_some _ _).symm.trans H; rw [hy101]; with_reducible exact H2_) | (have H2_ := (Option.bind_some _ _).symm.trans H; with_reducible exact H2_) | with_reducible exact H | (rw [hy101]; exact H) | exact H
  have Ny101 := Aside0.mk hy101
  clear hy101
  obtain ⟨y105, hy105⟩ : ∃ y_ : List Int, y_ = (([4, 7] : List Int)) := ⟨_, rfl⟩
  replace H : ((fact_Map.f k y101 0 (([[], [], y105, [], [], (([1] : List Int))] : List (List Int)))).bind fun bt114 => (if bt114.2.2 = 0 then ((timeboundref11_Same.f k bt114.1 bt114.2.1 (([(⟨1, (-3)⟩ : S44), (⟨4, 1⟩ : S44), (⟨7, 1⟩ : S44)] : List (S44))) 0).bind fun t123 => (if t123 = true then ((fact_Holds.f k y101 0 (([0, 0, 3, 0, 0, 1] : List Int))).bind fun t127 => (timeboundlaw11_awake.j0 k t127)) else (timeboundlaw11_awake.j0 k false))) else (timeboundlaw11_awake.j0 k false))) = some r := by first | (rw [hy105]; with_reducible exact H) | (have H2_ := (Option.bind_some _ _).symm.trans H; rw [hy105]; with_reducible exact H2_) | (have H2_ := (Option.bind_some _ _).symm.trans H; with_reducible exact H2_) | with_reducible exact H | (rw [hy105]; exact H) | exact H
  have Ny105 := Aside0.mk hy105
  clear hy105
  obtain ⟨y108, hy108⟩ : ∃ y_ : List Int, y_ = (([1] : List Int)) := ⟨_, rfl⟩
  replace H : ((fact_Map.f k y101 0 (([[], [], y105, [], [], y108] : List (List Int)))).bind fun bt114 => (if bt114.2.2 = 0 then ((timeboundref11_Same.f k bt114.1 bt114.2.1 (([(⟨1, (-3)⟩ : S44), (⟨4, 1⟩ : S44), (⟨7, 1⟩ : S44)] : List (S44))) 0).bind fun t123 => (if t123 = true then ((fact_Holds.f k y101 0 (([0, 0, 3, 0, 0, 1] : List Int))).bind fun t127 => (timeboundlaw11_awake.j0 k t127)) else (timeboundlaw11_awake.j0 k false))) else (timeboundlaw11_awake.j0 k false))) = some r := by first | (rw [hy108]; with_reducible exact H) | (have H2_ := (Option.bind_some _ _).symm.trans H; rw [hy108]; with_reducible exact H2_) | (have H2_ := (Option.bind_some _ _).symm.trans H; with_reducible exact H2_) | with_reducible exact H | (rw [hy108]; exact H) | exact H
  have Ny108 := Aside0.mk hy108
  clear hy108
  obtain ⟨y111, hy111⟩ : ∃ y_ : List (List Int), y_ = (([[], [], y105, [], [], y108] : List (List Int))) := ⟨_, rfl⟩
  replace H : ((fact_Map.f k y101 0 y111).bind fun bt114 => (if bt114.2.2 = 0 then ((timeboundref11_Same.f k bt114.1 bt114.2.1 (([(⟨1, (-3)⟩ : S44), (⟨4, 1⟩ : S44), (⟨7, 1⟩ : S44)] : List (S44))) 0).bind fun t123 => (if t123 = true then ((fact_Holds.f k y101 0 (([0, 0, 3, 0, 0, 1] : List Int))).bind fun t127 => (timeboundlaw11_awake.j0 k t127)) else (timeboundlaw11_awake.j0 k false))) else (timeboundlaw11_awake.j0 k false))) = some r := by first | (rw [hy111]; with_reducible exact H) | (have H2_ := (Option.bind_some _ _).symm.trans H; rw [hy111]; with_reducible exact H2_) | (have H2_ := (Option.bind_some _ _).symm.trans H; with_reducible exact H2_) | with_reducible exact H | (rw [hy111]; exact H) | exact H
  have Ny111 := Aside0.mk hy111
  clear hy111
  replace H := Option.bind_eq_some_iff.mp H
  obtain ⟨⟨t114, t117, t118⟩, A10, H⟩ := H
  replace H : (if t118 = 0 then ((timeboundref11_Same.f k t114 t117 (([(⟨1, (-3)⟩ : S44), (⟨4, 1⟩ : S44), (⟨7, 1⟩ : S44)] : List (S44))) 0).bind fun t123 => (if t123 = true then ((fact_Holds.f k y101 0 (([0, 0, 3, 0, 0, 1] : List Int))).bind fun t127 => (timeboundlaw11_awake.j0 k t127)) else (timeboundlaw11_awake.j0 k false))) else (timeboundlaw11_awake.j0 k false)) = some r := H
  have A1 := Aside0.mk A10
  clear A10
  have HC2 := Aside0.mk H
  clear H
  go_enter Try.func9, Try.ntmps9
  go_upto_region 3 with (first | ((with_reducible refine gate_dst (N := 6) rfl ?_); (try (refine gate_guard (by rfl) ?_; dsimp only)); refine Kd.R_lit k44 _ 44 ?hg (N := 6) ?hd (xs := ([(⟨2, 1⟩ : S44), (⟨5, (-3)⟩ : S44)] : List (S44))) (inner := [.int .i64 2, .int .i64 1, .int .i64 5, .int .i64 (-3)]) (ok := fun _ => True) (okp := fun _ => True) ?hr ?hp (fun _ hk => hk) trivial (Below.refl _ _) (Nat.le_refl _) (by simp) ?_; (case hd => rfl); (case hg => rfl); (case hr => first | (go_simp; done) | (go_simp; rfl)); (case hp => exact (Reps.c2 (show Kd.M k44 _ _ _ (⟨2, 1⟩ : S44) [.int .i64 2, .int .i64 1] from (k44_mkM _ _ _ (⟨2, 1⟩ : S44) )) (Reps.c2 (show Kd.M k44 _ _ _ (⟨5, (-3)⟩ : S44) [.int .i64 5, .int .i64 (-3)] from (k44_mkM _ _ _ (⟨5, (-3)⟩ : S44) )) (Reps.none _ _)))); intro v102 w3 ho4 hb hg_ hnew_; clear hg_ hnew_; (first | rw [← Ny101.out] at ho4 | (simp only [Int.reduceToNat] at ho4; rw [← Ny101.out] at ho4)); have n0_ := Aside0.mk (Kd.R_lower ho4 (below_size (hB0 HB.out))); have n1_ := Aside0.mk (below_step (hB0 HB.out) hb); clear HB; have HO103 := n0_; have HB := n1_; clear n0_ n1_; clear hb ho4; obtain ⟨Ao5, co5, eo5⟩ := Kd.R_slice HO103.out; subst eo5) | ((with_reducible refine gate_dst (N := 1) rfl ?_); (try (refine gate_guard (by rfl) ?_; dsimp only)); refine box_event ?hg (N := 1) ?hd (cs := #[.slice none 0 0, .int .i64 0]) (t := 30) ?hr ?_; (case hd => rfl); (case hg => rfl); (case hr => first | (go_simp; done) | (go_simp; rfl)); intro gb104 hg w6 hbox hb; have n0_ := Aside0.mk (Kd.R_below (rK HO103.out) hb); have n1_ := Aside0.mk (below_step (hB0 HB.out) hb); have n2_ := Aside0.mk (hbox); have n3_ := Aside0.mk ((by rw [hg]; exact (below_size (hB0 HB.out)) : w.heap.size ≤ gb104)); have n4_ := Aside0.mk ((by rw [hg]; exact (below_size (hB0 HB.out)) : w.heap.size ≤ gb104)); clear HO103 HB; have HO103 := n0_; have HB := n1_; have BK104 := n2_; have GW104 := n3_; have GE104 := n4_; clear n0_ n1_ n2_ n3_ n4_; clear hb hbox hg; have hcz7_0 : w6.cell? ⟨gb104, 0, none⟩ = some (.slice none 0 0) := (blk_cell BK104.out 0).trans rfl; have hcz7_1 : w6.cell? ⟨gb104, 1, none⟩ = some (.int .i64 0) := (blk_cell BK104.out 1).trans rfl; have hfz7_0 := blk_frozen BK104.out 0; have hfz7_1 := blk_frozen BK104.out 1) | ((with_reducible refine gate_dst (N := 10) rfl ?_); (try (refine gate_guard (by rfl) ?_; dsimp only)); refine Kd.R_lit (Kd.int .i64) _ 3 ?hg (N := 10) ?hd (xs := ([4, 7] : List Int)) (inner := [.int .i64 4, .int .i64 7]) (ok := fun _ => True) (okp := fun _ => True) ?hr ?hp (fun _ hk => hk) trivial (Below.refl _ _) (Nat.le_refl _) (by simp) ?_; (case hd => rfl); (case hg => rfl); (case hr => first | (go_simp; done) | (go_simp; rfl)); (case hp => exact (Reps.one (show Kd.M (Kd.int .i64) _ _ _ 4 [.int .i64 4] from rfl) (Reps.one (show Kd.M (Kd.int .i64) _ _ _ 7 [.int .i64 7] from rfl) (Reps.none _ _)))); intro v106 w8 ho9 hb hg_ hnew_; clear hg_ hnew_; (first | rw [← Ny105.out] at ho9 | (simp only [Int.reduceToNat] at ho9; rw [← Ny105.out] at ho9)); have n0_ := Aside0.mk (Kd.R_below (by (with_reducible repeat (first | apply Kd.R_alloc | apply Kd.R_drewN | apply Kd.R_drew)); exact (Kd.R_mono (Kd.R_far (p := ⟨gb104, 1, none⟩) (Kd.R_far (p := ⟨gb104, 0, none⟩) (Kd.R_types HO103.out BK104.out (by decide)) (fun _ hk => hk.2) (.slice Ao5 y101.length co5)) (fun _ hk => hk.2) (.int .i64 0)) (fun _ h_ => h_.1))) hb); have n1_ := Aside0.mk (Kd.R_lower ho9 (below_size (hB1 HB.out GE104.out))); have n2_ := Aside0.mk (blk_below (g := gb104) (o := .cells #[.slice Ao5 y101.length co5, .int .i64 0] 30 (0, 0)) (by (with_reducible repeat (first | refine blk_drewN ?_ _ | refine blk_drew ?_ | refine blk_alloc ?_ _)); refine blk_put (cs := #[.slice Ao5 y101.length co5, .int .i64 0]) ?_ 1 _ rfl; (with_reducible repeat (first | refine blk_drewN ?_ _ | refine blk_drew ?_ | refine blk_alloc ?_ _)); refine blk_put (cs := #[.slice none 0 0, .int .i64 0]) ?_ 0 _ rfl; (with_reducible repeat (first | refine blk_drewN ?_ _ | refine blk_drew ?_ | refine blk_alloc ?_ _)); exact BK104.out) hb); have n3_ := Aside0.mk (below_step (hB1 HB.out GE104.out) hb); clear HO103 BK104 HB; have HO103 := n0_; have HO107 := n1_; have BK104 := n2_; have HB := n3_; clear n0_ n1_ n2_ n3_; clear hb ho9) | ((with_reducible refine gate_dst (N := 11) rfl ?_); (try (refine gate_guard (by rfl) ?_; dsimp only)); refine Kd.R_lit (Kd.int .i64) _ 3 ?hg (N := 11) ?hd (xs := ([1] : List Int)) (inner := [.int .i64 1]) (ok := fun _ => True) (okp := fun _ => True) ?hr ?hp (fun _ hk => hk) trivial (Below.refl _ _) (Nat.le_refl _) (by simp) ?_; (case hd => rfl); (case hg => rfl); (case hr => first | (go_simp; done) | (go_simp; rfl)); (case hp => exact (Reps.one (show Kd.M (Kd.int .i64) _ _ _ 1 [.int .i64 1] from rfl) (Reps.none _ _))); intro v109 w10 ho11 hb hg_ hnew_; clear hg_ hnew_; (first | rw [← Ny108.out] at ho11 | (simp only [Int.reduceToNat] at ho11; rw [← Ny108.out] at ho11)); have n0_ := Aside0.mk (Kd.R_below (rK HO103.out) hb); have n1_ := Aside0.mk (Kd.R_elder' (rK HO107.out) (Kd.R_base ho11) hb); have n2_ := Aside0.mk (Kd.R_lower (Kd.R_new' ho11 (Kd.R_lt (rK HO107.out))) (below_size (hB1 HB.out GE104.out))); have n3_ := Aside0.mk (blk_below (g := gb104) (o := .cells #[.slice Ao5 y101.length co5, .int .i64 0] 30 (0, 0)) (bK BK104.out) hb); have n4_ := Aside0.mk (below_step (hB1 HB.out GE104.out) hb); clear HO103 HO107 BK104 HB; have HO103 := n0_; have HO107 := n1_; have HO110 := n2_; have BK104 := n3_; have HB := n4_; clear n0_ n1_ n2_ n3_ n4_; clear hb ho11; obtain ⟨Ao12, co12, eo12⟩ := Kd.R_slice HO107.out; subst eo12; obtain ⟨Ao13, co13, eo13⟩ := Kd.R_slice HO110.out; subst eo13) | ((with_reducible refine gate_dst (N := 12) rfl ?_); (try (refine gate_guard (by rfl) ?_; dsimp only)); refine Kd.N_lit (Kd.slice 3 (Kd.int .i64)) _ 22 ?hg (N' := 12) ?hd (xs := ([[], [], y105, [], [], y108] : List (List Int))) (inner := [.slice none 0 0, .slice none 0 0, .slice Ao12 y105.length co12, .slice none 0 0, .slice none 0 0, .slice Ao13 y108.length co13]) (ok := (fun k_ => some k_ ≠ (.slice Ao5 y101.length co5 : Value).ownBlock ∧ k_ ≠ gb104)) (okp := (fun k_ => some k_ ≠ (.slice Ao5 y101.length co5 : Value).ownBlock ∧ k_ ≠ gb104)) ?hr ?hp (fun _ hk => hk) ((show ∀ k_, w10.heap.size ≤ k_ → (fun k_ => some k_ ≠ (.slice Ao5 y101.length co5 : Value).ownBlock ∧ k_ ≠ gb104) k_ from fun k_ hk => ⟨Kd.fresh' (Kd.R_lt (rK HO103.out)) k_ hk, Kd.freshB (g := gb104) (o := .cells #[.slice Ao5 y101.length co5, .int .i64 0] 30 (0, 0)) (bK BK104.out) k_ hk⟩) _ (Nat.le_refl _)) (Below.refl _ _) (Nat.le_refl _) (by simp) ?_; (case hd => rfl); (case hg => rfl); (case hr => first | (go_simp; done) | (go_simp; rfl)); (case hp => exact (Reps.one (show Kd.FK (Kd.slice 3 (Kd.int .i64)) _ _ [] [.slice none 0 0] from (Kd.FK_slice_mk (Nat.le_refl _) (Kd.F_nil _ _ _))) (Reps.one (show Kd.FK (Kd.slice 3 (Kd.int .i64)) _ _ [] [.slice none 0 0] from (Kd.FK_slice_mk (Nat.le_refl _) (Kd.F_nil _ _ _))) (Reps.one (show Kd.FK (Kd.slice 3 (Kd.int .i64)) _ _ y105 [.slice Ao12 y105.length co12] from (Kd.FK_slice_mk (Kd.R_reads' (Kd.R_mono (ok' := (fun k_ => some k_ ≠ (.slice Ao5 y101.length co5 : Value).ownBlock ∧ k_ ≠ gb104)) (Kd.R_types (Kd.R_apart' (HO107.out) (Kd.R_typed HO103.out) (by decide)) BK104.out (by decide)) (fun k_ hk => ⟨hk.1.2, hk.2⟩))).2.1 (Kd.R_F (Kd.R_mono (ok' := (fun k_ => some k_ ≠ (.slice Ao5 y101.length co5 : Value).ownBlock ∧ k_ ≠ gb104)) (Kd.R_types (Kd.R_apart' (HO107.out) (Kd.R_typed HO103.out) (by decide)) BK104.out (by decide)) (fun k_ hk => ⟨hk.1.2, hk.2⟩))))) (Reps.one (show Kd.FK (Kd.slice 3 (Kd.int .i64)) _ _ [] [.slice none 0 0] from (Kd.FK_slice_mk (Nat.le_refl _) (Kd.F_nil _ _ _))) (Reps.one (show Kd.FK (Kd.slice 3 (Kd.int .i64)) _ _ [] [.slice none 0 0] from (Kd.FK_slice_mk (Nat.le_refl _) (Kd.F_nil _ _ _))) (Reps.one (show Kd.FK (Kd.slice 3 (Kd.int .i64)) _ _ y108 [.slice Ao13 y108.length co13] from (Kd.FK_slice_mk (Kd.R_reads' (Kd.R_mono (ok' := (fun k_ => some k_ ≠ (.slice Ao5 y101.length co5 : Value).ownBlock ∧ k_ ≠ gb104)) (Kd.R_types (Kd.R_apart' (HO110.out) (Kd.R_typed HO103.out) (by decide)) BK104.out (by decide)) (fun k_ hk => ⟨hk.1.2, hk.2⟩))).2.1 (Kd.R_F (Kd.R_mono (ok' := (fun k_ => some k_ ≠ (.slice Ao5 y101.length co5 : Value).ownBlock ∧ k_ ≠ gb104)) (Kd.R_types (Kd.R_apart' (HO110.out) (Kd.R_typed HO103.out) (by decide)) BK104.out (by decide)) (fun k_ hk => ⟨hk.1.2, hk.2⟩))))) (Reps.none _ _)))))))); intro v112 w14 ho15 hb hg_ hnew_; clear hg_ hnew_; (first | rw [← Ny111.out] at ho15 | (simp only [Int.reduceToNat] at ho15; rw [← Ny111.out] at ho15)); have n0_ := Aside0.mk (Kd.R_below (rK HO103.out) hb); have n1_ := Aside0.mk (Kd.N_lower ho15 (below_size (hB1 HB.out GE104.out))); have n2_ := Aside0.mk (blk_below (g := gb104) (o := .cells #[.slice Ao5 y101.length co5, .int .i64 0] 30 (0, 0)) (bK BK104.out) hb); have n3_ := Aside0.mk (below_step (hB1 HB.out GE104.out) hb); clear HO103 BK104 HB HO107 HO110; have HO103 := n0_; have HO113 := n1_; have BK104 := n2_; have HB := n3_; clear n0_ n1_ n2_ n3_; clear hb ho15; obtain ⟨Ao16, co16, eo16⟩ := Kd.N_slice HO113.out; subst eo16) | ((with_reducible refine gate_callee (f := 15) rfl ?_); refine goesL_ (some 13) rfl rfl Try.func15 (by kernel_rfl) rfl #[.agg #[.slice Ao5 y101.length co5, .int .i64 0], .slice Ao16 y111.length co16] rfl aM ?_; (with_reducible refine (fact_Map.calls k _ _ y101 0 _ _ y111 t114 t117 t118 _ ?side1 ?side2 ?side3 ?side4 A1.out).mono ?_); (case side1 => exact cK (Kd.R_reads' HO103.out).2.2); (case side2 => exact (Kd.R_reads' HO103.out).2.1); (case side3 => repeat (first | exact (Kd.N_reads' HO113.out).2.2 | (with_reducible refine Kd.C_alloc ?_ _) | (with_reducible refine Kd.C_drewN ?_ _) | (with_reducible refine Kd.C_drew ?_))); (case side4 => exact (Kd.N_reads' HO113.out).2.1); rintro e w17 ⟨v115, rfl, ho0, hb⟩; refine ⟨_, rfl, ?_⟩; have n0_ := Aside0.mk (Kd.R_elder' (rK HO103.out) (Kd.R_base ho0) hb); have n1_ := Aside0.mk (Kd.N_elder' (by (with_reducible repeat (first | apply Kd.N_alloc | apply Kd.N_drewN | apply Kd.N_drew)); exact HO113.out) (Kd.R_base ho0) hb); have n2_ := Aside0.mk (Kd.R_lower (Kd.R_new' ho0 (Kd.R_lt (rK HO103.out))) (below_size (hB1 HB.out GE104.out))); have n3_ := Aside0.mk (blk_below (g := gb104) (o := .cells #[.slice Ao5 y101.length co5, .int .i64 0] 30 (0, 0)) (bK BK104.out) hb); have n4_ := Aside0.mk (below_step (hB1 HB.out GE104.out) hb); clear HO103 HO113 BK104 HB; have HO103 := n0_; have HO113 := n1_; have HO116 := n2_; have BK104 := n3_; have HB := n4_; clear n0_ n1_ n2_ n3_ n4_; (try clear hb); (try clear ho0)) | ((with_reducible refine gate_dst (N := 2) rfl ?_); (try (refine gate_guard (by rfl) ?_; dsimp only)); refine box_event ?hg (N := 2) ?hd (cs := #[.slice none 0 0, .int .i64 0]) (t := 30) ?hr ?_; (case hd => rfl); (case hg => rfl); (case hr => first | (go_simp; done) | (go_simp; rfl)); intro gb119 hg w18 hbox hb; have n0_ := Aside0.mk (Kd.R_below (rK HO103.out) hb); have n1_ := Aside0.mk (Kd.N_below (Kd.N_elderB (by (with_reducible repeat (first | apply Kd.N_alloc | apply Kd.N_drewN | apply Kd.N_drew)); exact HO113.out) gb119 (Nat.le_of_eq hg.symm)) hb); have n2_ := Aside0.mk (Kd.R_below (rK HO116.out) hb); have n3_ := Aside0.mk (blk_below (g := gb104) (o := .cells #[.slice Ao5 y101.length co5, .int .i64 0] 30 (0, 0)) (bK BK104.out) hb); have n4_ := Aside0.mk (below_step (hB1 HB.out GE104.out) hb); have n5_ := Aside0.mk (hbox); have n6_ := Aside0.mk ((by rw [hg]; exact (below_size (hB1 HB.out GE104.out)) : w.heap.size ≤ gb119)); have n7_ := Aside0.mk ((by rw [hg]; exact (below_size (hB1 HB.out GE104.out)) : w.heap.size ≤ gb119)); have n8_ := Aside0.mk ((by rw [hg]; exact Nat.ne_of_lt (blk_lt (g := gb104) (o := .cells #[.slice Ao5 y101.length co5, .int .i64 0] 30 (0, 0)) (bK BK104.out)) : gb104 ≠ gb119)); have n9_ := Aside0.mk ((by rw [hg]; exact Nat.ne_of_gt (blk_lt (g := gb104) (o := .cells #[.slice Ao5 y101.length co5, .int .i64 0] 30 (0, 0)) (bK BK104.out)) : gb119 ≠ gb104)); clear HO103 HO113 HO116 BK104 HB; have HO103 := n0_; have HO113 := n1_; have HO116 := n2_; have BK104 := n3_; have HB := n4_; have BK119 := n5_; have GW119 := n6_; have GE119 := n7_; have NB104_119 := n8_; have NB119_104 := n9_; clear n0_ n1_ n2_ n3_ n4_ n5_ n6_ n7_ n8_ n9_; clear hb hbox hg; obtain ⟨Ao19, co19, eo19⟩ := Kd.R_slice HO116.out; subst eo19; have hnb20 := NB119_104.out; have hnc20 := NB104_119.out; have hcz21_0 : w18.cell? ⟨gb119, 0, none⟩ = some (.slice none 0 0) := (blk_cell BK119.out 0).trans rfl; have hcz21_1 : w18.cell? ⟨gb119, 1, none⟩ = some (.int .i64 0) := (blk_cell BK119.out 1).trans rfl; have hfz21_0 := blk_frozen BK119.out 0; have hfz21_1 := blk_frozen BK119.out 1))
  (try simp only [Act.put, List.setIfInBounds_toArray, List.set_cons_zero, List.set_cons_succ])
  go_cut [0] (fun v0 wc => ∃ (kq : Nat) (x0_1 : Bool), v0 = .bool x0_1 ∧ Aside0 (timeboundlaw11_awake.j0 kq x0_1 = some r) ∧ Aside0 (kq ≤ k) ∧ Aside0 (Kd.R k44 44 wc w.heap.size (fun k_ => some k_ ≠ ((.slice Ao19 t114.length co19) : Value).ownBlock) (.slice Ao5 y101.length co5) y101) ∧ Aside0 (Kd.R k44 44 wc w.heap.size (fun k_ => some k_ ≠ ((.slice Ao5 y101.length co5) : Value).ownBlock) (.slice Ao19 t114.length co19) t114) ∧ Aside0 (wc.heap[gb104]? = some (.cells #[(.slice Ao5 y101.length co5), .int .i64 0] 30 (0, 0))) ∧ Aside0 (wc.heap[gb119]? = some (.cells #[(.slice Ao19 t114.length co19), .int .i64 t117] 30 (0, 0))) ∧ Aside0 (Below w.heap.size w wc))
  case first =>
   have H := HC2.out
   clear HC2
   by_cases c22 : t118 = 0
   ·rw [if_pos c22] at H
    have c22b0 : (t118 == 0) = true := beq_iff_eq.mpr c22
    have c22b1 : (t118 != 0) = false := bne_eq_false_iff_eq.mpr c22
    clear c22
    (first | rw [c22b0] | (simp only [i64_w, i32_w]; rw [c22b0]) | skip)
    obtain ⟨y120, hy120⟩ : ∃ y_ : List (S44), y_ = (([(⟨1, (-3)⟩ : S44), (⟨4, 1⟩ : S44), (⟨7, 1⟩ : S44)] : List (S44))) := ⟨_, rfl⟩
    replace H : ((timeboundref11_Same.f k t114 t117 y120 0).bind fun t123 => (if t123 = true then ((fact_Holds.f k y101 0 (([0, 0, 3, 0, 0, 1] : List Int))).bind fun t127 => (timeboundlaw11_awake.j0 k t127)) else (timeboundlaw11_awake.j0 k false))) = some r := by first | (rw [hy120]; with_reducible exact H) | (have H2_ := (Option.bind_some _ _).symm.trans H; rw [hy120]; with_reducible exact H2_) | (have H2_ := (Option.bind_some _ _).symm.trans H; with_reducible exact H2_) | with_reducible exact H | (rw [hy120]; exact H) | exact H
    have Ny120 := Aside0.mk hy120
    clear hy120
    replace H := Option.bind_eq_some_iff.mp H
    obtain ⟨t123, A230, H⟩ := H
    replace H : (if t123 = true then ((fact_Holds.f k y101 0 (([0, 0, 3, 0, 0, 1] : List Int))).bind fun t127 => (timeboundlaw11_awake.j0 k t127)) else (timeboundlaw11_awake.j0 k false)) = some r := H
    have A23 := Aside0.mk A230
    clear A230
    by_cases c24 : t123 = true
    ·subst c24
     have H1 : ((fact_Holds.f k y101 0 (([0, 0, 3, 0, 0, 1] : List Int))).bind fun t127 => (timeboundlaw11_awake.j0 k t127)) = some r := by rw [if_pos rfl] at H; exact H
     clear H
     have H := H1
     clear H1
     obtain ⟨y124, hy124⟩ : ∃ y_ : List Int, y_ = (([0, 0, 3, 0, 0, 1] : List Int)) := ⟨_, rfl⟩
     replace H : ((fact_Holds.f k y101 0 y124).bind fun t127 => (timeboundlaw11_awake.j0 k t127)) = some r := by first | (rw [hy124]; with_reducible exact H) | (have H2_ := (Option.bind_some _ _).symm.trans H; rw [hy124]; with_reducible exact H2_) | (have H2_ := (Option.bind_some _ _).symm.trans H; with_reducible exact H2_) | with_reducible exact H | (rw [hy124]; exact H) | exact H
     have Ny124 := Aside0.mk hy124
     clear hy124
     replace H := Option.bind_eq_some_iff.mp H
     obtain ⟨t127, A250, H⟩ := H
     replace H : (timeboundlaw11_awake.j0 k t127) = some r := H
     have A25 := Aside0.mk A250
     clear A250
     have H' := Aside0.mk H
     clear H
     have hnb26 := NB119_104.out
     have hnc26 := NB104_119.out
     have hcz27_0 : w18.cell? ⟨gb119, 0, none⟩ = some (.slice none 0 0) := (blk_cell BK119.out 0).trans rfl
     have hcz27_1 : w18.cell? ⟨gb119, 1, none⟩ = some (.int .i64 0) := (blk_cell BK119.out 1).trans rfl
     have hfz27_0 := blk_frozen BK119.out 0
     have hfz27_1 := blk_frozen BK119.out 1
     go_wp2_with (first | ((with_reducible refine gate_dst (N := 23) rfl ?_); (try (refine gate_guard (by rfl) ?_; dsimp only)); refine Kd.R_lit k44 _ 44 ?hg (N := 23) ?hd (xs := ([(⟨1, (-3)⟩ : S44), (⟨4, 1⟩ : S44), (⟨7, 1⟩ : S44)] : List (S44))) (inner := [.int .i64 1, .int .i64 (-3), .int .i64 4, .int .i64 1, .int .i64 7, .int .i64 1]) (ok := fun _ => True) (okp := fun _ => True) ?hr ?hp (fun _ hk => hk) trivial (Below.refl _ _) (Nat.le_refl _) (by simp) ?_; (case hd => rfl); (case hg => rfl); (case hr => first | (go_simp; done) | (go_simp; rfl)); (case hp => exact (Reps.c2 (show Kd.M k44 _ _ _ (⟨1, (-3)⟩ : S44) [.int .i64 1, .int .i64 (-3)] from (k44_mkM _ _ _ (⟨1, (-3)⟩ : S44) )) (Reps.c2 (show Kd.M k44 _ _ _ (⟨4, 1⟩ : S44) [.int .i64 4, .int .i64 1] from (k44_mkM _ _ _ (⟨4, 1⟩ : S44) )) (Reps.c2 (show Kd.M k44 _ _ _ (⟨7, 1⟩ : S44) [.int .i64 7, .int .i64 1] from (k44_mkM _ _ _ (⟨7, 1⟩ : S44) )) (Reps.none _ _))))); intro v121 w28 ho29 hb hg_ hnew_; clear hg_ hnew_; (first | rw [← Ny120.out] at ho29 | (simp only [Int.reduceToNat] at ho29; rw [← Ny120.out] at ho29)); have n0_ := Aside0.mk (Kd.R_elder' (by (with_reducible repeat (first | apply Kd.R_alloc | apply Kd.R_drewN | apply Kd.R_drew)); exact (Kd.R_mono (Kd.R_far (p := ⟨gb119, 1, none⟩) (Kd.R_far (p := ⟨gb119, 0, none⟩) (Kd.R_types HO103.out BK119.out (by decide)) (fun _ hk => hk.2) (.slice Ao19 t114.length co19)) (fun _ hk => hk.2) (.int .i64 t117)) (fun _ h_ => h_.1))) (Kd.R_base ho29) hb); have n1_ := Aside0.mk (Kd.N_elder' (by (with_reducible repeat (first | apply Kd.N_alloc | apply Kd.N_drewN | apply Kd.N_drew)); exact (Kd.N_mono (Kd.N_far (p := ⟨gb119, 1, none⟩) (Kd.N_far (p := ⟨gb119, 0, none⟩) (Kd.N_mono HO113.out (fun k_ hk => (⟨hk, hk.2⟩ : _ ∧ k_ ≠ gb119))) (fun _ hk => hk.2) (.slice Ao19 t114.length co19)) (fun _ hk => hk.2) (.int .i64 t117)) (fun _ h_ => h_.1))) (Kd.R_base ho29) hb); have n2_ := Aside0.mk (Kd.R_elder' (by (with_reducible repeat (first | apply Kd.R_alloc | apply Kd.R_drewN | apply Kd.R_drew)); exact (Kd.R_mono (Kd.R_far (p := ⟨gb119, 1, none⟩) (Kd.R_far (p := ⟨gb119, 0, none⟩) (Kd.R_types HO116.out BK119.out (by decide)) (fun _ hk => hk.2) (.slice Ao19 t114.length co19)) (fun _ hk => hk.2) (.int .i64 t117)) (fun _ h_ => h_.1))) (Kd.R_base ho29) hb); have n3_ := Aside0.mk (Kd.R_lower (Kd.R_new' (Kd.R_new' ho29 (Kd.R_lt (by (with_reducible repeat (first | apply Kd.R_alloc | apply Kd.R_drewN | apply Kd.R_drew)); exact (Kd.R_mono (Kd.R_far (p := ⟨gb119, 1, none⟩) (Kd.R_far (p := ⟨gb119, 0, none⟩) (Kd.R_types HO103.out BK119.out (by decide)) (fun _ hk => hk.2) (.slice Ao19 t114.length co19)) (fun _ hk => hk.2) (.int .i64 t117)) (fun _ h_ => h_.1))))) (Kd.R_lt (by (with_reducible repeat (first | apply Kd.R_alloc | apply Kd.R_drewN | apply Kd.R_drew)); exact (Kd.R_mono (Kd.R_far (p := ⟨gb119, 1, none⟩) (Kd.R_far (p := ⟨gb119, 0, none⟩) (Kd.R_types HO116.out BK119.out (by decide)) (fun _ hk => hk.2) (.slice Ao19 t114.length co19)) (fun _ hk => hk.2) (.int .i64 t117)) (fun _ h_ => h_.1))))) (below_size (hB2 HB.out GE104.out GE119.out))); have n4_ := Aside0.mk (blk_below (g := gb104) (o := .cells #[.slice Ao5 y101.length co5, .int .i64 0] 30 (0, 0)) (by (with_reducible repeat (first | refine blk_drewN ?_ _ | refine blk_drew ?_ | refine blk_alloc ?_ _)); refine blk_far ?_ NB104_119.out _; (with_reducible repeat (first | refine blk_drewN ?_ _ | refine blk_drew ?_ | refine blk_alloc ?_ _)); refine blk_far ?_ NB104_119.out _; (with_reducible repeat (first | refine blk_drewN ?_ _ | refine blk_drew ?_ | refine blk_alloc ?_ _)); exact BK104.out) hb); have n5_ := Aside0.mk (blk_below (g := gb119) (o := .cells #[.slice Ao19 t114.length co19, .int .i64 t117] 30 (0, 0)) (by (with_reducible repeat (first | refine blk_drewN ?_ _ | refine blk_drew ?_ | refine blk_alloc ?_ _)); refine blk_put (cs := #[.slice Ao19 t114.length co19, .int .i64 0]) ?_ 1 _ rfl; (with_reducible repeat (first | refine blk_drewN ?_ _ | refine blk_drew ?_ | refine blk_alloc ?_ _)); refine blk_put (cs := #[.slice none 0 0, .int .i64 0]) ?_ 0 _ rfl; (with_reducible repeat (first | refine blk_drewN ?_ _ | refine blk_drew ?_ | refine blk_alloc ?_ _)); exact BK119.out) hb); have n6_ := Aside0.mk (below_step (hB2 HB.out GE104.out GE119.out) hb); clear HO103 HO113 HO116 BK104 BK119 HB; have HO103 := n0_; have HO113 := n1_; have HO116 := n2_; have HO122 := n3_; have BK104 := n4_; have BK119 := n5_; have HB := n6_; clear n0_ n1_ n2_ n3_ n4_ n5_ n6_; clear hb ho29; obtain ⟨Ao30, co30, eo30⟩ := Kd.R_slice HO122.out; subst eo30) | (go_at_call 20; (with_reducible refine (timeboundref11_Same.calls k _ _ t114 t117 _ _ y120 0 true _ ?side1 ?side2 ?side3 ?side4 A23.out).mono ?_); (case side1 => exact cK (Kd.R_reads' HO116.out).2.2); (case side2 => exact (Kd.R_reads' HO116.out).2.1); (case side3 => exact cK (Kd.R_reads' HO122.out).2.2); (case side4 => exact (Kd.R_reads' HO122.out).2.1); rintro e w31 ⟨rfl, hb⟩; have n0_ := Aside0.mk (Kd.R_below (rK HO103.out) hb); have n1_ := Aside0.mk (Kd.N_below (by (with_reducible repeat (first | apply Kd.N_alloc | apply Kd.N_drewN | apply Kd.N_drew)); exact HO113.out) hb); have n2_ := Aside0.mk (Kd.R_below (rK HO116.out) hb); have n3_ := Aside0.mk (Kd.R_below (rK HO122.out) hb); have n4_ := Aside0.mk (blk_below (g := gb104) (o := .cells #[.slice Ao5 y101.length co5, .int .i64 0] 30 (0, 0)) (bK BK104.out) hb); have n5_ := Aside0.mk (blk_below (g := gb119) (o := .cells #[.slice Ao19 t114.length co19, .int .i64 t117] 30 (0, 0)) (bK BK119.out) hb); have n6_ := Aside0.mk (below_step (hB2 HB.out GE104.out GE119.out) hb); clear HO103 HO113 HO116 HO122 BK104 BK119 HB; have HO103 := n0_; have HO113 := n1_; have HO116 := n2_; have HO122 := n3_; have BK104 := n4_; have BK119 := n5_; have HB := n6_; clear n0_ n1_ n2_ n3_ n4_ n5_ n6_; (try clear hb); have hcz32_0 : w31.cell? ⟨gb104, 0, none⟩ = some (.slice Ao5 y101.length co5) := (blk_cell BK104.out 0).trans rfl; have hcz32_1 : w31.cell? ⟨gb104, 1, none⟩ = some (.int .i64 0) := (blk_cell BK104.out 1).trans rfl; have hfz32_0 := blk_frozen BK104.out 0; have hfz32_1 := blk_frozen BK104.out 1) | ((with_reducible refine gate_dst (N := 29) rfl ?_); (try (refine gate_guard (by rfl) ?_; dsimp only)); refine Kd.R_lit (Kd.int .i64) _ 3 ?hg (N := 29) ?hd (xs := ([0, 0, 3, 0, 0, 1] : List Int)) (inner := [.int .i64 0, .int .i64 0, .int .i64 3, .int .i64 0, .int .i64 0, .int .i64 1]) (ok := fun _ => True) (okp := fun _ => True) ?hr ?hp (fun _ hk => hk) trivial (Below.refl _ _) (Nat.le_refl _) (by simp) ?_; (case hd => rfl); (case hg => rfl); (case hr => first | (go_simp; done) | (go_simp; rfl)); (case hp => exact (Reps.one (show Kd.M (Kd.int .i64) _ _ _ 0 [.int .i64 0] from rfl) (Reps.one (show Kd.M (Kd.int .i64) _ _ _ 0 [.int .i64 0] from rfl) (Reps.one (show Kd.M (Kd.int .i64) _ _ _ 3 [.int .i64 3] from rfl) (Reps.one (show Kd.M (Kd.int .i64) _ _ _ 0 [.int .i64 0] from rfl) (Reps.one (show Kd.M (Kd.int .i64) _ _ _ 0 [.int .i64 0] from rfl) (Reps.one (show Kd.M (Kd.int .i64) _ _ _ 1 [.int .i64 1] from rfl) (Reps.none _ _)))))))); intro v125 w33 ho34 hb hg_ hnew_; clear hg_ hnew_; (first | rw [← Ny124.out] at ho34 | (simp only [Int.reduceToNat] at ho34; rw [← Ny124.out] at ho34)); have n0_ := Aside0.mk (Kd.R_below (rK HO103.out) hb); have n1_ := Aside0.mk (Kd.N_elder' (by (with_reducible repeat (first | apply Kd.N_alloc | apply Kd.N_drewN | apply Kd.N_drew)); exact HO113.out) (Kd.R_base ho34) hb); have n2_ := Aside0.mk (Kd.R_below (rK HO116.out) hb); have n3_ := Aside0.mk (Kd.R_below (rK HO122.out) hb); have n4_ := Aside0.mk (Kd.R_lower ho34 (below_size (hB2 HB.out GE104.out GE119.out))); have n5_ := Aside0.mk (blk_below (g := gb104) (o := .cells #[.slice Ao5 y101.length co5, .int .i64 0] 30 (0, 0)) (bK BK104.out) hb); have n6_ := Aside0.mk (blk_below (g := gb119) (o := .cells #[.slice Ao19 t114.length co19, .int .i64 t117] 30 (0, 0)) (bK BK119.out) hb); have n7_ := Aside0.mk (below_step (hB2 HB.out GE104.out GE119.out) hb); clear HO103 HO113 HO116 HO122 BK104 BK119 HB; have HO103 := n0_; have HO113 := n1_; have HO116 := n2_; have HO122 := n3_; have HO126 := n4_; have BK104 := n5_; have BK119 := n6_; have HB := n7_; clear n0_ n1_ n2_ n3_ n4_ n5_ n6_ n7_; clear hb ho34; obtain ⟨Ao35, co35, eo35⟩ := Kd.R_slice HO126.out; subst eo35) | (go_at_call 17; (with_reducible refine (fact_Holds.calls k _ _ y101 0 _ _ y124 t127 _ ?side1 ?side2 ?side3 ?side4 A25.out).mono ?_); (case side1 => exact cK (Kd.R_reads' HO103.out).2.2); (case side2 => exact (Kd.R_reads' HO103.out).2.1); (case side3 => exact cK (Kd.R_reads' HO126.out).2.2); (case side4 => exact (Kd.R_reads' HO126.out).2.1); rintro e w36 ⟨rfl, hb⟩; have n0_ := Aside0.mk (Kd.R_below (rK HO103.out) hb); have n1_ := Aside0.mk (Kd.N_below (by (with_reducible repeat (first | apply Kd.N_alloc | apply Kd.N_drewN | apply Kd.N_drew)); exact HO113.out) hb); have n2_ := Aside0.mk (Kd.R_below (rK HO116.out) hb); have n3_ := Aside0.mk (Kd.R_below (rK HO122.out) hb); have n4_ := Aside0.mk (Kd.R_below (rK HO126.out) hb); have n5_ := Aside0.mk (blk_below (g := gb104) (o := .cells #[.slice Ao5 y101.length co5, .int .i64 0] 30 (0, 0)) (bK BK104.out) hb); have n6_ := Aside0.mk (blk_below (g := gb119) (o := .cells #[.slice Ao19 t114.length co19, .int .i64 t117] 30 (0, 0)) (bK BK119.out) hb); have n7_ := Aside0.mk (below_step (hB2 HB.out GE104.out GE119.out) hb); clear HO103 HO113 HO116 HO122 HO126 BK104 BK119 HB; have HO103 := n0_; have HO113 := n1_; have HO116 := n2_; have HO122 := n3_; have HO126 := n4_; have BK104 := n5_; have BK119 := n6_; have HB := n7_; clear n0_ n1_ n2_ n3_ n4_ n5_ n6_ n7_; (try clear hb)))
     go_meet
     case rel => exact ⟨_, (t127), rS, H', ⟨by first | omega | exact Nat.le_refl _⟩, ⟨by (with_reducible repeat (first | apply Kd.R_alloc | apply Kd.R_drewN | apply Kd.R_drew)); exact Kd.R_mono HO103.out (fun _ hk => hk.1.2)⟩, ⟨by (with_reducible repeat (first | apply Kd.R_alloc | apply Kd.R_drewN | apply Kd.R_drew)); exact Kd.R_mono HO116.out (fun _ hk => hk.1.2)⟩, ⟨bK BK104.out⟩, ⟨bK BK119.out⟩, ⟨hB2 HB.out GE104.out GE119.out⟩⟩
    ·replace c24 := Bool.eq_false_iff.mpr c24
     subst c24
     have H1 : (timeboundlaw11_awake.j0 k false) = some r := by rw [if_neg (show ¬ (false = true) by decide)] at H; exact H
     clear H
     have H := H1
     clear H1
     have H' := Aside0.mk H
     clear H
     have hnb37 := NB119_104.out
     have hnc37 := NB104_119.out
     have hcz38_0 : w18.cell? ⟨gb119, 0, none⟩ = some (.slice none 0 0) := (blk_cell BK119.out 0).trans rfl
     have hcz38_1 : w18.cell? ⟨gb119, 1, none⟩ = some (.int .i64 0) := (blk_cell BK119.out 1).trans rfl
     have hfz38_0 := blk_frozen BK119.out 0
     have hfz38_1 := blk_frozen BK119.out 1
     go_wp2_with (first | ((with_reducible refine gate_dst (N := 23) rfl ?_); (try (refine gate_guard (by rfl) ?_; dsimp only)); refine Kd.R_lit k44 _ 44 ?hg (N := 23) ?hd (xs := ([(⟨1, (-3)⟩ : S44), (⟨4, 1⟩ : S44), (⟨7, 1⟩ : S44)] : List (S44))) (inner := [.int .i64 1, .int .i64 (-3), .int .i64 4, .int .i64 1, .int .i64 7, .int .i64 1]) (ok := fun _ => True) (okp := fun _ => True) ?hr ?hp (fun _ hk => hk) trivial (Below.refl _ _) (Nat.le_refl _) (by simp) ?_; (case hd => rfl); (case hg => rfl); (case hr => first | (go_simp; done) | (go_simp; rfl)); (case hp => exact (Reps.c2 (show Kd.M k44 _ _ _ (⟨1, (-3)⟩ : S44) [.int .i64 1, .int .i64 (-3)] from (k44_mkM _ _ _ (⟨1, (-3)⟩ : S44) )) (Reps.c2 (show Kd.M k44 _ _ _ (⟨4, 1⟩ : S44) [.int .i64 4, .int .i64 1] from (k44_mkM _ _ _ (⟨4, 1⟩ : S44) )) (Reps.c2 (show Kd.M k44 _ _ _ (⟨7, 1⟩ : S44) [.int .i64 7, .int .i64 1] from (k44_mkM _ _ _ (⟨7, 1⟩ : S44) )) (Reps.none _ _))))); intro v121 w39 ho40 hb hg_ hnew_; clear hg_ hnew_; (first | rw [← Ny120.out] at ho40 | (simp only [Int.reduceToNat] at ho40; rw [← Ny120.out] at ho40)); have n0_ := Aside0.mk (Kd.R_elder' (by (with_reducible repeat (first | apply Kd.R_alloc | apply Kd.R_drewN | apply Kd.R_drew)); exact (Kd.R_mono (Kd.R_far (p := ⟨gb119, 1, none⟩) (Kd.R_far (p := ⟨gb119, 0, none⟩) (Kd.R_types HO103.out BK119.out (by decide)) (fun _ hk => hk.2) (.slice Ao19 t114.length co19)) (fun _ hk => hk.2) (.int .i64 t117)) (fun _ h_ => h_.1))) (Kd.R_base ho40) hb); have n1_ := Aside0.mk (Kd.N_elder' (by (with_reducible repeat (first | apply Kd.N_alloc | apply Kd.N_drewN | apply Kd.N_drew)); exact (Kd.N_mono (Kd.N_far (p := ⟨gb119, 1, none⟩) (Kd.N_far (p := ⟨gb119, 0, none⟩) (Kd.N_mono HO113.out (fun k_ hk => (⟨hk, hk.2⟩ : _ ∧ k_ ≠ gb119))) (fun _ hk => hk.2) (.slice Ao19 t114.length co19)) (fun _ hk => hk.2) (.int .i64 t117)) (fun _ h_ => h_.1))) (Kd.R_base ho40) hb); have n2_ := Aside0.mk (Kd.R_elder' (by (with_reducible repeat (first | apply Kd.R_alloc | apply Kd.R_drewN | apply Kd.R_drew)); exact (Kd.R_mono (Kd.R_far (p := ⟨gb119, 1, none⟩) (Kd.R_far (p := ⟨gb119, 0, none⟩) (Kd.R_types HO116.out BK119.out (by decide)) (fun _ hk => hk.2) (.slice Ao19 t114.length co19)) (fun _ hk => hk.2) (.int .i64 t117)) (fun _ h_ => h_.1))) (Kd.R_base ho40) hb); have n3_ := Aside0.mk (Kd.R_lower (Kd.R_new' (Kd.R_new' ho40 (Kd.R_lt (by (with_reducible repeat (first | apply Kd.R_alloc | apply Kd.R_drewN | apply Kd.R_drew)); exact (Kd.R_mono (Kd.R_far (p := ⟨gb119, 1, none⟩) (Kd.R_far (p := ⟨gb119, 0, none⟩) (Kd.R_types HO103.out BK119.out (by decide)) (fun _ hk => hk.2) (.slice Ao19 t114.length co19)) (fun _ hk => hk.2) (.int .i64 t117)) (fun _ h_ => h_.1))))) (Kd.R_lt (by (with_reducible repeat (first | apply Kd.R_alloc | apply Kd.R_drewN | apply Kd.R_drew)); exact (Kd.R_mono (Kd.R_far (p := ⟨gb119, 1, none⟩) (Kd.R_far (p := ⟨gb119, 0, none⟩) (Kd.R_types HO116.out BK119.out (by decide)) (fun _ hk => hk.2) (.slice Ao19 t114.length co19)) (fun _ hk => hk.2) (.int .i64 t117)) (fun _ h_ => h_.1))))) (below_size (hB2 HB.out GE104.out GE119.out))); have n4_ := Aside0.mk (blk_below (g := gb104) (o := .cells #[.slice Ao5 y101.length co5, .int .i64 0] 30 (0, 0)) (by (with_reducible repeat (first | refine blk_drewN ?_ _ | refine blk_drew ?_ | refine blk_alloc ?_ _)); refine blk_far ?_ NB104_119.out _; (with_reducible repeat (first | refine blk_drewN ?_ _ | refine blk_drew ?_ | refine blk_alloc ?_ _)); refine blk_far ?_ NB104_119.out _; (with_reducible repeat (first | refine blk_drewN ?_ _ | refine blk_drew ?_ | refine blk_alloc ?_ _)); exact BK104.out) hb); have n5_ := Aside0.mk (blk_below (g := gb119) (o := .cells #[.slice Ao19 t114.length co19, .int .i64 t117] 30 (0, 0)) (by (with_reducible repeat (first | refine blk_drewN ?_ _ | refine blk_drew ?_ | refine blk_alloc ?_ _)); refine blk_put (cs := #[.slice Ao19 t114.length co19, .int .i64 0]) ?_ 1 _ rfl; (with_reducible repeat (first | refine blk_drewN ?_ _ | refine blk_drew ?_ | refine blk_alloc ?_ _)); refine blk_put (cs := #[.slice none 0 0, .int .i64 0]) ?_ 0 _ rfl; (with_reducible repeat (first | refine blk_drewN ?_ _ | refine blk_drew ?_ | refine blk_alloc ?_ _)); exact BK119.out) hb); have n6_ := Aside0.mk (below_step (hB2 HB.out GE104.out GE119.out) hb); clear HO103 HO113 HO116 BK104 BK119 HB; have HO103 := n0_; have HO113 := n1_; have HO116 := n2_; have HO122 := n3_; have BK104 := n4_; have BK119 := n5_; have HB := n6_; clear n0_ n1_ n2_ n3_ n4_ n5_ n6_; clear hb ho40; obtain ⟨Ao41, co41, eo41⟩ := Kd.R_slice HO122.out; subst eo41) | (go_at_call 20; (with_reducible refine (timeboundref11_Same.calls k _ _ t114 t117 _ _ y120 0 false _ ?side1 ?side2 ?side3 ?side4 A23.out).mono ?_); (case side1 => exact cK (Kd.R_reads' HO116.out).2.2); (case side2 => exact (Kd.R_reads' HO116.out).2.1); (case side3 => exact cK (Kd.R_reads' HO122.out).2.2); (case side4 => exact (Kd.R_reads' HO122.out).2.1); rintro e w42 ⟨rfl, hb⟩; have n0_ := Aside0.mk (Kd.R_below (rK HO103.out) hb); have n1_ := Aside0.mk (Kd.N_below (by (with_reducible repeat (first | apply Kd.N_alloc | apply Kd.N_drewN | apply Kd.N_drew)); exact HO113.out) hb); have n2_ := Aside0.mk (Kd.R_below (rK HO116.out) hb); have n3_ := Aside0.mk (Kd.R_below (rK HO122.out) hb); have n4_ := Aside0.mk (blk_below (g := gb104) (o := .cells #[.slice Ao5 y101.length co5, .int .i64 0] 30 (0, 0)) (bK BK104.out) hb); have n5_ := Aside0.mk (blk_below (g := gb119) (o := .cells #[.slice Ao19 t114.length co19, .int .i64 t117] 30 (0, 0)) (bK BK119.out) hb); have n6_ := Aside0.mk (below_step (hB2 HB.out GE104.out GE119.out) hb); clear HO103 HO113 HO116 HO122 BK104 BK119 HB; have HO103 := n0_; have HO113 := n1_; have HO116 := n2_; have HO122 := n3_; have BK104 := n4_; have BK119 := n5_; have HB := n6_; clear n0_ n1_ n2_ n3_ n4_ n5_ n6_; (try clear hb)))
     go_meet
     case rel => exact ⟨_, (false), rS, H', ⟨by first | omega | exact Nat.le_refl _⟩, ⟨by (with_reducible repeat (first | apply Kd.R_alloc | apply Kd.R_drewN | apply Kd.R_drew)); exact Kd.R_mono HO103.out (fun _ hk => hk.1.2)⟩, ⟨by (with_reducible repeat (first | apply Kd.R_alloc | apply Kd.R_drewN | apply Kd.R_drew)); exact Kd.R_mono HO116.out (fun _ hk => hk.1.2)⟩, ⟨bK BK104.out⟩, ⟨bK BK119.out⟩, ⟨hB2 HB.out GE104.out GE119.out⟩⟩
   ·rw [if_neg c22] at H
    have c22b0 : (t118 == 0) = false := beq_eq_false_iff_ne.mpr c22
    have c22b1 : (t118 != 0) = true := bne_iff_ne.mpr c22
    (first | rw [c22b0] | (simp only [i64_w, i32_w]; rw [c22b0]) | skip)
    have H' := Aside0.mk H
    clear H
    go_wp2
    go_meet
    case rel => exact ⟨_, (false), rS, H', ⟨by first | omega | exact Nat.le_refl _⟩, ⟨by (with_reducible repeat (first | apply Kd.R_alloc | apply Kd.R_drewN | apply Kd.R_drew)); exact Kd.R_mono (Kd.R_far (p := ⟨gb119, 1, none⟩) (Kd.R_far (p := ⟨gb119, 0, none⟩) (Kd.R_types HO103.out BK119.out (by decide)) (fun _ hk => hk.2) (.slice Ao19 t114.length co19)) (fun _ hk => hk.2) (.int .i64 t117)) (fun _ hk => hk.1.2)⟩, ⟨by (with_reducible repeat (first | apply Kd.R_alloc | apply Kd.R_drewN | apply Kd.R_drew)); exact Kd.R_mono (Kd.R_far (p := ⟨gb119, 1, none⟩) (Kd.R_far (p := ⟨gb119, 0, none⟩) (Kd.R_types HO116.out BK119.out (by decide)) (fun _ hk => hk.2) (.slice Ao19 t114.length co19)) (fun _ hk => hk.2) (.int .i64 t117)) (fun _ hk => hk.1.2)⟩, ⟨by (with_reducible repeat (first | refine blk_drewN ?_ _ | refine blk_drew ?_ | refine blk_alloc ?_ _)); refine blk_far ?_ NB104_119.out _; (with_reducible repeat (first | refine blk_drewN ?_ _ | refine blk_drew ?_ | refine blk_alloc ?_ _)); refine blk_far ?_ NB104_119.out _; (with_reducible repeat (first | refine blk_drewN ?_ _ | refine blk_drew ?_ | refine blk_alloc ?_ _)); exact BK104.out⟩, ⟨by (with_reducible repeat (first | refine blk_drewN ?_ _ | refine blk_drew ?_ | refine blk_alloc ?_ _)); refine blk_put (cs := #[.slice Ao19 t114.length co19, .int .i64 0]) ?_ 1 _ rfl; (with_reducible repeat (first | refine blk_drewN ?_ _ | refine blk_drew ?_ | refine blk_alloc ?_ _)); refine blk_put (cs := #[.slice none 0 0, .int .i64 0]) ?_ 0 _ rfl; (with_reducible repeat (first | refine blk_drewN ?_ _ | refine blk_drew ?_ | refine blk_alloc ?_ _)); exact BK119.out⟩, ⟨hB2 HB.out GE104.out GE119.out⟩⟩
  case rest =>
   clear HC2
   try clear c2
   try clear hcz21_0
   try clear hcz21_1
   try clear hcz7_0
   try clear hcz7_1
   try clear hfz21_0
   try clear hfz21_1
   try clear hfz7_0
   try clear hfz7_1
   obtain ⟨kq, x0_1, rfl, HA, HJ1, HO_105000, HO_120000, BK104, BK119, HB⟩ := hcut
   cases kq with
   | zero => exact absurd HA.out (by simp [timeboundlaw11_awake.j0])
   | succ kj1 =>
    have H := HA.out
    clear HA
    simp only [timeboundlaw11_awake.j0] at H
    obtain rfl := Option.some.inj H
    go_wp2
    go_ret
    exact ⟨eW, hB2 HB.out GE104.out GE119.out⟩
def timeboundmake_Mod.f (a0 : Int) (a1 : Int) : Option (Int) := if a1 = 0 then (none) else (some (Int.tmod (wrap64 ((Int.tmod a0 a1) + a1)) a1))
set_option maxHeartbeats 8000000 in
set_option maxRecDepth 100000 in
theorem timeboundmake_Mod.calls (a0 : Int) (a1 : Int) (r : Int) (w : World) (h : timeboundmake_Mod.f a0 a1 = some r) :
   Calls Try.prog 23 #[.int .i64 a0, .int .i64 a1] w fun e w' => e = .returned (.int .i64 r) ∧ Drawn0 w w' := by
  have H : (if a1 = 0 then (none) else (some (Int.tmod (wrap64 ((Int.tmod a0 a1) + a1)) a1))) = some r := h
  clear h
  by_cases c3 : a1 = 0
  ·rw [if_pos c3] at H
   exact absurd H (by simp)
  ·rw [if_neg c3] at H
   have c3b0 : (a1 == 0) = false := beq_eq_false_iff_ne.mpr c3
   have c3b1 : (a1 != 0) = true := bne_iff_ne.mpr c3
   obtain rfl := Option.some.inj H
   go_enter Try.func23, Try.ntmps23
   go_wp2
   go_ret
   exact ⟨by first | rfl | (simp; done) | (simp [*]; done), by repeat (first | exact Drawn0.refl _ | apply Drawn0.step)⟩
def IsS56 (w0 W : World) (g : Nat) (f0 : List Int) (f1 : Int) : Prop := ∃ A0 c0, W.heap[g]? = some (.cells #[.slice A0 f0.length c0, .int .i64 f1] 56 (0, 0)) ∧ w0.heap.size ≤ g ∧ Kd.C (Kd.int .i64) w0 A0 f0.length f0
theorem IsS56.grown {w0 W : World} {g : Nat} {f0 : List Int} {f1 : Int} {W1 : World} {row : Option Nat} (h : IsS56 w0 W g f0 f1) (hw : W.grownBy W1 row) (hne : some g ≠ row) : IsS56 w0 W1 g f0 f1 := by
  obtain ⟨A0, c0, hb, hg, hr0⟩ := h
  exact ⟨A0, c0, blk_grown hb hw hne, hg, hr0⟩
theorem IsS56.kept {w0 W : World} {g : Nat} {f0 : List Int} {f1 : Int} {W1 : World} {S : Nat → Prop} (h : IsS56 w0 W g f0 f1) (hk : Kept W W1 S) (hne : ¬ S g) : IsS56 w0 W1 g f0 f1 := by
  obtain ⟨A0, c0, hb, hg, hr0⟩ := h
  exact ⟨A0, c0, blk_kept hb hk hne, hg, hr0⟩
theorem IsS56.below {w0 W : World} {g : Nat} {f0 : List Int} {f1 : Int} {W1 : World} (h : IsS56 w0 W g f0 f1) (hw : Below W.heap.size W W1) : IsS56 w0 W1 g f0 f1 := h.grown (grown_of_below hw none) (by simp)
theorem IsS56.alloc {w0 W : World} {g : Nat} {f0 : List Int} {f1 : Int} (h : IsS56 w0 W g f0 f1) (o : Obj) : IsS56 w0 (W.alloc o) g f0 f1 := h.below (below_alloc (Below.refl _ _) o)
theorem IsS56.drewN {w0 W : World} {g : Nat} {f0 : List Int} {f1 : Int} (h : IsS56 w0 W g f0 f1) (m : Nat) : IsS56 w0 (W.drewN m) g f0 f1 := h
theorem IsS56.drew {w0 W : World} {g : Nat} {f0 : List Int} {f1 : Int} (h : IsS56 w0 W g f0 f1) : IsS56 w0 W.drew g f0 f1 := h
theorem IsS56.at_ {w0 W : World} {g : Nat} {f0 : List Int} {f1 : Int} {w' : World} {m : Nat} (hq : W.drewN m = w') (h : IsS56 w0 W g f0 f1) : IsS56 w0 w' g f0 f1 := by subst hq; exact IsS56.drewN h m
theorem IsS56.apart {w0 W : World} {g : Nat} {f0 : List Int} {f1 : Int} {α : Type} {d : Kd α} {e : Nat} {base : Nat} {ok : Nat → Prop} {v : Value} {xs : List α} (h : IsS56 w0 W g f0 f1) (ho : d.R e W base ok v xs) (ht : ∀ q, q ∈ e :: d.E → q ≠ 56) : d.R e W base (fun k => ok k ∧ k ≠ g) v xs := by
  obtain ⟨A0, c0, hb, hg, hr0⟩ := h
  exact Kd.R_types ho hb ht
theorem IsS56.own_ne {w0 W : World} {g : Nat} {f0 : List Int} {f1 : Int} {α : Type} {d : Kd α} {e : Nat} {base : Nat} {ok : Nat → Prop} {v : Value} {xs : List α} (h : IsS56 w0 W g f0 f1) (ho : d.R e W base ok v xs) (ht : e ≠ 56) : some g ≠ v.ownBlock := by
  obtain ⟨A0, c0, hb, hg, hr0⟩ := h
  exact Kd.R_ne ho hb ht
theorem IsS56.ge {w0 W : World} {g : Nat} {f0 : List Int} {f1 : Int} (h : IsS56 w0 W g f0 f1) : w0.heap.size ≤ g := by
  obtain ⟨A0, c0, hb, hg, hr0⟩ := h
  exact hg
theorem cellS56_0 {W : World} {g : Nat} {A0 : Option Addr} {c0 : Nat} {f0 : List Int} {f1 : Int} (h : W.heap[g]? = some (.cells #[.slice A0 f0.length c0, .int .i64 f1] 56 (0, 0))) : W.cell? ⟨g, 0, none⟩ = some (.slice A0 f0.length c0) := (blk_cell h 0).trans rfl
theorem cellS56_1 {W : World} {g : Nat} {A0 : Option Addr} {c0 : Nat} {f0 : List Int} {f1 : Int} (h : W.heap[g]? = some (.cells #[.slice A0 f0.length c0, .int .i64 f1] 56 (0, 0))) : W.cell? ⟨g, 1, none⟩ = some (.int .i64 f1) := (blk_cell h 1).trans rfl
theorem IsS56.set_1 {w0 W : World} {g : Nat} {f0 : List Int} {f1 : Int} (h : IsS56 w0 W g f0 f1) (x : Int) : IsS56 w0 (W.setCell ⟨g, 1, none⟩ (.int .i64 x)) g f0 x := by
  obtain ⟨A0, c0, hb, hg, hr0⟩ := h
  exact ⟨A0, c0, by simpa using blk_set hb 1 (.int .i64 x), hg, hr0⟩
def timeboundmake_New.f (l0 : List Int) : Option (List Int × Int) := some (l0, 0)
set_option maxHeartbeats 8000000 in
set_option maxRecDepth 100000 in
theorem timeboundmake_New.calls (A0 : Option Addr) (c0 : Nat) (l0 : List Int) (r1 : List Int) (r2 : Int) (w0 w : World) (hB : Below w0.heap.size w0 w) (hr0 : Kd.C (Kd.int .i64) w0 A0 l0.length l0) (hc0 : l0.length ≤ c0) (h : timeboundmake_New.f l0 = some (r1, r2)) :
   Calls Try.prog 10 #[.slice A0 l0.length c0] w fun e w' => ∃ g_ : Nat, e = .returned (.pointer (some ⟨g_, 0, none⟩)) ∧ IsS56 w0 w' g_ r1 r2 ∧ Below w0.heap.size w0 w' ∧ Below w.heap.size w w' := by
  have hu56 := Try.underlying56
  have HR0 := Aside0.mk hr0
  have HC0 := Aside0.mk hc0
  clear hr0 hc0
  have HBW := Aside0.mk (Below.refl w.heap.size w)
  have HW0 := Aside0.mk hB.size
  have HB := Aside0.mk hB
  clear hB
  have H : (some (l0, 0)) = some (r1, r2) := h
  clear h
  simp only [Option.some.injEq, Prod.mk.injEq] at H
  obtain ⟨rfl, rfl⟩ := H
  go_enter Try.func10, Try.ntmps10
  go_wp2_with (first | ((with_reducible refine gate_dst (N := 5) rfl ?_); refine box_event ?hg (N := 5) ?hd (cs := #[.slice A0 l0.length c0, .int .i64 0]) (t := 56) ?hr ?_; (case hd => rfl); (case hg => rfl); (case hr => first | (go_simp; done) | (go_simp; rfl)); intro gb101 hg w2 hbox hb; have n0_ := Aside0.mk (below_step HBW.out hb); have n1_ := Aside0.mk (below_step (hB0 HB.out) hb); have n2_ := Aside0.mk (hbox); have n3_ := Aside0.mk ((by rw [hg]; exact (below_size (by repeat (first | (with_reducible first | exact HBW.out | apply below_alloc | apply pw_below_drewN | apply below_drew1) | exact HBW.out))) : w.heap.size ≤ gb101)); have n4_ := Aside0.mk ((Nat.le_trans HW0.out (by rw [hg]; exact (below_size (by repeat (first | (with_reducible first | exact HBW.out | apply below_alloc | apply pw_below_drewN | apply below_drew1) | exact HBW.out))) : w.heap.size ≤ gb101) : w0.heap.size ≤ gb101)); clear HBW HB; have HBW := n0_; have HB := n1_; have BK101 := n2_; have GW101 := n3_; have GE101 := n4_; clear n0_ n1_ n2_ n3_ n4_; clear hb hbox hg))
  go_ret
  exact ⟨_, rfl, (show IsS56 w0 _ gb101 l0 0 from ⟨_, _, by (with_reducible repeat (first | refine blk_drewN ?_ _ | refine blk_drew ?_ | refine blk_alloc ?_ _)); exact BK101.out, GE101.out, HR0.out⟩), hB1 HB.out GE101.out, by repeat (first | (with_reducible first | exact HBW.out | apply below_alloc | apply pw_below_drewN | apply below_drew1 | refine below_set ?_ GW101.out) | exact HBW.out)⟩
section
variable {P Q A B C : Prop}
theorem IsS56.k0 (q : Q) (h : Q → P := by intro q; repeat (first | (with_reducible first | exact q | apply IsS56.alloc | apply IsS56.drewN | apply IsS56.drew | apply IsS56.set_1) | exact q)) : P := h q
end
end Go.Proofs.Ytikpfbfeoifmkaa.X
end
