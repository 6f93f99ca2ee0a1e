/- Part 2 of the walks and lemmas for the law that the last text proves. -/
import Derived.Test.YtikpfbfeoifmkaaFactGoesAlongPart1
section
namespace Go.Proofs.Ytikpfbfeoifmkaa.X
open Go.RowKit Go.Proofs.YtikpfbfeoifmkaaW.PrintWords Go.Proofs.YtikpfbfeoifmkaaW.PrintLast Go.Proofs.YtikpfbfeoifmkaaW.PrintMore
attribute [local go_sem] max2_int min2_int max_two min_two max_three min_three max_four min_four
set_option linter.unusedVariables false
set_option linter.unusedSimpArgs false
mutual
def fact_Check.l0 : Nat → List (S44) → Int → Int → List (S44) → Int → Option (Int)
  | 0, _, _, _, _, _ => none
  | k + 1, x10, x11, x12, x102000, x102001 => if x12 < x11 then (if 0 ≤ x12 then (if x12 < (x10.length : Int) then ((fact_block.f ((rd_T44 x10 x12).f0)).bind fun t105 => (if t105 = true then ((fact_small.f ((rd_T44 x10 x12).f1)).bind fun t106 => (if t106 = true then (if ((rd_T44 x10 x12).f1) = 0 then (fact_Check.j1 k x10 x11 x12 true x102000 x102001) else (if x12 > 0 then (if 0 ≤ (wrap64 (x12 - 1)) then (if (wrap64 (x12 - 1)) < (x102000.length : Int) then (fact_Check.j1 k x10 x11 x12 (decide (((rd_T44 x10 x12).f0) ≤ ((rd_T44 x102000 (wrap64 (x12 - 1))).f0))) x102000 x102001) else (none)) else (none)) else (fact_Check.j1 k x10 x11 x12 false x102000 x102001))) else (fact_Check.j1 k x10 x11 x12 true x102000 x102001))) else (fact_Check.j1 k x10 x11 x12 true x102000 x102001))) else (none)) else (none)) else ((fact_small.f x102001).bind fun t102 => (if t102 = true then (some 0) else (some 10)))
def fact_Check.j1 : Nat → List (S44) → Int → Int → Bool → List (S44) → Int → Option (Int)
  | 0, _, _, _, _, _, _ => none
  | k + 1, x10, x11, x12, x47, x102000, x102001 => if x47 = true then (some 10) else (fact_Check.l0 k x10 x11 (wrap64 (x12 + 1)) x102000 x102001)
end
def fact_Check.f (k : Nat) (l0_0 : List (S44)) (a0_1 : Int) : Option (Int) := if (l0_0.length : Int) > 64 then (some 4) else (fact_Check.l0 k l0_0 (l0_0.length : Int) 0 l0_0 a0_1)
theorem fact_Check.mono_l : ∀ k, (∀ y0 y1 y2 y3 y4, LeO (fact_Check.l0 k y0 y1 y2 y3 y4) (fact_Check.l0 (k + 1) y0 y1 y2 y3 y4)) ∧ (∀ y0 y1 y2 y3 y4 y5, LeO (fact_Check.j1 k y0 y1 y2 y3 y4 y5) (fact_Check.j1 (k + 1) y0 y1 y2 y3 y4 y5))
  | 0 => ⟨fun _ _ _ _ _ r h => by simp [fact_Check.l0] at h, fun _ _ _ _ _ _ r h => by simp [fact_Check.j1] at h⟩
  | k + 1 => by
   obtain ⟨ih0, ih1⟩ := fact_Check.mono_l k
   refine ⟨?_, ?_⟩
   ·intro y0 y1 y2 y3 y4
    unfold fact_Check.l0
    repeat' first
    | (with_reducible exact ih0 _ _ _ _ _)
    | (with_reducible exact ih1 _ _ _ _ _ _)
    | (with_reducible exact LeO.refl _)
    | (with_reducible exact LeO.none _)
    | (with_reducible refine LeO.ite ?_ ?_)
    | (with_reducible refine LeO.bind ?_ (fun _ => ?_))
    | exact ih0 _ _ _ _ _
    | exact ih1 _ _ _ _ _ _
    | exact LeO.none _
    | refine LeO.ite ?_ ?_
    | refine LeO.bind ?_ (fun _ => ?_)
   ·intro y0 y1 y2 y3 y4 y5
    unfold fact_Check.j1
    repeat' first
    | (with_reducible exact ih0 _ _ _ _ _)
    | (with_reducible exact ih1 _ _ _ _ _ _)
    | (with_reducible exact LeO.refl _)
    | (with_reducible exact LeO.none _)
    | (with_reducible refine LeO.ite ?_ ?_)
    | (with_reducible refine LeO.bind ?_ (fun _ => ?_))
    | exact ih0 _ _ _ _ _
    | exact ih1 _ _ _ _ _ _
    | exact LeO.none _
    | refine LeO.ite ?_ ?_
    | refine LeO.bind ?_ (fun _ => ?_)
theorem fact_Check.mono : ∀ a0 a1 k, LeO (fact_Check.f k a0 a1) (fact_Check.f (k + 1) a0 a1) := by
  intro a0 a1 k
  obtain ⟨ih0, ih1⟩ := fact_Check.mono_l k
  unfold fact_Check.f
  repeat' first
    | (with_reducible exact ih0 _ _ _ _ _)
    | (with_reducible exact ih1 _ _ _ _ _ _)
    | (with_reducible exact LeO.refl _)
    | (with_reducible exact LeO.none _)
    | (with_reducible refine LeO.ite ?_ ?_)
    | (with_reducible refine LeO.bind ?_ (fun _ => ?_))
    | exact ih0 _ _ _ _ _
    | exact ih1 _ _ _ _ _ _
    | exact LeO.none _
    | refine LeO.ite ?_ ?_
    | refine LeO.bind ?_ (fun _ => ?_)
def fact_Check.T6 : Bool × List (List Nat × List Nat) := (true, [([], []), ([0], [0]), ([1], [1]), ([2], [2]), ([3, 2], [3]), ([4], [4]), ([5, 4], [4, 5]), ([6, 4, 4], [4, 6]), ([7, 4], [4, 7]), ([4, 8], [4, 8]), ([9, 7], [9]), ([10], [10]), ([11, 10], [10, 11]), ([12, 10], [10, 12]), ([10, 13], [10, 13]), ([14, 10], [14]), ([15], [15]), ([16, 15], [15, 16]), ([17, 15, 15], [15, 17]), ([18], [18]), ([19, 18], [18, 19]), ([18], [18]), ([21, 18], [18, 21]), ([18], [18]), ([23, 18], [18, 23]), ([22, 24, 18], [18, 22, 24]), ([25, 18], [18, 25]), ([26, 18], [18, 26]), ([20, 27, 18], [18, 20, 27]), ([18, 28, 15], [15, 18, 28]), ([15, 29], [15, 29])])
def fact_Check.B6 : List Nat := [0, 1, 3, 7, 15, 31, 63, 127, 255, 511, 1023, 2047, 4095, 8191, 16383, 32767, 65535, 131071, 262143, 524287, 1048575, 524287, 2621439, 524287, 8912895, 31981567, 65535999, 132644863, 268435455, 536870911, 1073741823]
theorem fact_Check.tab6 : rtab .any (opsOf Try.f18 6) = fact_Check.T6 := by kernel_rfl
theorem fact_Check.bits6 : waitsOk fact_Check.T6.2 fact_Check.B6 = true := by kernel_rfl
abbrev fact_Check.b0 : Array Bool := X.bv0
abbrev fact_Check.b1 : Array Bool := X.bv1
abbrev fact_Check.b2 : Array Bool := X.bv2
abbrev fact_Check.b3 : Array Bool := X.bv3
abbrev fact_Check.b4 : Array Bool := X.bv4
abbrev fact_Check.b5 : Array Bool := X.bv5
abbrev fact_Check.b6 : Array Bool := X.bv6
abbrev fact_Check.b7 : Array Bool := X.bv7
abbrev fact_Check.b8 : Array Bool := X.bv8
abbrev fact_Check.b9 : Array Bool := X.bv9
abbrev fact_Check.b10 : Array Bool := X.bv10
abbrev fact_Check.b11 : Array Bool := X.bv11
abbrev fact_Check.b12 : Array Bool := X.bv12
abbrev fact_Check.b13 : Array Bool := X.bv13
abbrev fact_Check.b14 : Array Bool := X.bv14
abbrev fact_Check.b15 : Array Bool := X.bv15
abbrev fact_Check.b16 : Array Bool := X.bv16
abbrev fact_Check.b17 : Array Bool := X.bv17
abbrev fact_Check.b18 : Array Bool := X.bv18
abbrev fact_Check.b19 : Array Bool := X.bv19
abbrev fact_Check.b20 : Array Bool := X.bv20
abbrev fact_Check.b21 : Array Bool := X.bv21
abbrev fact_Check.b22 : Array Bool := X.bv22
abbrev fact_Check.b23 : Array Bool := X.bv23
abbrev fact_Check.b24 : Array Bool := X.bv24
abbrev fact_Check.b25 : Array Bool := X.bv25
abbrev fact_Check.b26 : Array Bool := X.bv26
abbrev fact_Check.b27 : Array Bool := X.bv27
abbrev fact_Check.b28 : Array Bool := X.bv28
abbrev fact_Check.b29 : Array Bool := X.bv29
abbrev fact_Check.b30 : Array Bool := X.bv30
abbrev fact_Check.b31 : Array Bool := X.bv31
abbrev fact_Check.b32 : Array Bool := X.bv32
abbrev fact_Check.b33 : Array Bool := X.bv33
abbrev fact_Check.b34 : Array Bool := X.bv34
abbrev fact_Check.b35 : Array Bool := X.bv35
set_option maxHeartbeats 8000000 in
set_option maxRecDepth 100000 in
theorem fact_Check.calls (k : Nat) (A0_0 : Option Addr) (c0_0 : Nat) (l0_0 : List (S44)) (a0_1 : Int) (r : Int) (w : World) (hr0_0 : Kd.C k44 w A0_0 l0_0.length l0_0) (hc0_0 : l0_0.length ≤ c0_0) (h : fact_Check.f k l0_0 a0_1 = some r) :
   Calls Try.prog 18 #[.agg #[.slice A0_0 l0_0.length c0_0, .int .i64 a0_1]] w fun e w' => e = .returned (.int .i64 r) ∧ Below w.heap.size w w' := by
  have hu30 := Try.underlying30
  have hu44 := Try.underlying44
  have HR0_0 := Aside0.mk hr0_0
  have HC0_0 := Aside0.mk hc0_0
  clear hr0_0 hc0_0
  have HB := Aside0.mk (Below.refl w.heap.size w)
  have H : (if (l0_0.length : Int) > 64 then (some 4) else (fact_Check.l0 k l0_0 (l0_0.length : Int) 0 l0_0 a0_1)) = some r := h
  clear h
  by_cases c2 : (l0_0.length : Int) > 64
  ·rw [if_pos c2] at H
   have c2b0 : decide (64 < (l0_0.length : Int)) = true := decide_eq_true c2
   have c2b1 : decide (64 < l0_0.length) = true := decide_eq_true (by omega)
   clear c2
   obtain rfl := Option.some.inj H
   go_enter Try.func18, Try.ntmps18
   go_wp2_with (first | ((with_reducible refine gate_dst (N := 1) rfl ?_); refine box_event ?hg (N := 1) ?hd (cs := #[.slice A0_0 l0_0.length c0_0, .int .i64 a0_1]) (t := 30) ?hr ?_; (case hd => rfl); (case hg => rfl); (case hr => first | (go_simp; done) | (go_simp; rfl)); intro gb101 hg w3 hbox hb; have n0_ := Aside0.mk (below_step (hB0 HB.out) hb); have n1_ := Aside0.mk (hbox); have n2_ := Aside0.mk ((by rw [hg]; exact (below_size (hB0 HB.out)) : w.heap.size ≤ gb101)); have n3_ := Aside0.mk ((by rw [hg]; exact (below_size (hB0 HB.out)) : w.heap.size ≤ gb101)); clear HB; have HB := n0_; have BK101 := n1_; have GW101 := n2_; have GE101 := n3_; clear n0_ n1_ n2_ n3_; clear hb hbox hg; have hcz4_0 : w3.cell? ⟨gb101, 0, none⟩ = some (.slice A0_0 l0_0.length c0_0) := (blk_cell BK101.out 0).trans rfl; have hcz4_1 : w3.cell? ⟨gb101, 1, none⟩ = some (.int .i64 a0_1) := (blk_cell BK101.out 1).trans rfl; have hfz4_0 := blk_frozen BK101.out 0; have hfz4_1 := blk_frozen BK101.out 1))
   go_ret
   exact ⟨eW, hB1 HB.out GE101.out⟩
  ·rw [if_neg c2] at H
   have c2b0 : decide (64 < (l0_0.length : Int)) = false := decide_eq_false c2
   have c2b1 : decide (64 < l0_0.length) = false := decide_eq_false (by omega)
   clear c2
   have H' := Aside0.mk H
   clear H
   go_enter Try.func18, Try.ntmps18
   go_wp2_with (first | ((with_reducible refine gate_dst (N := 1) rfl ?_); refine box_event ?hg (N := 1) ?hd (cs := #[.slice A0_0 l0_0.length c0_0, .int .i64 a0_1]) (t := 30) ?hr ?_; (case hd => rfl); (case hg => rfl); (case hr => first | (go_simp; done) | (go_simp; rfl)); intro gb101 hg w5 hbox hb; have n0_ := Aside0.mk (below_step (hB0 HB.out) hb); have n1_ := Aside0.mk (hbox); have n2_ := Aside0.mk ((by rw [hg]; exact (below_size (hB0 HB.out)) : w.heap.size ≤ gb101)); have n3_ := Aside0.mk ((by rw [hg]; exact (below_size (hB0 HB.out)) : w.heap.size ≤ gb101)); clear HB; have HB := n0_; have BK101 := n1_; have GW101 := n2_; have GE101 := n3_; clear n0_ n1_ n2_ n3_; clear hb hbox hg; have hcz6_0 : w5.cell? ⟨gb101, 0, none⟩ = some (.slice A0_0 l0_0.length c0_0) := (blk_cell BK101.out 0).trans rfl; have hcz6_1 : w5.cell? ⟨gb101, 1, none⟩ = some (.int .i64 a0_1) := (blk_cell BK101.out 1).trans rfl; have hfz6_0 := blk_frozen BK101.out 0; have hfz6_1 := blk_frozen BK101.out 1))
   (try simp only [Act.put, List.setIfInBounds_toArray, List.set_cons_zero, List.set_cons_succ])
   go_loopg [12] k (fun kq v12 w' => ∃ (x12_1 : Int), v12 = .int .i64 x12_1 ∧ Aside0 (fact_Check.l0 kq l0_0 (l0_0.length : Int) x12_1 l0_0 a0_1 = some r) ∧ Aside0 (kq ≤ k) ∧ Aside0 (w'.heap[gb101]? = some (.cells #[(.slice A0_0 l0_0.length c0_0), .int .i64 a0_1] 30 (0, 0))) ∧ Aside0 (Below w.heap.size w w'))
   case atStart => exact ⟨(0), rS, H', ⟨Nat.le_refl _⟩, ⟨bK BK101.out⟩, ⟨hB1 HB.out GE101.out⟩⟩
   case round =>
    clear H'
    try clear c2b0
    try clear c2b1
    try clear hcz6_0
    try clear hcz6_1
    try clear hfz6_0
    try clear hfz6_1
    obtain ⟨x12_1, rfl, HA, HK1, BK101, HB⟩ := hrel
    cases gk with
    | zero => exact absurd HA.out (by simp [fact_Check.l0])
    | succ k1 =>
     have H := HA.out
     clear HA
     simp only [fact_Check.l0] at H
     by_cases c7 : x12_1 < (l0_0.length : Int)
     ·rw [if_pos c7] at H
      have c7b0 : decide (x12_1 < (l0_0.length : Int)) = true := decide_eq_true c7
      clear c7
      by_cases c8 : 0 ≤ x12_1
      ·rw [if_pos c8] at H
       have c8b0 : decide (0 ≤ x12_1) = true := decide_eq_true c8
       clear c8
       by_cases c9 : x12_1 < (l0_0.length : Int)
       ·rw [if_pos c9] at H
        have c9b0 : decide (x12_1 < (l0_0.length : Int)) = true := decide_eq_true c9
        clear c9
        have HC10 := Aside0.mk H
        clear H
        have p103 : 0 ≤ (x12_1 : Int) := oD
        have q103 : x12_1 < (l0_0.length : Int) := oD
        obtain ⟨ad103, e103, hx103_0, hx103_1⟩ := at_T44 HR0_0.out x12_1 p103 q103
        cases e103
        replace hx103_0 := (HB.out.cell (World.block_lt_of_cell? w _ hx103_0)).trans hx103_0
        replace hx103_1 := (HB.out.cell (World.block_lt_of_cell? w _ hx103_1)).trans hx103_1
        replace p103 := eq_true p103
        replace q103 := eq_true q103
        go_upto_region 6 with (first | ((with_reducible refine gate_dst (N := 4) rfl ?_); refine box_event ?hg (N := 4) ?hd (cs := #[.int .i64 0, .int .i64 0]) (t := 44) ?hr ?_; (case hd => rfl); (case hg => rfl); (case hr => first | (go_simp; done) | (go_simp; rfl)); intro gb104 hg w11 hbox hb; have n0_ := Aside0.mk (blk_below (g := gb101) (o := .cells #[.slice (some ad103) l0_0.length c0_0, .int .i64 a0_1] 30 (0, 0)) (bK BK101.out) hb); have n1_ := Aside0.mk (below_step (hB1 HB.out GE101.out) hb); have n2_ := Aside0.mk (hbox); have n3_ := Aside0.mk ((by rw [hg]; exact (below_size (hB1 HB.out GE101.out)) : w.heap.size ≤ gb104)); have n4_ := Aside0.mk ((by rw [hg]; exact (below_size (hB1 HB.out GE101.out)) : w.heap.size ≤ gb104)); have n5_ := Aside0.mk ((by rw [hg]; exact Nat.ne_of_lt (blk_lt (g := gb101) (o := .cells #[.slice (some ad103) l0_0.length c0_0, .int .i64 a0_1] 30 (0, 0)) (bK BK101.out)) : gb101 ≠ gb104)); have n6_ := Aside0.mk ((by rw [hg]; exact Nat.ne_of_gt (blk_lt (g := gb101) (o := .cells #[.slice (some ad103) l0_0.length c0_0, .int .i64 a0_1] 30 (0, 0)) (bK BK101.out)) : gb104 ≠ gb101)); clear BK101 HB; have BK101 := n0_; have HB := n1_; have BK104 := n2_; have GW104 := n3_; have GE104 := n4_; have NB101_104 := n5_; have NB104_101 := n6_; clear n0_ n1_ n2_ n3_ n4_ n5_ n6_; clear hb hbox hg; have hnb12 := NB104_101.out; have hnc12 := NB101_104.out; have hcz13_0 : w11.cell? ⟨gb104, 0, none⟩ = some (.int .i64 0) := (blk_cell BK104.out 0).trans rfl; have hcz13_1 : w11.cell? ⟨gb104, 1, none⟩ = some (.int .i64 0) := (blk_cell BK104.out 1).trans rfl; have hfz13_0 := blk_frozen BK104.out 0; have hfz13_1 := blk_frozen BK104.out 1))
        (try simp only [Act.put, List.setIfInBounds_toArray, List.set_cons_zero, List.set_cons_succ])
        go_cut [47] (fun v47 wc => ∃ (kq : Nat) (x47_9 : Bool), v47 = .bool x47_9 ∧ Aside0 (fact_Check.j1 kq l0_0 (l0_0.length : Int) x12_1 x47_9 l0_0 a0_1 = some r) ∧ Aside0 (kq ≤ k1) ∧ Aside0 (wc.heap[gb101]? = some (.cells #[(.slice (some ad103) l0_0.length c0_0), .int .i64 a0_1] 30 (0, 0))) ∧ Aside0 (wc.heap[gb104]? = some (.cells #[.int .i64 ((rd_T44 l0_0 x12_1).f0), .int .i64 ((rd_T44 l0_0 x12_1).f1)] 44 (0, 0))) ∧ Aside0 (Below w.heap.size w wc))
        case first =>
         have H := HC10.out
         clear HC10
         replace H := Option.bind_eq_some_iff.mp H
         obtain ⟨t105, A140, H⟩ := H
         replace H : (if t105 = true then ((fact_small.f ((rd_T44 l0_0 x12_1).f1)).bind fun t106 => (if t106 = true then (if ((rd_T44 l0_0 x12_1).f1) = 0 then (fact_Check.j1 k1 l0_0 (l0_0.length : Int) x12_1 true l0_0 a0_1) else (if x12_1 > 0 then (if 0 ≤ (wrap64 (x12_1 - 1)) then (if (wrap64 (x12_1 - 1)) < (l0_0.length : Int) then (fact_Check.j1 k1 l0_0 (l0_0.length : Int) x12_1 (decide (((rd_T44 l0_0 x12_1).f0) ≤ ((rd_T44 l0_0 (wrap64 (x12_1 - 1))).f0))) l0_0 a0_1) else (none)) else (none)) else (fact_Check.j1 k1 l0_0 (l0_0.length : Int) x12_1 false l0_0 a0_1))) else (fact_Check.j1 k1 l0_0 (l0_0.length : Int) x12_1 true l0_0 a0_1))) else (fact_Check.j1 k1 l0_0 (l0_0.length : Int) x12_1 true l0_0 a0_1)) = some r := H
         have A14 := Aside0.mk A140
         clear A140
         by_cases c15 : t105 = true
         ·subst c15
          have H1 : ((fact_small.f ((rd_T44 l0_0 x12_1).f1)).bind fun t106 => (if t106 = true then (if ((rd_T44 l0_0 x12_1).f1) = 0 then (fact_Check.j1 k1 l0_0 (l0_0.length : Int) x12_1 true l0_0 a0_1) else (if x12_1 > 0 then (if 0 ≤ (wrap64 (x12_1 - 1)) then (if (wrap64 (x12_1 - 1)) < (l0_0.length : Int) then (fact_Check.j1 k1 l0_0 (l0_0.length : Int) x12_1 (decide (((rd_T44 l0_0 x12_1).f0) ≤ ((rd_T44 l0_0 (wrap64 (x12_1 - 1))).f0))) l0_0 a0_1) else (none)) else (none)) else (fact_Check.j1 k1 l0_0 (l0_0.length : Int) x12_1 false l0_0 a0_1))) else (fact_Check.j1 k1 l0_0 (l0_0.length : Int) x12_1 true l0_0 a0_1))) = some r := by rw [if_pos rfl] at H; exact H
          clear H
          have H := H1
          clear H1
          replace H := Option.bind_eq_some_iff.mp H
          obtain ⟨t106, A160, H⟩ := H
          replace H : (if t106 = true then (if ((rd_T44 l0_0 x12_1).f1) = 0 then (fact_Check.j1 k1 l0_0 (l0_0.length : Int) x12_1 true l0_0 a0_1) else (if x12_1 > 0 then (if 0 ≤ (wrap64 (x12_1 - 1)) then (if (wrap64 (x12_1 - 1)) < (l0_0.length : Int) then (fact_Check.j1 k1 l0_0 (l0_0.length : Int) x12_1 (decide (((rd_T44 l0_0 x12_1).f0) ≤ ((rd_T44 l0_0 (wrap64 (x12_1 - 1))).f0))) l0_0 a0_1) else (none)) else (none)) else (fact_Check.j1 k1 l0_0 (l0_0.length : Int) x12_1 false l0_0 a0_1))) else (fact_Check.j1 k1 l0_0 (l0_0.length : Int) x12_1 true l0_0 a0_1)) = some r := H
          have A16 := Aside0.mk A160
          clear A160
          by_cases c17 : t106 = true
          ·subst c17
           have H1 : (if ((rd_T44 l0_0 x12_1).f1) = 0 then (fact_Check.j1 k1 l0_0 (l0_0.length : Int) x12_1 true l0_0 a0_1) else (if x12_1 > 0 then (if 0 ≤ (wrap64 (x12_1 - 1)) then (if (wrap64 (x12_1 - 1)) < (l0_0.length : Int) then (fact_Check.j1 k1 l0_0 (l0_0.length : Int) x12_1 (decide (((rd_T44 l0_0 x12_1).f0) ≤ ((rd_T44 l0_0 (wrap64 (x12_1 - 1))).f0))) l0_0 a0_1) else (none)) else (none)) else (fact_Check.j1 k1 l0_0 (l0_0.length : Int) x12_1 false l0_0 a0_1))) = some r := by rw [if_pos rfl] at H; exact H
           clear H
           have H := H1
           clear H1
           by_cases c18 : ((rd_T44 l0_0 x12_1).f1) = 0
           ·rw [if_pos c18] at H
            have c18b0 : (((rd_T44 l0_0 x12_1).f1) == 0) = true := beq_iff_eq.mpr c18
            have c18b1 : (((rd_T44 l0_0 x12_1).f1) != 0) = false := bne_eq_false_iff_eq.mpr c18
            clear c18
            (first | rw [c18b0] | (simp only [i64_w, i32_w]; rw [c18b0]) | skip)
            have H' := Aside0.mk H
            clear H
            try go_wp2
            have n0_ : Aside0 (((w11.setCell ⟨gb104, 0, none⟩ (.int .i64 ((rd_T44 l0_0 x12_1).f0))).setCell ⟨gb104, 1, none⟩ (.int .i64 ((rd_T44 l0_0 x12_1).f1))).heap[gb101]? = some (.cells #[.slice (some ad103) l0_0.length c0_0, .int .i64 a0_1] 30 (0, 0))) := ⟨by (with_reducible repeat (first | refine blk_drewN ?_ _ | refine blk_drew ?_ | refine blk_alloc ?_ _)); refine blk_far ?_ NB101_104.out _; (with_reducible repeat (first | refine blk_drewN ?_ _ | refine blk_drew ?_ | refine blk_alloc ?_ _)); refine blk_far ?_ NB101_104.out _; (with_reducible repeat (first | refine blk_drewN ?_ _ | refine blk_drew ?_ | refine blk_alloc ?_ _)); exact BK101.out⟩
            have n1_ : Aside0 (((w11.setCell ⟨gb104, 0, none⟩ (.int .i64 ((rd_T44 l0_0 x12_1).f0))).setCell ⟨gb104, 1, none⟩ (.int .i64 ((rd_T44 l0_0 x12_1).f1))).heap[gb104]? = some (.cells #[.int .i64 ((rd_T44 l0_0 x12_1).f0), .int .i64 ((rd_T44 l0_0 x12_1).f1)] 44 (0, 0))) := ⟨by (with_reducible repeat (first | refine blk_drewN ?_ _ | refine blk_drew ?_ | refine blk_alloc ?_ _)); refine blk_put (cs := #[.int .i64 ((rd_T44 l0_0 x12_1).f0), .int .i64 0]) ?_ 1 _ rfl; (with_reducible repeat (first | refine blk_drewN ?_ _ | refine blk_drew ?_ | refine blk_alloc ?_ _)); refine blk_put (cs := #[.int .i64 0, .int .i64 0]) ?_ 0 _ rfl; (with_reducible repeat (first | refine blk_drewN ?_ _ | refine blk_drew ?_ | refine blk_alloc ?_ _)); exact BK104.out⟩
            have n2_ : Aside0 (Below w.heap.size w ((w11.setCell ⟨gb104, 0, none⟩ (.int .i64 ((rd_T44 l0_0 x12_1).f0))).setCell ⟨gb104, 1, none⟩ (.int .i64 ((rd_T44 l0_0 x12_1).f1)))) := ⟨hB2 HB.out GE101.out GE104.out⟩
            (try clear BK101)
            (try clear BK104)
            (try clear HB)
            generalize ((w11.setCell ⟨gb104, 0, none⟩ (.int .i64 ((rd_T44 l0_0 x12_1).f0))).setCell ⟨gb104, 1, none⟩ (.int .i64 ((rd_T44 l0_0 x12_1).f1))) = w19 at n0_ n1_ n2_ ⊢
            have BK101 := n0_
            have BK104 := n1_
            have HB := n2_
            clear n0_ n1_ n2_
            have n0_ := Aside0.mk (blk_drew BK101.out)
            have n1_ := Aside0.mk (blk_drew BK104.out)
            have n2_ := Aside0.mk (below_drew1 HB.out)
            clear BK101
            clear BK104
            clear HB
            have BK101 := n0_
            have BK104 := n1_
            have HB := n2_
            clear n0_ n1_ n2_
            refine start_ (n := 31) (S := fun w' => w'.cell? ⟨gb104, 0, none⟩ = some (.int .i64 ((rd_T44 l0_0 x12_1).f0)) ∧ w'.cell? ⟨gb104, 1, none⟩ = some (.int .i64 ((rd_T44 l0_0 x12_1).f1))) (ds := []) fact_Check.b0 (by kernel_rfl) rfl rfl ⟨(blk_cell BK104.out 0).trans rfl, (blk_cell BK104.out 1).trans rfl⟩ (fun hHeld => ?_); refine with_tabW fact_Check.tab6 fact_Check.bits6 (fun HT_ HW_ => ?_)
            generalize w19.drew = w20 at BK101 BK104 HB hHeld ⊢
            refine pY 0 (some 17) fact_Check.b1 rfl rfl HT_.out (fun _ _ _ h => h) ?_
            refine take_ (i := 1) (N := some 18) (v := ?_) (a' := ?_) fact_Check.b2 rfl rfl (take_ofW HT_.out HW_.out (by kernel_rfl)) (fun _ _ _ h => h) (Or.inl ⟨by rfl, ?_⟩) hHeld ?_ ?_
            rotate_left
            ·rintro w' ⟨s0, s1⟩
             go_simp
             with_reducible rfl
            rotate_left
            ·simp only [Act.put, List.setIfInBounds_toArray, List.set_cons_zero, List.set_cons_succ, i64_w, i32_w]
             rfl
            refine one_ (i := 2) (N := some 19) fact_Check.b3 rfl rfl (one_of HT_.out (by kernel_rfl)) (by decide) (fun K hK => ?_)
            refine goes_ Try.func30 (by kernel_rfl) rfl #[.int .i64 ((rd_T44 l0_0 x12_1).f0)] (by rfl) rfl rfl aM ?_
            with_reducible refine (fact_block.calls ((rd_T44 l0_0 x12_1).f0) true _ A14.out).mono ?_
            rintro e w' ⟨rfl, ⟨nd, rfl⟩⟩
            refine ⟨_, rfl, ?_⟩
            refine hK.out _ _ ⟨(blk_cell BK104.out 0).trans rfl, (blk_cell BK104.out 1).trans rfl⟩ (fun hHeld => ?_)
            clear hK K
            refine norm_ (a' := ?_) ?_ ?_
            rotate_left
            ·show Act.put _ (some 19) _ = _
             simp only [Act.put, List.setIfInBounds_toArray, List.set_cons_zero, List.set_cons_succ, i64_w, i32_w]
             rfl
            refine pY 3 (some 20) fact_Check.b4 rfl rfl HT_.out (fun _ _ _ h => h) ?_
            refine pY 4 (some 21) fact_Check.b5 rfl rfl HT_.out (fun _ _ _ h => h) ?_
            refine pY 5 (some 22) fact_Check.b6 rfl rfl HT_.out (fun _ _ _ h => h) ?_
            refine take_ (i := 6) (N := some 23) (v := ?_) (a' := ?_) fact_Check.b7 rfl rfl (take_ofW HT_.out HW_.out (by kernel_rfl)) (fun _ _ _ h => h) (Or.inl ⟨by rfl, ?_⟩) hHeld ?_ ?_
            rotate_left
            ·rintro w' ⟨s0, s1⟩
             go_simp
             with_reducible rfl
            rotate_left
            ·simp only [Act.put, List.setIfInBounds_toArray, List.set_cons_zero, List.set_cons_succ, i64_w, i32_w]
             rfl
            refine one_ (i := 7) (N := some 24) fact_Check.b8 rfl rfl (one_of HT_.out (by kernel_rfl)) (by decide) (fun K hK => ?_)
            refine goes_ Try.func31 (by kernel_rfl) rfl #[.int .i64 ((rd_T44 l0_0 x12_1).f1)] (by rfl) rfl rfl aM ?_
            with_reducible refine (fact_small.calls ((rd_T44 l0_0 x12_1).f1) true _ A16.out).mono ?_
            rintro e w' ⟨rfl, ⟨nd, rfl⟩⟩
            refine ⟨_, rfl, ?_⟩
            refine hK.out _ _ ⟨(blk_cell BK104.out 0).trans rfl, (blk_cell BK104.out 1).trans rfl⟩ (fun hHeld => ?_)
            clear hK K
            refine norm_ (a' := ?_) ?_ ?_
            rotate_left
            ·show Act.put _ (some 24) _ = _
             simp only [Act.put, List.setIfInBounds_toArray, List.set_cons_zero, List.set_cons_succ, i64_w, i32_w]
             rfl
            refine pY 8 (some 25) fact_Check.b9 rfl rfl HT_.out (fun _ _ _ h => h) ?_
            refine pY 9 (some 26) fact_Check.b10 rfl rfl HT_.out (fun _ _ _ h => h) ?_
            refine pY 10 (some 27) fact_Check.b11 rfl rfl HT_.out (fun _ _ _ h => h) ?_
            refine pY 11 (some 28) fact_Check.b12 rfl rfl HT_.out (fun _ _ _ h => h) ?_
            refine take_ (i := 12) (N := some 29) (v := ?_) (a' := ?_) fact_Check.b13 rfl rfl (take_ofW HT_.out HW_.out (by kernel_rfl)) (fun _ _ _ h => h) (Or.inl ⟨by rfl, ?_⟩) hHeld ?_ ?_
            rotate_left
            ·rintro w' ⟨s0, s1⟩
             go_simp
             with_reducible rfl
            rotate_left
            ·simp only [Act.put, List.setIfInBounds_toArray, List.set_cons_zero, List.set_cons_succ, i64_w, i32_w]
             rfl
            refine pY 13 (some 30) fact_Check.b14 rfl rfl HT_.out (fun _ _ _ h => h) ?_
            refine pY 14 (some 31) fact_Check.b15 rfl rfl HT_.out (fun _ _ _ h => h) ?_
            refine pY 15 (some 32) fact_Check.b16 rfl rfl HT_.out (fun _ _ _ h => h) ?_
            refine pN 16 (some 33) fact_Check.b17 rfl rfl HT_.out (fun _ _ _ h => h) ?_
            refine pN 17 (some 34) fact_Check.b18 rfl rfl HT_.out (fun _ _ _ h => h) ?_
            refine pN 18 (some 35) fact_Check.b19 rfl rfl HT_.out (fun _ _ _ h => h) ?_
            refine pN 19 (some 36) fact_Check.b20 rfl rfl HT_.out (fun _ _ _ h => h) ?_
            refine pN 20 (some 37) fact_Check.b21 rfl rfl HT_.out (fun _ _ _ h => h) ?_
            refine pN 21 (some 38) fact_Check.b22 rfl rfl HT_.out (fun _ _ _ h => h) ?_
            refine pN 22 (some 39) fact_Check.b23 rfl rfl HT_.out (fun _ _ _ h => h) ?_
            refine pN 23 (some 40) fact_Check.b24 rfl rfl HT_.out (fun _ _ _ h => h) ?_
            refine pN 24 (some 41) fact_Check.b25 rfl rfl HT_.out (fun _ _ _ h => h) ?_
            refine pN 25 (some 42) fact_Check.b26 rfl rfl HT_.out (fun _ _ _ h => h) ?_
            refine pN 26 (some 43) fact_Check.b27 rfl rfl HT_.out (fun _ _ _ h => h) ?_
            refine pN 27 (some 44) fact_Check.b28 rfl rfl HT_.out (fun _ _ _ h => h) ?_
            refine pN 28 (some 45) fact_Check.b29 rfl rfl HT_.out (fun _ _ _ h => h) ?_
            refine pN 29 (some 46) fact_Check.b30 rfl rfl HT_.out (fun _ _ _ h => h) ?_
            refine pY 30 (some 47) fact_Check.b31 rfl rfl HT_.out (fun _ _ _ h => h) ?_
            refine done_ (done_of HT_.out (by kernel_rfl)) ?_
            try go_wp2
            go_meet
            case rel => exact ⟨_, (true), rS, H', ⟨by have := HK1.out; first | omega | exact Nat.le_refl _⟩, ⟨bK BK101.out⟩, ⟨bK BK104.out⟩, ⟨hB2 HB.out GE101.out GE104.out⟩⟩
           ·rw [if_neg c18] at H
            have c18b0 : (((rd_T44 l0_0 x12_1).f1) == 0) = false := beq_eq_false_iff_ne.mpr c18
            have c18b1 : (((rd_T44 l0_0 x12_1).f1) != 0) = true := bne_iff_ne.mpr c18
            (first | rw [c18b0] | (simp only [i64_w, i32_w]; rw [c18b0]) | skip)
            by_cases c21 : x12_1 > 0
            ·rw [if_pos c21] at H
             have c21b0 : decide (0 < x12_1) = true := decide_eq_true c21
             clear c21
             obtain ⟨ji22, hji22⟩ : ∃ j_ : Int, (wrap64 (x12_1 - 1)) = j_ := ⟨_, rfl⟩
             replace H : (if 0 ≤ (ji22) then (if (ji22) < (l0_0.length : Int) then (fact_Check.j1 k1 l0_0 (l0_0.length : Int) x12_1 (decide (((rd_T44 l0_0 x12_1).f0) ≤ ((rd_T44 l0_0 (ji22)).f0))) l0_0 a0_1) else (none)) else (none)) = some r := by first | (rw [hji22] at H; exact H) | (simp only [hji22] at H ⊢; exact H)
             (try rw [hji22] at A14)
             (try rw [hji22] at A16)
             have hji22w : (IntKind.i64.wrap (x12_1 - 1)) = ji22 := (i64_w _).trans hji22
             by_cases c23 : 0 ≤ (ji22)
             ·rw [if_pos c23] at H
              have c23b0 : decide (0 ≤ (ji22)) = true := decide_eq_true c23
              clear c23
              by_cases c24 : (ji22) < (l0_0.length : Int)
              ·rw [if_pos c24] at H
               have c24b0 : decide ((ji22) < (l0_0.length : Int)) = true := decide_eq_true c24
               clear c24
               have H' := Aside0.mk H
               clear H
               try go_wp2
               have n0_ : Aside0 (((w11.setCell ⟨gb104, 0, none⟩ (.int .i64 ((rd_T44 l0_0 x12_1).f0))).setCell ⟨gb104, 1, none⟩ (.int .i64 ((rd_T44 l0_0 x12_1).f1))).heap[gb101]? = some (.cells #[.slice (some ad103) l0_0.length c0_0, .int .i64 a0_1] 30 (0, 0))) := ⟨by (with_reducible repeat (first | refine blk_drewN ?_ _ | refine blk_drew ?_ | refine blk_alloc ?_ _)); refine blk_far ?_ NB101_104.out _; (with_reducible repeat (first | refine blk_drewN ?_ _ | refine blk_drew ?_ | refine blk_alloc ?_ _)); refine blk_far ?_ NB101_104.out _; (with_reducible repeat (first | refine blk_drewN ?_ _ | refine blk_drew ?_ | refine blk_alloc ?_ _)); exact BK101.out⟩
               have n1_ : Aside0 (((w11.setCell ⟨gb104, 0, none⟩ (.int .i64 ((rd_T44 l0_0 x12_1).f0))).setCell ⟨gb104, 1, none⟩ (.int .i64 ((rd_T44 l0_0 x12_1).f1))).heap[gb104]? = some (.cells #[.int .i64 ((rd_T44 l0_0 x12_1).f0), .int .i64 ((rd_T44 l0_0 x12_1).f1)] 44 (0, 0))) := ⟨by (with_reducible repeat (first | refine blk_drewN ?_ _ | refine blk_drew ?_ | refine blk_alloc ?_ _)); refine blk_put (cs := #[.int .i64 ((rd_T44 l0_0 x12_1).f0), .int .i64 0]) ?_ 1 _ rfl; (with_reducible repeat (first | refine blk_drewN ?_ _ | refine blk_drew ?_ | refine blk_alloc ?_ _)); refine blk_put (cs := #[.int .i64 0, .int .i64 0]) ?_ 0 _ rfl; (with_reducible repeat (first | refine blk_drewN ?_ _ | refine blk_drew ?_ | refine blk_alloc ?_ _)); exact BK104.out⟩
               have n2_ : Aside0 (Below w.heap.size w ((w11.setCell ⟨gb104, 0, none⟩ (.int .i64 ((rd_T44 l0_0 x12_1).f0))).setCell ⟨gb104, 1, none⟩ (.int .i64 ((rd_T44 l0_0 x12_1).f1)))) := ⟨hB2 HB.out GE101.out GE104.out⟩
               (try clear BK101)
               (try clear BK104)
               (try clear HB)
               generalize ((w11.setCell ⟨gb104, 0, none⟩ (.int .i64 ((rd_T44 l0_0 x12_1).f0))).setCell ⟨gb104, 1, none⟩ (.int .i64 ((rd_T44 l0_0 x12_1).f1))) = w25 at n0_ n1_ n2_ ⊢
               have BK101 := n0_
               have BK104 := n1_
               have HB := n2_
               clear n0_ n1_ n2_
               have n0_ := Aside0.mk (blk_drew BK101.out)
               have n1_ := Aside0.mk (blk_drew BK104.out)
               have n2_ := Aside0.mk (below_drew1 HB.out)
               clear BK101
               clear BK104
               clear HB
               have BK101 := n0_
               have BK104 := n1_
               have HB := n2_
               clear n0_ n1_ n2_
               have p107 : 0 ≤ ((ji22) : Int) := oD
               have q107 : (ji22) < (l0_0.length : Int) := oD
               obtain ⟨ad107, e107, hx107_0, hx107_1⟩ := at_T44 HR0_0.out (ji22) p107 q107
               have hw107_1 := hx107_1
               have hw107_0 := hx107_0
               obtain rfl : ad103 = ad107 := (by injection e107)
               replace hx107_0 := (HB.out.cell (World.block_lt_of_cell? w _ hx107_0)).trans hx107_0
               replace hx107_1 := (HB.out.cell (World.block_lt_of_cell? w _ hx107_1)).trans hx107_1
               replace p107 := eq_true p107
               replace q107 := eq_true q107
               refine start_ (n := 31) (S := fun w' => w'.cell? ⟨gb104, 0, none⟩ = some (.int .i64 ((rd_T44 l0_0 x12_1).f0)) ∧ w'.cell? ⟨gb104, 1, none⟩ = some (.int .i64 ((rd_T44 l0_0 x12_1).f1)) ∧ w'.cell? ⟨gb101, 0, none⟩ = some (.slice (some ad103) l0_0.length c0_0) ∧ w'.cell? ⟨gb101, 1, none⟩ = some (.int .i64 a0_1) ∧ w'.cell? (ad103.add (((ji22)).toNat * 2)) = some (.int .i64 ((rd_T44 l0_0 (ji22)).f0)) ∧ w'.cell? ⟨(ad103.add (((ji22)).toNat * 2)).block, (ad103.add (((ji22)).toNat * 2)).off + 1, none⟩ = some (.int .i64 ((rd_T44 l0_0 (ji22)).f1))) (ds := []) fact_Check.b0 (by kernel_rfl) rfl rfl ⟨(blk_cell BK104.out 0).trans rfl, (blk_cell BK104.out 1).trans rfl, (blk_cell BK101.out 0).trans rfl, (blk_cell BK101.out 1).trans rfl, ((HB.out.cell (World.block_lt_of_cell? w _ hw107_0)).trans hw107_0), ((HB.out.cell (World.block_lt_of_cell? w _ hw107_1)).trans hw107_1)⟩ (fun hHeld => ?_); refine with_tabW fact_Check.tab6 fact_Check.bits6 (fun HT_ HW_ => ?_)
               generalize w25.drew = w26 at BK101 BK104 HB hx107_0 hx107_1 hHeld ⊢
               refine pY 0 (some 17) fact_Check.b1 rfl rfl HT_.out (fun _ _ _ h => h) ?_
               refine take_ (i := 1) (N := some 18) (v := ?_) (a' := ?_) fact_Check.b2 rfl rfl (take_ofW HT_.out HW_.out (by kernel_rfl)) (fun _ _ _ h => h) (Or.inl ⟨by rfl, ?_⟩) hHeld ?_ ?_
               rotate_left
               ·rintro w' ⟨s0, s1, s2, s3, s4, s5⟩
                go_simp
                with_reducible rfl
               rotate_left
               ·simp only [Act.put, List.setIfInBounds_toArray, List.set_cons_zero, List.set_cons_succ, i64_w, i32_w]
                rfl
               refine one_ (i := 2) (N := some 19) fact_Check.b3 rfl rfl (one_of HT_.out (by kernel_rfl)) (by decide) (fun K hK => ?_)
               refine goes_ Try.func30 (by kernel_rfl) rfl #[.int .i64 ((rd_T44 l0_0 x12_1).f0)] (by rfl) rfl rfl aM ?_
               with_reducible refine (fact_block.calls ((rd_T44 l0_0 x12_1).f0) true _ A14.out).mono ?_
               rintro e w' ⟨rfl, ⟨nd, rfl⟩⟩
               refine ⟨_, rfl, ?_⟩
               refine hK.out _ _ ⟨(blk_cell BK104.out 0).trans rfl, (blk_cell BK104.out 1).trans rfl, (blk_cell BK101.out 0).trans rfl, (blk_cell BK101.out 1).trans rfl, ((HB.out.cell (World.block_lt_of_cell? w _ hw107_0)).trans hw107_0), ((HB.out.cell (World.block_lt_of_cell? w _ hw107_1)).trans hw107_1)⟩ (fun hHeld => ?_)
               clear hK K
               refine norm_ (a' := ?_) ?_ ?_
               rotate_left
               ·show Act.put _ (some 19) _ = _
                simp only [Act.put, List.setIfInBounds_toArray, List.set_cons_zero, List.set_cons_succ, i64_w, i32_w]
                rfl
               refine pY 3 (some 20) fact_Check.b4 rfl rfl HT_.out (fun _ _ _ h => h) ?_
               refine pY 4 (some 21) fact_Check.b5 rfl rfl HT_.out (fun _ _ _ h => h) ?_
               refine pY 5 (some 22) fact_Check.b6 rfl rfl HT_.out (fun _ _ _ h => h) ?_
               refine take_ (i := 6) (N := some 23) (v := ?_) (a' := ?_) fact_Check.b7 rfl rfl (take_ofW HT_.out HW_.out (by kernel_rfl)) (fun _ _ _ h => h) (Or.inl ⟨by rfl, ?_⟩) hHeld ?_ ?_
               rotate_left
               ·rintro w' ⟨s0, s1, s2, s3, s4, s5⟩
                go_simp
                with_reducible rfl
               rotate_left
               ·simp only [Act.put, List.setIfInBounds_toArray, List.set_cons_zero, List.set_cons_succ, i64_w, i32_w]
                rfl
               refine one_ (i := 7) (N := some 24) fact_Check.b8 rfl rfl (one_of HT_.out (by kernel_rfl)) (by decide) (fun K hK => ?_)
               refine goes_ Try.func31 (by kernel_rfl) rfl #[.int .i64 ((rd_T44 l0_0 x12_1).f1)] (by rfl) rfl rfl aM ?_
               with_reducible refine (fact_small.calls ((rd_T44 l0_0 x12_1).f1) true _ A16.out).mono ?_
               rintro e w' ⟨rfl, ⟨nd, rfl⟩⟩
               refine ⟨_, rfl, ?_⟩
               refine hK.out _ _ ⟨(blk_cell BK104.out 0).trans rfl, (blk_cell BK104.out 1).trans rfl, (blk_cell BK101.out 0).trans rfl, (blk_cell BK101.out 1).trans rfl, ((HB.out.cell (World.block_lt_of_cell? w _ hw107_0)).trans hw107_0), ((HB.out.cell (World.block_lt_of_cell? w _ hw107_1)).trans hw107_1)⟩ (fun hHeld => ?_)
               clear hK K
               refine norm_ (a' := ?_) ?_ ?_
               rotate_left
               ·show Act.put _ (some 24) _ = _
                simp only [Act.put, List.setIfInBounds_toArray, List.set_cons_zero, List.set_cons_succ, i64_w, i32_w]
                rfl
               refine pY 8 (some 25) fact_Check.b9 rfl rfl HT_.out (fun _ _ _ h => h) ?_
               refine pY 9 (some 26) fact_Check.b10 rfl rfl HT_.out (fun _ _ _ h => h) ?_
               refine pY 10 (some 27) fact_Check.b11 rfl rfl HT_.out (fun _ _ _ h => h) ?_
               refine pY 11 (some 28) fact_Check.b12 rfl rfl HT_.out (fun _ _ _ h => h) ?_
               refine take_ (i := 12) (N := some 29) (v := ?_) (a' := ?_) fact_Check.b13 rfl rfl (take_ofW HT_.out HW_.out (by kernel_rfl)) (fun _ _ _ h => h) (Or.inl ⟨by rfl, ?_⟩) hHeld ?_ ?_
               rotate_left
               ·rintro w' ⟨s0, s1, s2, s3, s4, s5⟩
                go_simp
                with_reducible rfl
               rotate_left
               ·simp only [Act.put, List.setIfInBounds_toArray, List.set_cons_zero, List.set_cons_succ, i64_w, i32_w]
                rfl
               refine pY 13 (some 30) fact_Check.b14 rfl rfl HT_.out (fun _ _ _ h => h) ?_
               refine pY 14 (some 31) fact_Check.b15 rfl rfl HT_.out (fun _ _ _ h => h) ?_
               refine pY 15 (some 32) fact_Check.b16 rfl rfl HT_.out (fun _ _ _ h => h) ?_
               refine pY 16 (some 33) fact_Check.b17 rfl rfl HT_.out (fun _ _ _ h => h) ?_
               refine pY 17 (some 34) fact_Check.b18 rfl rfl HT_.out (fun _ _ _ h => h) ?_
               refine pY 18 (some 35) fact_Check.b19 rfl rfl HT_.out (fun _ _ _ h => h) ?_
               refine pY 19 (some 36) fact_Check.b20 rfl rfl HT_.out (fun _ _ _ h => h) ?_
               refine pY 21 (some 38) fact_Check.b32 rfl rfl HT_.out (fun _ _ _ h => h) ?_
               refine pY 23 (some 40) fact_Check.b33 rfl rfl HT_.out (fun _ _ _ h => h) ?_
               refine pY 24 (some 41) fact_Check.b34 rfl rfl HT_.out (fun _ _ _ h => h) ?_
               refine take_ (i := 20) (N := some 37) (v := ?_) (a' := ?_) fact_Check.b35 rfl rfl (take_ofW HT_.out HW_.out (by kernel_rfl)) (fun _ _ _ h => h) (Or.inl ⟨by rfl, ?_⟩) hHeld ?_ ?_
               rotate_left
               ·rintro w' ⟨s0, s1, s2, s3, s4, s5⟩
                go_simp
                with_reducible rfl
               rotate_left
               ·simp only [Act.put, List.setIfInBounds_toArray, List.set_cons_zero, List.set_cons_succ, i64_w, i32_w]
                rfl
               refine take_ (i := 22) (N := some 39) (v := ?_) (a' := ?_) fact_Check.b25 rfl rfl (take_ofW HT_.out HW_.out (by kernel_rfl)) (fun _ _ _ h => h) (Or.inl ⟨by rfl, ?_⟩) hHeld ?_ ?_
               rotate_left
               ·rintro w' ⟨s0, s1, s2, s3, s4, s5⟩
                go_simp
                with_reducible rfl
               rotate_left
               ·simp only [Act.put, List.setIfInBounds_toArray, List.set_cons_zero, List.set_cons_succ, i64_w, i32_w]
                rfl
               refine pY 25 (some 42) fact_Check.b26 rfl rfl HT_.out (fun _ _ _ h => h) ?_
               refine pY 26 (some 43) fact_Check.b27 rfl rfl HT_.out (fun _ _ _ h => h) ?_
               refine take_ (i := 27) (N := some 44) (v := ?_) (a' := ?_) fact_Check.b28 rfl rfl (take_ofW HT_.out HW_.out (by kernel_rfl)) (fun _ _ _ h => h) (Or.inl ⟨by rfl, ?_⟩) hHeld ?_ ?_
               rotate_left
               ·rintro w' ⟨s0, s1, s2, s3, s4, s5⟩
                go_simp
                with_reducible rfl
               rotate_left
               ·simp only [Act.put, List.setIfInBounds_toArray, List.set_cons_zero, List.set_cons_succ, i64_w, i32_w]
                rfl
               refine pY 28 (some 45) fact_Check.b29 rfl rfl HT_.out (fun _ _ _ h => h) ?_
               refine pY 29 (some 46) fact_Check.b30 rfl rfl HT_.out (fun _ _ _ h => h) ?_
               refine pY 30 (some 47) fact_Check.b31 rfl rfl HT_.out (fun _ _ _ h => h) ?_
               refine done_ (done_of HT_.out (by kernel_rfl)) ?_
               try go_wp2
               go_meet
               case rel => exact ⟨_, (decide (((rd_T44 l0_0 x12_1).f0) ≤ ((rd_T44 l0_0 (ji22)).f0))), (by first | rfl | (simp; done) | (simp only [← hji22] <;> (first | rfl | simp)) | (simp [*]; done)), H', ⟨by have := HK1.out; first | omega | exact Nat.le_refl _⟩, ⟨bK BK101.out⟩, ⟨bK BK104.out⟩, ⟨hB2 HB.out GE101.out GE104.out⟩⟩
              ·rw [if_neg c24] at H
               exact absurd H (by simp)
             ·rw [if_neg c23] at H
              exact absurd H (by simp)
            ·rw [if_neg c21] at H
             have c21b0 : decide (0 < x12_1) = false := decide_eq_false c21
             clear c21
             have H' := Aside0.mk H
             clear H
             try go_wp2
             have n0_ : Aside0 (((w11.setCell ⟨gb104, 0, none⟩ (.int .i64 ((rd_T44 l0_0 x12_1).f0))).setCell ⟨gb104, 1, none⟩ (.int .i64 ((rd_T44 l0_0 x12_1).f1))).heap[gb101]? = some (.cells #[.slice (some ad103) l0_0.length c0_0, .int .i64 a0_1] 30 (0, 0))) := ⟨by (with_reducible repeat (first | refine blk_drewN ?_ _ | refine blk_drew ?_ | refine blk_alloc ?_ _)); refine blk_far ?_ NB101_104.out _; (with_reducible repeat (first | refine blk_drewN ?_ _ | refine blk_drew ?_ | refine blk_alloc ?_ _)); refine blk_far ?_ NB101_104.out _; (with_reducible repeat (first | refine blk_drewN ?_ _ | refine blk_drew ?_ | refine blk_alloc ?_ _)); exact BK101.out⟩
             have n1_ : Aside0 (((w11.setCell ⟨gb104, 0, none⟩ (.int .i64 ((rd_T44 l0_0 x12_1).f0))).setCell ⟨gb104, 1, none⟩ (.int .i64 ((rd_T44 l0_0 x12_1).f1))).heap[gb104]? = some (.cells #[.int .i64 ((rd_T44 l0_0 x12_1).f0), .int .i64 ((rd_T44 l0_0 x12_1).f1)] 44 (0, 0))) := ⟨by (with_reducible repeat (first | refine blk_drewN ?_ _ | refine blk_drew ?_ | refine blk_alloc ?_ _)); refine blk_put (cs := #[.int .i64 ((rd_T44 l0_0 x12_1).f0), .int .i64 0]) ?_ 1 _ rfl; (with_reducible repeat (first | refine blk_drewN ?_ _ | refine blk_drew ?_ | refine blk_alloc ?_ _)); refine blk_put (cs := #[.int .i64 0, .int .i64 0]) ?_ 0 _ rfl; (with_reducible repeat (first | refine blk_drewN ?_ _ | refine blk_drew ?_ | refine blk_alloc ?_ _)); exact BK104.out⟩
             have n2_ : Aside0 (Below w.heap.size w ((w11.setCell ⟨gb104, 0, none⟩ (.int .i64 ((rd_T44 l0_0 x12_1).f0))).setCell ⟨gb104, 1, none⟩ (.int .i64 ((rd_T44 l0_0 x12_1).f1)))) := ⟨hB2 HB.out GE101.out GE104.out⟩
             (try clear BK101)
             (try clear BK104)
             (try clear HB)
             generalize ((w11.setCell ⟨gb104, 0, none⟩ (.int .i64 ((rd_T44 l0_0 x12_1).f0))).setCell ⟨gb104, 1, none⟩ (.int .i64 ((rd_T44 l0_0 x12_1).f1))) = w27 at n0_ n1_ n2_ ⊢
             have BK101 := n0_
             have BK104 := n1_
             have HB := n2_
             clear n0_ n1_ n2_
             have n0_ := Aside0.mk (blk_drew BK101.out)
             have n1_ := Aside0.mk (blk_drew BK104.out)
             have n2_ := Aside0.mk (below_drew1 HB.out)
             clear BK101
             clear BK104
             clear HB
             have BK101 := n0_
             have BK104 := n1_
             have HB := n2_
             clear n0_ n1_ n2_
             refine start_ (n := 31) (S := fun w' => w'.cell? ⟨gb104, 0, none⟩ = some (.int .i64 ((rd_T44 l0_0 x12_1).f0)) ∧ w'.cell? ⟨gb104, 1, none⟩ = some (.int .i64 ((rd_T44 l0_0 x12_1).f1))) (ds := []) fact_Check.b0 (by kernel_rfl) rfl rfl ⟨(blk_cell BK104.out 0).trans rfl, (blk_cell BK104.out 1).trans rfl⟩ (fun hHeld => ?_); refine with_tabW fact_Check.tab6 fact_Check.bits6 (fun HT_ HW_ => ?_)
             generalize w27.drew = w28 at BK101 BK104 HB hHeld ⊢
             refine pY 0 (some 17) fact_Check.b1 rfl rfl HT_.out (fun _ _ _ h => h) ?_
             refine take_ (i := 1) (N := some 18) (v := ?_) (a' := ?_) fact_Check.b2 rfl rfl (take_ofW HT_.out HW_.out (by kernel_rfl)) (fun _ _ _ h => h) (Or.inl ⟨by rfl, ?_⟩) hHeld ?_ ?_
             rotate_left
             ·rintro w' ⟨s0, s1⟩
              go_simp
              with_reducible rfl
             rotate_left
             ·simp only [Act.put, List.setIfInBounds_toArray, List.set_cons_zero, List.set_cons_succ, i64_w, i32_w]
              rfl
             refine one_ (i := 2) (N := some 19) fact_Check.b3 rfl rfl (one_of HT_.out (by kernel_rfl)) (by decide) (fun K hK => ?_)
             refine goes_ Try.func30 (by kernel_rfl) rfl #[.int .i64 ((rd_T44 l0_0 x12_1).f0)] (by rfl) rfl rfl aM ?_
             with_reducible refine (fact_block.calls ((rd_T44 l0_0 x12_1).f0) true _ A14.out).mono ?_
             rintro e w' ⟨rfl, ⟨nd, rfl⟩⟩
             refine ⟨_, rfl, ?_⟩
             refine hK.out _ _ ⟨(blk_cell BK104.out 0).trans rfl, (blk_cell BK104.out 1).trans rfl⟩ (fun hHeld => ?_)
             clear hK K
             refine norm_ (a' := ?_) ?_ ?_
             rotate_left
             ·show Act.put _ (some 19) _ = _
              simp only [Act.put, List.setIfInBounds_toArray, List.set_cons_zero, List.set_cons_succ, i64_w, i32_w]
              rfl
             refine pY 3 (some 20) fact_Check.b4 rfl rfl HT_.out (fun _ _ _ h => h) ?_
             refine pY 4 (some 21) fact_Check.b5 rfl rfl HT_.out (fun _ _ _ h => h) ?_
             refine pY 5 (some 22) fact_Check.b6 rfl rfl HT_.out (fun _ _ _ h => h) ?_
             refine take_ (i := 6) (N := some 23) (v := ?_) (a' := ?_) fact_Check.b7 rfl rfl (take_ofW HT_.out HW_.out (by kernel_rfl)) (fun _ _ _ h => h) (Or.inl ⟨by rfl, ?_⟩) hHeld ?_ ?_
             rotate_left
             ·rintro w' ⟨s0, s1⟩
              go_simp
              with_reducible rfl
             rotate_left
             ·simp only [Act.put, List.setIfInBounds_toArray, List.set_cons_zero, List.set_cons_succ, i64_w, i32_w]
              rfl
             refine one_ (i := 7) (N := some 24) fact_Check.b8 rfl rfl (one_of HT_.out (by kernel_rfl)) (by decide) (fun K hK => ?_)
             refine goes_ Try.func31 (by kernel_rfl) rfl #[.int .i64 ((rd_T44 l0_0 x12_1).f1)] (by rfl) rfl rfl aM ?_
             with_reducible refine (fact_small.calls ((rd_T44 l0_0 x12_1).f1) true _ A16.out).mono ?_
             rintro e w' ⟨rfl, ⟨nd, rfl⟩⟩
             refine ⟨_, rfl, ?_⟩
             refine hK.out _ _ ⟨(blk_cell BK104.out 0).trans rfl, (blk_cell BK104.out 1).trans rfl⟩ (fun hHeld => ?_)
             clear hK K
             refine norm_ (a' := ?_) ?_ ?_
             rotate_left
             ·show Act.put _ (some 24) _ = _
              simp only [Act.put, List.setIfInBounds_toArray, List.set_cons_zero, List.set_cons_succ, i64_w, i32_w]
              rfl
             refine pY 8 (some 25) fact_Check.b9 rfl rfl HT_.out (fun _ _ _ h => h) ?_
             refine pY 9 (some 26) fact_Check.b10 rfl rfl HT_.out (fun _ _ _ h => h) ?_
             refine pY 10 (some 27) fact_Check.b11 rfl rfl HT_.out (fun _ _ _ h => h) ?_
             refine pY 11 (some 28) fact_Check.b12 rfl rfl HT_.out (fun _ _ _ h => h) ?_
             refine take_ (i := 12) (N := some 29) (v := ?_) (a' := ?_) fact_Check.b13 rfl rfl (take_ofW HT_.out HW_.out (by kernel_rfl)) (fun _ _ _ h => h) (Or.inl ⟨by rfl, ?_⟩) hHeld ?_ ?_
             rotate_left
             ·rintro w' ⟨s0, s1⟩
              go_simp
              with_reducible rfl
             rotate_left
             ·simp only [Act.put, List.setIfInBounds_toArray, List.set_cons_zero, List.set_cons_succ, i64_w, i32_w]
              rfl
             refine pY 13 (some 30) fact_Check.b14 rfl rfl HT_.out (fun _ _ _ h => h) ?_
             refine pY 14 (some 31) fact_Check.b15 rfl rfl HT_.out (fun _ _ _ h => h) ?_
             refine pY 15 (some 32) fact_Check.b16 rfl rfl HT_.out (fun _ _ _ h => h) ?_
             refine pY 16 (some 33) fact_Check.b17 rfl rfl HT_.out (fun _ _ _ h => h) ?_
             refine pY 17 (some 34) fact_Check.b18 rfl rfl HT_.out (fun _ _ _ h => h) ?_
             refine pY 18 (some 35) fact_Check.b19 rfl rfl HT_.out (fun _ _ _ h => h) ?_
             refine pN 19 (some 36) fact_Check.b20 rfl rfl HT_.out (fun _ _ _ h => h) ?_
             refine pN 20 (some 37) fact_Check.b21 rfl rfl HT_.out (fun _ _ _ h => h) ?_
             refine pN 21 (some 38) fact_Check.b22 rfl rfl HT_.out (fun _ _ _ h => h) ?_
             refine pN 22 (some 39) fact_Check.b23 rfl rfl HT_.out (fun _ _ _ h => h) ?_
             refine pN 23 (some 40) fact_Check.b24 rfl rfl HT_.out (fun _ _ _ h => h) ?_
             refine pN 24 (some 41) fact_Check.b25 rfl rfl HT_.out (fun _ _ _ h => h) ?_
             refine pN 25 (some 42) fact_Check.b26 rfl rfl HT_.out (fun _ _ _ h => h) ?_
             refine pN 26 (some 43) fact_Check.b27 rfl rfl HT_.out (fun _ _ _ h => h) ?_
             refine pN 27 (some 44) fact_Check.b28 rfl rfl HT_.out (fun _ _ _ h => h) ?_
             refine pN 28 (some 45) fact_Check.b29 rfl rfl HT_.out (fun _ _ _ h => h) ?_
             refine pY 29 (some 46) fact_Check.b30 rfl rfl HT_.out (fun _ _ _ h => h) ?_
             refine pY 30 (some 47) fact_Check.b31 rfl rfl HT_.out (fun _ _ _ h => h) ?_
             refine done_ (done_of HT_.out (by kernel_rfl)) ?_
             try go_wp2
             go_meet
             case rel => exact ⟨_, (false), rS, H', ⟨by have := HK1.out; first | omega | exact Nat.le_refl _⟩, ⟨bK BK101.out⟩, ⟨bK BK104.out⟩, ⟨hB2 HB.out GE101.out GE104.out⟩⟩
          ·replace c17 := Bool.eq_false_iff.mpr c17
           subst c17
           have H1 : (fact_Check.j1 k1 l0_0 (l0_0.length : Int) x12_1 true l0_0 a0_1) = some r := by rw [if_neg (show ¬ (false = true) by decide)] at H; exact H
           clear H
           have H := H1
           clear H1
           have H' := Aside0.mk H
           clear H
           try go_wp2
           have n0_ : Aside0 (((w11.setCell ⟨gb104, 0, none⟩ (.int .i64 ((rd_T44 l0_0 x12_1).f0))).setCell ⟨gb104, 1, none⟩ (.int .i64 ((rd_T44 l0_0 x12_1).f1))).heap[gb101]? = some (.cells #[.slice (some ad103) l0_0.length c0_0, .int .i64 a0_1] 30 (0, 0))) := ⟨by (with_reducible repeat (first | refine blk_drewN ?_ _ | refine blk_drew ?_ | refine blk_alloc ?_ _)); refine blk_far ?_ NB101_104.out _; (with_reducible repeat (first | refine blk_drewN ?_ _ | refine blk_drew ?_ | refine blk_alloc ?_ _)); refine blk_far ?_ NB101_104.out _; (with_reducible repeat (first | refine blk_drewN ?_ _ | refine blk_drew ?_ | refine blk_alloc ?_ _)); exact BK101.out⟩
           have n1_ : Aside0 (((w11.setCell ⟨gb104, 0, none⟩ (.int .i64 ((rd_T44 l0_0 x12_1).f0))).setCell ⟨gb104, 1, none⟩ (.int .i64 ((rd_T44 l0_0 x12_1).f1))).heap[gb104]? = some (.cells #[.int .i64 ((rd_T44 l0_0 x12_1).f0), .int .i64 ((rd_T44 l0_0 x12_1).f1)] 44 (0, 0))) := ⟨by (with_reducible repeat (first | refine blk_drewN ?_ _ | refine blk_drew ?_ | refine blk_alloc ?_ _)); refine blk_put (cs := #[.int .i64 ((rd_T44 l0_0 x12_1).f0), .int .i64 0]) ?_ 1 _ rfl; (with_reducible repeat (first | refine blk_drewN ?_ _ | refine blk_drew ?_ | refine blk_alloc ?_ _)); refine blk_put (cs := #[.int .i64 0, .int .i64 0]) ?_ 0 _ rfl; (with_reducible repeat (first | refine blk_drewN ?_ _ | refine blk_drew ?_ | refine blk_alloc ?_ _)); exact BK104.out⟩
           have n2_ : Aside0 (Below w.heap.size w ((w11.setCell ⟨gb104, 0, none⟩ (.int .i64 ((rd_T44 l0_0 x12_1).f0))).setCell ⟨gb104, 1, none⟩ (.int .i64 ((rd_T44 l0_0 x12_1).f1)))) := ⟨hB2 HB.out GE101.out GE104.out⟩
           (try clear BK101)
           (try clear BK104)
           (try clear HB)
           generalize ((w11.setCell ⟨gb104, 0, none⟩ (.int .i64 ((rd_T44 l0_0 x12_1).f0))).setCell ⟨gb104, 1, none⟩ (.int .i64 ((rd_T44 l0_0 x12_1).f1))) = w29 at n0_ n1_ n2_ ⊢
           have BK101 := n0_
           have BK104 := n1_
           have HB := n2_
           clear n0_ n1_ n2_
           have n0_ := Aside0.mk (blk_drew BK101.out)
           have n1_ := Aside0.mk (blk_drew BK104.out)
           have n2_ := Aside0.mk (below_drew1 HB.out)
           clear BK101
           clear BK104
           clear HB
           have BK101 := n0_
           have BK104 := n1_
           have HB := n2_
           clear n0_ n1_ n2_
           refine start_ (n := 31) (S := fun w' => w'.cell? ⟨gb104, 0, none⟩ = some (.int .i64 ((rd_T44 l0_0 x12_1).f0)) ∧ w'.cell? ⟨gb104, 1, none⟩ = some (.int .i64 ((rd_T44 l0_0 x12_1).f1))) (ds := []) fact_Check.b0 (by kernel_rfl) rfl rfl ⟨(blk_cell BK104.out 0).trans rfl, (blk_cell BK104.out 1).trans rfl⟩ (fun hHeld => ?_); refine with_tabW fact_Check.tab6 fact_Check.bits6 (fun HT_ HW_ => ?_)
           generalize w29.drew = w30 at BK101 BK104 HB hHeld ⊢
           refine pY 0 (some 17) fact_Check.b1 rfl rfl HT_.out (fun _ _ _ h => h) ?_
           refine take_ (i := 1) (N := some 18) (v := ?_) (a' := ?_) fact_Check.b2 rfl rfl (take_ofW HT_.out HW_.out (by kernel_rfl)) (fun _ _ _ h => h) (Or.inl ⟨by rfl, ?_⟩) hHeld ?_ ?_
           rotate_left
           ·rintro w' ⟨s0, s1⟩
            go_simp
            with_reducible rfl
           rotate_left
           ·simp only [Act.put, List.setIfInBounds_toArray, List.set_cons_zero, List.set_cons_succ, i64_w, i32_w]
            rfl
           refine one_ (i := 2) (N := some 19) fact_Check.b3 rfl rfl (one_of HT_.out (by kernel_rfl)) (by decide) (fun K hK => ?_)
           refine goes_ Try.func30 (by kernel_rfl) rfl #[.int .i64 ((rd_T44 l0_0 x12_1).f0)] (by rfl) rfl rfl aM ?_
           with_reducible refine (fact_block.calls ((rd_T44 l0_0 x12_1).f0) true _ A14.out).mono ?_
           rintro e w' ⟨rfl, ⟨nd, rfl⟩⟩
           refine ⟨_, rfl, ?_⟩
           refine hK.out _ _ ⟨(blk_cell BK104.out 0).trans rfl, (blk_cell BK104.out 1).trans rfl⟩ (fun hHeld => ?_)
           clear hK K
           refine norm_ (a' := ?_) ?_ ?_
           rotate_left
           ·show Act.put _ (some 19) _ = _
            simp only [Act.put, List.setIfInBounds_toArray, List.set_cons_zero, List.set_cons_succ, i64_w, i32_w]
            rfl
           refine pY 3 (some 20) fact_Check.b4 rfl rfl HT_.out (fun _ _ _ h => h) ?_
           refine pY 4 (some 21) fact_Check.b5 rfl rfl HT_.out (fun _ _ _ h => h) ?_
           refine pY 5 (some 22) fact_Check.b6 rfl rfl HT_.out (fun _ _ _ h => h) ?_
           refine take_ (i := 6) (N := some 23) (v := ?_) (a' := ?_) fact_Check.b7 rfl rfl (take_ofW HT_.out HW_.out (by kernel_rfl)) (fun _ _ _ h => h) (Or.inl ⟨by rfl, ?_⟩) hHeld ?_ ?_
           rotate_left
           ·rintro w' ⟨s0, s1⟩
            go_simp
            with_reducible rfl
           rotate_left
           ·simp only [Act.put, List.setIfInBounds_toArray, List.set_cons_zero, List.set_cons_succ, i64_w, i32_w]
            rfl
           refine one_ (i := 7) (N := some 24) fact_Check.b8 rfl rfl (one_of HT_.out (by kernel_rfl)) (by decide) (fun K hK => ?_)
           refine goes_ Try.func31 (by kernel_rfl) rfl #[.int .i64 ((rd_T44 l0_0 x12_1).f1)] (by rfl) rfl rfl aM ?_
           with_reducible refine (fact_small.calls ((rd_T44 l0_0 x12_1).f1) false _ A16.out).mono ?_
           rintro e w' ⟨rfl, ⟨nd, rfl⟩⟩
           refine ⟨_, rfl, ?_⟩
           refine hK.out _ _ ⟨(blk_cell BK104.out 0).trans rfl, (blk_cell BK104.out 1).trans rfl⟩ (fun hHeld => ?_)
           clear hK K
           refine norm_ (a' := ?_) ?_ ?_
           rotate_left
           ·show Act.put _ (some 24) _ = _
            simp only [Act.put, List.setIfInBounds_toArray, List.set_cons_zero, List.set_cons_succ, i64_w, i32_w]
            rfl
           refine pY 8 (some 25) fact_Check.b9 rfl rfl HT_.out (fun _ _ _ h => h) ?_
           refine pY 9 (some 26) fact_Check.b10 rfl rfl HT_.out (fun _ _ _ h => h) ?_
           refine pY 10 (some 27) fact_Check.b11 rfl rfl HT_.out (fun _ _ _ h => h) ?_
           refine pN 11 (some 28) fact_Check.b12 rfl rfl HT_.out (fun _ _ _ h => h) ?_
           refine pN 12 (some 29) fact_Check.b13 rfl rfl HT_.out (fun _ _ _ h => h) ?_
           refine pN 13 (some 30) fact_Check.b14 rfl rfl HT_.out (fun _ _ _ h => h) ?_
           refine pY 14 (some 31) fact_Check.b15 rfl rfl HT_.out (fun _ _ _ h => h) ?_
           refine pY 15 (some 32) fact_Check.b16 rfl rfl HT_.out (fun _ _ _ h => h) ?_
           refine pN 16 (some 33) fact_Check.b17 rfl rfl HT_.out (fun _ _ _ h => h) ?_
           refine pN 17 (some 34) fact_Check.b18 rfl rfl HT_.out (fun _ _ _ h => h) ?_
           refine pN 18 (some 35) fact_Check.b19 rfl rfl HT_.out (fun _ _ _ h => h) ?_
           refine pN 19 (some 36) fact_Check.b20 rfl rfl HT_.out (fun _ _ _ h => h) ?_
           refine pN 20 (some 37) fact_Check.b21 rfl rfl HT_.out (fun _ _ _ h => h) ?_
           refine pN 21 (some 38) fact_Check.b22 rfl rfl HT_.out (fun _ _ _ h => h) ?_
           refine pN 22 (some 39) fact_Check.b23 rfl rfl HT_.out (fun _ _ _ h => h) ?_
           refine pN 23 (some 40) fact_Check.b24 rfl rfl HT_.out (fun _ _ _ h => h) ?_
           refine pN 24 (some 41) fact_Check.b25 rfl rfl HT_.out (fun _ _ _ h => h) ?_
           refine pN 25 (some 42) fact_Check.b26 rfl rfl HT_.out (fun _ _ _ h => h) ?_
           refine pN 26 (some 43) fact_Check.b27 rfl rfl HT_.out (fun _ _ _ h => h) ?_
           refine pN 27 (some 44) fact_Check.b28 rfl rfl HT_.out (fun _ _ _ h => h) ?_
           refine pN 28 (some 45) fact_Check.b29 rfl rfl HT_.out (fun _ _ _ h => h) ?_
           refine pN 29 (some 46) fact_Check.b30 rfl rfl HT_.out (fun _ _ _ h => h) ?_
           refine pY 30 (some 47) fact_Check.b31 rfl rfl HT_.out (fun _ _ _ h => h) ?_
           refine done_ (done_of HT_.out (by kernel_rfl)) ?_
           try go_wp2
           go_meet
           case rel => exact ⟨_, (true), rS, H', ⟨by have := HK1.out; first | omega | exact Nat.le_refl _⟩, ⟨bK BK101.out⟩, ⟨bK BK104.out⟩, ⟨hB2 HB.out GE101.out GE104.out⟩⟩
         ·replace c15 := Bool.eq_false_iff.mpr c15
          subst c15
          have H1 : (fact_Check.j1 k1 l0_0 (l0_0.length : Int) x12_1 true l0_0 a0_1) = some r := by rw [if_neg (show ¬ (false = true) by decide)] at H; exact H
          clear H
          have H := H1
          clear H1
          have H' := Aside0.mk H
          clear H
          try go_wp2
          have n0_ : Aside0 (((w11.setCell ⟨gb104, 0, none⟩ (.int .i64 ((rd_T44 l0_0 x12_1).f0))).setCell ⟨gb104, 1, none⟩ (.int .i64 ((rd_T44 l0_0 x12_1).f1))).heap[gb101]? = some (.cells #[.slice (some ad103) l0_0.length c0_0, .int .i64 a0_1] 30 (0, 0))) := ⟨by (with_reducible repeat (first | refine blk_drewN ?_ _ | refine blk_drew ?_ | refine blk_alloc ?_ _)); refine blk_far ?_ NB101_104.out _; (with_reducible repeat (first | refine blk_drewN ?_ _ | refine blk_drew ?_ | refine blk_alloc ?_ _)); refine blk_far ?_ NB101_104.out _; (with_reducible repeat (first | refine blk_drewN ?_ _ | refine blk_drew ?_ | refine blk_alloc ?_ _)); exact BK101.out⟩
          have n1_ : Aside0 (((w11.setCell ⟨gb104, 0, none⟩ (.int .i64 ((rd_T44 l0_0 x12_1).f0))).setCell ⟨gb104, 1, none⟩ (.int .i64 ((rd_T44 l0_0 x12_1).f1))).heap[gb104]? = some (.cells #[.int .i64 ((rd_T44 l0_0 x12_1).f0), .int .i64 ((rd_T44 l0_0 x12_1).f1)] 44 (0, 0))) := ⟨by (with_reducible repeat (first | refine blk_drewN ?_ _ | refine blk_drew ?_ | refine blk_alloc ?_ _)); refine blk_put (cs := #[.int .i64 ((rd_T44 l0_0 x12_1).f0), .int .i64 0]) ?_ 1 _ rfl; (with_reducible repeat (first | refine blk_drewN ?_ _ | refine blk_drew ?_ | refine blk_alloc ?_ _)); refine blk_put (cs := #[.int .i64 0, .int .i64 0]) ?_ 0 _ rfl; (with_reducible repeat (first | refine blk_drewN ?_ _ | refine blk_drew ?_ | refine blk_alloc ?_ _)); exact BK104.out⟩
          have n2_ : Aside0 (Below w.heap.size w ((w11.setCell ⟨gb104, 0, none⟩ (.int .i64 ((rd_T44 l0_0 x12_1).f0))).setCell ⟨gb104, 1, none⟩ (.int .i64 ((rd_T44 l0_0 x12_1).f1)))) := ⟨hB2 HB.out GE101.out GE104.out⟩
          (try clear BK101)
          (try clear BK104)
          (try clear HB)
          generalize ((w11.setCell ⟨gb104, 0, none⟩ (.int .i64 ((rd_T44 l0_0 x12_1).f0))).setCell ⟨gb104, 1, none⟩ (.int .i64 ((rd_T44 l0_0 x12_1).f1))) = w31 at n0_ n1_ n2_ ⊢
          have BK101 := n0_
          have BK104 := n1_
          have HB := n2_
          clear n0_ n1_ n2_
          have n0_ := Aside0.mk (blk_drew BK101.out)
          have n1_ := Aside0.mk (blk_drew BK104.out)
          have n2_ := Aside0.mk (below_drew1 HB.out)
          clear BK101
          clear BK104
          clear HB
          have BK101 := n0_
          have BK104 := n1_
          have HB := n2_
          clear n0_ n1_ n2_
          refine start_ (n := 31) (S := fun w' => w'.cell? ⟨gb104, 0, none⟩ = some (.int .i64 ((rd_T44 l0_0 x12_1).f0)) ∧ w'.cell? ⟨gb104, 1, none⟩ = some (.int .i64 ((rd_T44 l0_0 x12_1).f1))) (ds := []) fact_Check.b0 (by kernel_rfl) rfl rfl ⟨(blk_cell BK104.out 0).trans rfl, (blk_cell BK104.out 1).trans rfl⟩ (fun hHeld => ?_); refine with_tabW fact_Check.tab6 fact_Check.bits6 (fun HT_ HW_ => ?_)
          generalize w31.drew = w32 at BK101 BK104 HB hHeld ⊢
          refine pY 0 (some 17) fact_Check.b1 rfl rfl HT_.out (fun _ _ _ h => h) ?_
          refine take_ (i := 1) (N := some 18) (v := ?_) (a' := ?_) fact_Check.b2 rfl rfl (take_ofW HT_.out HW_.out (by kernel_rfl)) (fun _ _ _ h => h) (Or.inl ⟨by rfl, ?_⟩) hHeld ?_ ?_
          rotate_left
          ·rintro w' ⟨s0, s1⟩
           go_simp
           with_reducible rfl
          rotate_left
          ·simp only [Act.put, List.setIfInBounds_toArray, List.set_cons_zero, List.set_cons_succ, i64_w, i32_w]
           rfl
          refine one_ (i := 2) (N := some 19) fact_Check.b3 rfl rfl (one_of HT_.out (by kernel_rfl)) (by decide) (fun K hK => ?_)
          refine goes_ Try.func30 (by kernel_rfl) rfl #[.int .i64 ((rd_T44 l0_0 x12_1).f0)] (by rfl) rfl rfl aM ?_
          with_reducible refine (fact_block.calls ((rd_T44 l0_0 x12_1).f0) false _ A14.out).mono ?_
          rintro e w' ⟨rfl, ⟨nd, rfl⟩⟩
          refine ⟨_, rfl, ?_⟩
          refine hK.out _ _ ⟨(blk_cell BK104.out 0).trans rfl, (blk_cell BK104.out 1).trans rfl⟩ (fun hHeld => ?_)
          clear hK K
          refine norm_ (a' := ?_) ?_ ?_
          rotate_left
          ·show Act.put _ (some 19) _ = _
           simp only [Act.put, List.setIfInBounds_toArray, List.set_cons_zero, List.set_cons_succ, i64_w, i32_w]
           rfl
          refine pY 3 (some 20) fact_Check.b4 rfl rfl HT_.out (fun _ _ _ h => h) ?_
          refine pY 4 (some 21) fact_Check.b5 rfl rfl HT_.out (fun _ _ _ h => h) ?_
          refine pN 5 (some 22) fact_Check.b6 rfl rfl HT_.out (fun _ _ _ h => h) ?_
          refine pN 6 (some 23) fact_Check.b7 rfl rfl HT_.out (fun _ _ _ h => h) ?_
          refine pN 7 (some 24) fact_Check.b8 rfl rfl HT_.out (fun _ _ _ h => h) ?_
          refine pN 8 (some 25) fact_Check.b9 rfl rfl HT_.out (fun _ _ _ h => h) ?_
          refine pY 9 (some 26) fact_Check.b10 rfl rfl HT_.out (fun _ _ _ h => h) ?_
          refine pY 10 (some 27) fact_Check.b11 rfl rfl HT_.out (fun _ _ _ h => h) ?_
          refine pN 11 (some 28) fact_Check.b12 rfl rfl HT_.out (fun _ _ _ h => h) ?_
          refine pN 12 (some 29) fact_Check.b13 rfl rfl HT_.out (fun _ _ _ h => h) ?_
          refine pN 13 (some 30) fact_Check.b14 rfl rfl HT_.out (fun _ _ _ h => h) ?_
          refine pY 14 (some 31) fact_Check.b15 rfl rfl HT_.out (fun _ _ _ h => h) ?_
          refine pY 15 (some 32) fact_Check.b16 rfl rfl HT_.out (fun _ _ _ h => h) ?_
          refine pN 16 (some 33) fact_Check.b17 rfl rfl HT_.out (fun _ _ _ h => h) ?_
          refine pN 17 (some 34) fact_Check.b18 rfl rfl HT_.out (fun _ _ _ h => h) ?_
          refine pN 18 (some 35) fact_Check.b19 rfl rfl HT_.out (fun _ _ _ h => h) ?_
          refine pN 19 (some 36) fact_Check.b20 rfl rfl HT_.out (fun _ _ _ h => h) ?_
          refine pN 20 (some 37) fact_Check.b21 rfl rfl HT_.out (fun _ _ _ h => h) ?_
          refine pN 21 (some 38) fact_Check.b22 rfl rfl HT_.out (fun _ _ _ h => h) ?_
          refine pN 22 (some 39) fact_Check.b23 rfl rfl HT_.out (fun _ _ _ h => h) ?_
          refine pN 23 (some 40) fact_Check.b24 rfl rfl HT_.out (fun _ _ _ h => h) ?_
          refine pN 24 (some 41) fact_Check.b25 rfl rfl HT_.out (fun _ _ _ h => h) ?_
          refine pN 25 (some 42) fact_Check.b26 rfl rfl HT_.out (fun _ _ _ h => h) ?_
          refine pN 26 (some 43) fact_Check.b27 rfl rfl HT_.out (fun _ _ _ h => h) ?_
          refine pN 27 (some 44) fact_Check.b28 rfl rfl HT_.out (fun _ _ _ h => h) ?_
          refine pN 28 (some 45) fact_Check.b29 rfl rfl HT_.out (fun _ _ _ h => h) ?_
          refine pN 29 (some 46) fact_Check.b30 rfl rfl HT_.out (fun _ _ _ h => h) ?_
          refine pY 30 (some 47) fact_Check.b31 rfl rfl HT_.out (fun _ _ _ h => h) ?_
          refine done_ (done_of HT_.out (by kernel_rfl)) ?_
          try go_wp2
          go_meet
          case rel => exact ⟨_, (true), rS, H', ⟨by have := HK1.out; first | omega | exact Nat.le_refl _⟩, ⟨bK BK101.out⟩, ⟨bK BK104.out⟩, ⟨hB2 HB.out GE101.out GE104.out⟩⟩
        case rest =>
         clear HC10
         obtain ⟨kq, x47_9, rfl, HA, HJ9, BK101, BK104, HB⟩ := hcut
         cases kq with
         | zero => exact absurd HA.out (by simp [fact_Check.j1])
         | succ kj9 =>
          have H := HA.out
          clear HA
          simp only [fact_Check.j1] at H
          by_cases c33 : x47_9 = true
          ·subst c33
           have H1 : (some 10) = some r := by rw [if_pos rfl] at H; exact H
           clear H
           have H := H1
           clear H1
           obtain rfl := Option.some.inj H
           go_wp2
           go_ret
           exact ⟨eW, hB2 HB.out GE101.out GE104.out⟩
          ·replace c33 := Bool.eq_false_iff.mpr c33
           subst c33
           have H1 : (fact_Check.l0 kj9 l0_0 (l0_0.length : Int) (wrap64 (x12_1 + 1)) l0_0 a0_1) = some r := by rw [if_neg (show ¬ (false = true) by decide)] at H; exact H
           clear H
           have H := H1
           clear H1
           have H' := Aside0.mk H
           clear H
           go_wp2
           go_roundg kj9
           case measure => have := HK1.out; have := HJ9.out; omega
           case rel => exact ⟨(wrap64 (x12_1 + 1)), rS, H', ⟨by have := HK1.out; have := HJ9.out; omega⟩, ⟨bK BK101.out⟩, ⟨hB2 HB.out GE101.out GE104.out⟩⟩
       ·rw [if_neg c9] at H
        exact absurd H (by simp)
      ·rw [if_neg c8] at H
       exact absurd H (by simp)
     ·rw [if_neg c7] at H
      have c7b0 : decide (x12_1 < (l0_0.length : Int)) = false := decide_eq_false c7
      clear c7
      replace H := Option.bind_eq_some_iff.mp H
      obtain ⟨t102, A340, H⟩ := H
      replace H : (if t102 = true then (some 0) else (some 10)) = some r := H
      have A34 := Aside0.mk A340
      clear A340
      by_cases c35 : t102 = true
      ·subst c35
       have H1 : (some 0) = some r := by rw [if_pos rfl] at H; exact H
       clear H
       have H := H1
       clear H1
       obtain rfl := Option.some.inj H
       have hcz36_0 : wr.cell? ⟨gb101, 0, none⟩ = some (.slice A0_0 l0_0.length c0_0) := (blk_cell BK101.out 0).trans rfl
       have hcz36_1 : wr.cell? ⟨gb101, 1, none⟩ = some (.int .i64 a0_1) := (blk_cell BK101.out 1).trans rfl
       have hfz36_0 := blk_frozen BK101.out 0
       have hfz36_1 := blk_frozen BK101.out 1
       go_wp2_with (first | ((with_reducible refine gate_callee (f := 31) rfl ?_); refine goesL_ (some 51) rfl rfl Try.func31 (by kernel_rfl) rfl #[.int .i64 a0_1] rfl aM ?_; (with_reducible refine (fact_small.calls a0_1 true _ A34.out).mono ?_); rintro e w' ⟨rfl, ⟨nd, rfl⟩⟩; refine ⟨_, rfl, ?_⟩))
       go_ret
       exact ⟨eW, hB1 HB.out GE101.out⟩
      ·replace c35 := Bool.eq_false_iff.mpr c35
       subst c35
       have H1 : (some 10) = some r := by rw [if_neg (show ¬ (false = true) by decide)] at H; exact H
       clear H
       have H := H1
       clear H1
       obtain rfl := Option.some.inj H
       have hcz37_0 : wr.cell? ⟨gb101, 0, none⟩ = some (.slice A0_0 l0_0.length c0_0) := (blk_cell BK101.out 0).trans rfl
       have hcz37_1 : wr.cell? ⟨gb101, 1, none⟩ = some (.int .i64 a0_1) := (blk_cell BK101.out 1).trans rfl
       have hfz37_0 := blk_frozen BK101.out 0
       have hfz37_1 := blk_frozen BK101.out 1
       go_wp2_with (first | ((with_reducible refine gate_callee (f := 31) rfl ?_); refine goesL_ (some 51) rfl rfl Try.func31 (by kernel_rfl) rfl #[.int .i64 a0_1] rfl aM ?_; (with_reducible refine (fact_small.calls a0_1 false _ A34.out).mono ?_); rintro e w' ⟨rfl, ⟨nd, rfl⟩⟩; refine ⟨_, rfl, ?_⟩))
       go_ret
       exact ⟨eW, hB1 HB.out GE101.out⟩
def fact_Sum_1.f (a0 : Int) : Option (Bool) := if a0 < 0 then (some true) else (some (decide (a0 > 2147483648)))
set_option maxHeartbeats 8000000 in
set_option maxRecDepth 100000 in
theorem fact_Sum_1.calls (a0 : Int) (r : Bool) (w : World) (h : fact_Sum_1.f a0 = some r) :
   Calls Try.prog 29 #[.int .i64 a0] w fun e w' => e = .returned (.bool r) ∧ Drawn0 w w' := by
  have H : (if a0 < 0 then (some true) else (some (decide (a0 > 2147483648)))) = some r := h
  clear h
  by_cases c2 : a0 < 0
  ·rw [if_pos c2] at H
   have c2b0 : decide (a0 < 0) = true := decide_eq_true c2
   clear c2
   obtain rfl := Option.some.inj H
   go_enter Try.func29, Try.ntmps29
   go_wp2
   go_ret
   exact ⟨by first | rfl | (simp; done) | (simp [*]; done), by repeat (first | exact Drawn0.refl _ | apply Drawn0.step)⟩
  ·rw [if_neg c2] at H
   have c2b0 : decide (a0 < 0) = false := decide_eq_false c2
   clear c2
   obtain rfl := Option.some.inj H
   go_enter Try.func29, Try.ntmps29
   go_wp2
   go_ret
   exact ⟨by first | rfl | (simp; done) | (simp [*]; done), by repeat (first | exact Drawn0.refl _ | apply Drawn0.step)⟩
def slices_IndexFunc_int_int_48_at29.l0 : Nat → List Int → Int → Int → Option (Int)
  | 0, _, _, _ => none
  | k + 1, x0, x7, x8 => if x8 < x7 then (if 0 ≤ x8 then (if x8 < (x0.length : Int) then ((fact_Sum_1.f (rd x0 x8)).bind fun t102 => (if t102 = true then (some x8) else (slices_IndexFunc_int_int_48_at29.l0 k x0 x7 (wrap64 (x8 + 1))))) else (none)) else (none)) else (some (-1))
def slices_IndexFunc_int_int_48_at29.f (k : Nat) (l0 : List Int)  : Option (Int) := slices_IndexFunc_int_int_48_at29.l0 k l0 (l0.length : Int) 0
theorem slices_IndexFunc_int_int_48_at29.mono_l : ∀ k, (∀ y0 y1 y2, LeO (slices_IndexFunc_int_int_48_at29.l0 k y0 y1 y2) (slices_IndexFunc_int_int_48_at29.l0 (k + 1) y0 y1 y2))
  | 0 => fun _ _ _ r h => by simp [slices_IndexFunc_int_int_48_at29.l0] at h
  | k + 1 => by
   have ih0 := slices_IndexFunc_int_int_48_at29.mono_l k
   ·intro y0 y1 y2
    unfold slices_IndexFunc_int_int_48_at29.l0
    repeat' first
    | (with_reducible exact ih0 _ _ _)
    | (with_reducible exact LeO.refl _)
    | (with_reducible exact LeO.none _)
    | (with_reducible refine LeO.ite ?_ ?_)
    | (with_reducible refine LeO.bind ?_ (fun _ => ?_))
    | exact ih0 _ _ _
    | exact LeO.none _
    | refine LeO.ite ?_ ?_
    | refine LeO.bind ?_ (fun _ => ?_)
theorem slices_IndexFunc_int_int_48_at29.mono : ∀ a0 k, LeO (slices_IndexFunc_int_int_48_at29.f k a0) (slices_IndexFunc_int_int_48_at29.f (k + 1) a0) := by
  intro a0 k
  have ih0 := slices_IndexFunc_int_int_48_at29.mono_l k
  unfold slices_IndexFunc_int_int_48_at29.f
  repeat' first
    | (with_reducible exact ih0 _ _ _)
    | (with_reducible exact LeO.refl _)
    | (with_reducible exact LeO.none _)
    | (with_reducible refine LeO.ite ?_ ?_)
    | (with_reducible refine LeO.bind ?_ (fun _ => ?_))
    | exact ih0 _ _ _
    | exact LeO.none _
    | refine LeO.ite ?_ ?_
    | refine LeO.bind ?_ (fun _ => ?_)
set_option maxHeartbeats 8000000 in
set_option maxRecDepth 100000 in
theorem slices_IndexFunc_int_int_48_at29.calls (k : Nat) (A0 : Option Addr) (c0 : Nat) (l0 : List Int)  (r : Int) (w : World) (hr0 : Kd.C (Kd.int .i64) w A0 l0.length l0) (hc0 : l0.length ≤ c0) (h : slices_IndexFunc_int_int_48_at29.f k l0 = some r) :
   Calls Try.prog 48 #[.slice A0 l0.length c0, .func (.func 29) #[] #[]] w fun e w' => e = .returned (.int .i64 r) ∧ Drawn0 w w' := by
  have HR0 := Aside0.mk hr0
  have HC0 := Aside0.mk hc0
  clear hr0 hc0
  have H : (slices_IndexFunc_int_int_48_at29.l0 k l0 (l0.length : Int) 0) = some r := h
  clear h
  have H' := Aside0.mk H
  clear H
  go_enter Try.func48, Try.ntmps48
  go_wp2
  go_loopg [8] k (fun kq v8 w' => ∃ (x8_1 : Int), v8 = .int .i64 x8_1 ∧ Aside0 (slices_IndexFunc_int_int_48_at29.l0 kq l0 (l0.length : Int) x8_1 = some r) ∧ Aside0 (kq ≤ k) ∧ Drawn0 w w')
  case atStart => exact ⟨(0), rS, H', ⟨Nat.le_refl _⟩, by repeat (first | exact Drawn0.refl _ | apply Drawn0.step)⟩
  case round =>
   clear H'
   obtain ⟨x8_1, rfl, HA, HK1, ⟨m1, rfl⟩⟩ := hrel
   cases gk with
   | zero => exact absurd HA.out (by simp [slices_IndexFunc_int_int_48_at29.l0])
   | succ k1 =>
    have H := HA.out
    clear HA
    simp only [slices_IndexFunc_int_int_48_at29.l0] at H
    by_cases c3 : x8_1 < (l0.length : Int)
    ·rw [if_pos c3] at H
     have c3b0 : decide (x8_1 < (l0.length : Int)) = true := decide_eq_true c3
     clear c3
     by_cases c4 : 0 ≤ x8_1
     ·rw [if_pos c4] at H
      have c4b0 : decide (0 ≤ x8_1) = true := decide_eq_true c4
      clear c4
      by_cases c5 : x8_1 < (l0.length : Int)
      ·rw [if_pos c5] at H
       have c5b0 : decide (x8_1 < (l0.length : Int)) = true := decide_eq_true c5
       clear c5
       replace H := Option.bind_eq_some_iff.mp H
       obtain ⟨t102, A60, H⟩ := H
       replace H : (if t102 = true then (some x8_1) else (slices_IndexFunc_int_int_48_at29.l0 k1 l0 (l0.length : Int) (wrap64 (x8_1 + 1)))) = some r := H
       have A6 := Aside0.mk A60
       clear A60
       by_cases c7 : t102 = true
       ·subst c7
        have H1 : (some x8_1) = some r := by rw [if_pos rfl] at H; exact H
        clear H
        have H := H1
        clear H1
        obtain rfl := Option.some.inj H
        have p101 : 0 ≤ (x8_1 : Int) := oD
        have q101 : x8_1 < (l0.length : Int) := oD
        obtain ⟨ad101, e101, hx101_0⟩ := Kd.at_int HR0.out x8_1 p101 q101
        cases e101
        replace p101 := eq_true p101
        replace q101 := eq_true q101
        go_wp2_with (first | (go_at_call 29; (with_reducible refine (fact_Sum_1.calls (rd l0 x8_1) true _ A6.out).mono ?_); rintro e w' ⟨rfl, ⟨nd, rfl⟩⟩))
        go_ret
        exact ⟨by first | rfl | (simp; done) | (simp [*]; done), by repeat (first | exact Drawn0.refl _ | apply Drawn0.step)⟩
       ·replace c7 := Bool.eq_false_iff.mpr c7
        subst c7
        have H1 : (slices_IndexFunc_int_int_48_at29.l0 k1 l0 (l0.length : Int) (wrap64 (x8_1 + 1))) = some r := by rw [if_neg (show ¬ (false = true) by decide)] at H; exact H
        clear H
        have H := H1
        clear H1
        have H' := Aside0.mk H
        clear H
        have p101 : 0 ≤ (x8_1 : Int) := oD
        have q101 : x8_1 < (l0.length : Int) := oD
        obtain ⟨ad101, e101, hx101_0⟩ := Kd.at_int HR0.out x8_1 p101 q101
        cases e101
        replace p101 := eq_true p101
        replace q101 := eq_true q101
        go_wp2_with (first | (go_at_call 29; (with_reducible refine (fact_Sum_1.calls (rd l0 x8_1) false _ A6.out).mono ?_); rintro e w' ⟨rfl, ⟨nd, rfl⟩⟩))
        go_roundg k1
        case measure => have := HK1.out; omega
        case rel => exact ⟨(wrap64 (x8_1 + 1)), rS, H', ⟨by have := HK1.out; omega⟩, by repeat (first | exact Drawn0.refl _ | apply Drawn0.step)⟩
      ·rw [if_neg c5] at H
       exact absurd H (by simp)
     ·rw [if_neg c4] at H
      exact absurd H (by simp)
    ·rw [if_neg c3] at H
     have c3b0 : decide (x8_1 < (l0.length : Int)) = false := decide_eq_false c3
     clear c3
     obtain rfl := Option.some.inj H
     go_wp2
     go_ret
     exact ⟨by first | rfl | (simp; done) | (simp [*]; done), by repeat (first | exact Drawn0.refl _ | apply Drawn0.step)⟩
def slices_ContainsFunc_int_int_28_at29.f (k : Nat) (l0 : List Int)  : Option (Bool) := (slices_IndexFunc_int_int_48_at29.f k l0).bind fun t103 => (some (decide (t103 ≥ 0)))
theorem slices_ContainsFunc_int_int_28_at29.mono : ∀ a0 k, LeO (slices_ContainsFunc_int_int_28_at29.f k a0) (slices_ContainsFunc_int_int_28_at29.f (k + 1) a0) := by
  intro a0 k
  unfold slices_ContainsFunc_int_int_28_at29.f
  repeat' first
    | (with_reducible exact slices_IndexFunc_int_int_48_at29.mono _ _)
    | (with_reducible exact LeO.refl _)
    | (with_reducible exact LeO.none _)
    | (with_reducible refine LeO.ite ?_ ?_)
    | (with_reducible refine LeO.bind ?_ (fun _ => ?_))
    | exact slices_IndexFunc_int_int_48_at29.mono _ _
    | exact LeO.none _
    | refine LeO.ite ?_ ?_
    | refine LeO.bind ?_ (fun _ => ?_)
set_option maxHeartbeats 8000000 in
set_option maxRecDepth 100000 in
theorem slices_ContainsFunc_int_int_28_at29.calls (k : Nat) (A0 : Option Addr) (c0 : Nat) (l0 : List Int)  (r : Bool) (w : World) (hr0 : Kd.C (Kd.int .i64) w A0 l0.length l0) (hc0 : l0.length ≤ c0) (h : slices_ContainsFunc_int_int_28_at29.f k l0 = some r) :
   Calls Try.prog 28 #[.slice A0 l0.length c0, .func (.func 29) #[] #[]] w fun e w' => e = .returned (.bool r) ∧ Drawn0 w w' := by
  have HR0 := Aside0.mk hr0
  have HC0 := Aside0.mk hc0
  clear hr0 hc0
  have H : ((slices_IndexFunc_int_int_48_at29.f k l0).bind fun t103 => (some (decide (t103 ≥ 0)))) = some r := h
  clear h
  replace H := Option.bind_eq_some_iff.mp H
  obtain ⟨t103, A30, H⟩ := H
  replace H : (some (decide (t103 ≥ 0))) = some r := H
  have A3 := Aside0.mk A30
  clear A30
  obtain rfl := Option.some.inj H
  go_enter Try.func28, Try.ntmps28
  go_wp2_with (first | ((with_reducible refine gate_callee (f := 48) rfl ?_); refine goesL_ (some 7) rfl rfl Try.func48 (by kernel_rfl) rfl #[.slice A0 l0.length c0, .func (.func 29) #[] #[]] rfl aM ?_; (with_reducible refine (slices_IndexFunc_int_int_48_at29.calls k _ _ l0  t103 _ ?side1 ?side2 A3.out).mono ?_); (case side1 => exact cK HR0.out); (case side2 => exact HC0.out); rintro e w' ⟨rfl, ⟨nd, rfl⟩⟩; refine ⟨_, rfl, ?_⟩))
  go_ret
  exact ⟨by first | rfl | (simp; done) | (simp [*]; done), by repeat (first | exact Drawn0.refl _ | apply Drawn0.step)⟩
mutual
def fact_Sum.j0 : Nat → List Int → Bool → List (S44) → Int → Option (Int × Int)
  | 0, _, _, _, _ => none
  | k + 1, x1, x21, x105000, x105001 => if x21 = true then (some (0, 3)) else (fact_Sum.l0 k x1 0 x105000 (x105000.length : Int) 0)
def fact_Sum.l0 : Nat → List Int → Int → List (S44) → Int → Int → Option (Int × Int)
  | 0, _, _, _, _, _ => none
  | k + 1, x1, x7, x23, x24, x25 => if x25 < x24 then (if 0 ≤ x25 then (if x25 < (x23.length : Int) then (if ((rd_T44 x23 x25).f0) < (x1.length : Int) then (if 0 ≤ ((rd_T44 x23 x25).f0) then (fact_Sum.l0 k x1 (wrap64 (x7 + (wrap64 (((rd_T44 x23 x25).f1) * (rd x1 ((rd_T44 x23 x25).f0)))))) x23 x24 (wrap64 (x25 + 1))) else (none)) else (fact_Sum.l0 k x1 x7 x23 x24 (wrap64 (x25 + 1)))) else (none)) else (none)) else (some (x7, 0))
end
def fact_Sum.f (k : Nat) (l0_0 : List (S44)) (a0_1 : Int) (l1 : List Int) : Option (Int × Int) := (fact_Check.f k l0_0 a0_1).bind fun t105 => (if t105 = 0 then (if (l1.length : Int) > 256 then (fact_Sum.j0 k l1 true l0_0 a0_1) else ((slices_ContainsFunc_int_int_28_at29.f k l1).bind fun t106 => (fact_Sum.j0 k l1 t106 l0_0 a0_1))) else (some (0, t105)))
theorem fact_Sum.mono_l : ∀ k, (∀ y0 y1 y2 y3, LeO (fact_Sum.j0 k y0 y1 y2 y3) (fact_Sum.j0 (k + 1) y0 y1 y2 y3)) ∧ (∀ y0 y1 y2 y3 y4, LeO (fact_Sum.l0 k y0 y1 y2 y3 y4) (fact_Sum.l0 (k + 1) y0 y1 y2 y3 y4))
  | 0 => ⟨fun _ _ _ _ r h => by simp [fact_Sum.j0] at h, fun _ _ _ _ _ r h => by simp [fact_Sum.l0] at h⟩
  | k + 1 => by
   obtain ⟨ih0, ih1⟩ := fact_Sum.mono_l k
   refine ⟨?_, ?_⟩
   ·intro y0 y1 y2 y3
    unfold fact_Sum.j0
    repeat' first
    | (with_reducible exact ih0 _ _ _ _)
    | (with_reducible exact ih1 _ _ _ _ _)
    | (with_reducible exact fact_Check.mono _ _ _)
    | (with_reducible exact slices_ContainsFunc_int_int_28_at29.mono _ _)
    | (with_reducible exact LeO.refl _)
    | (with_reducible exact LeO.none _)
    | (with_reducible refine LeO.ite ?_ ?_)
    | (with_reducible refine LeO.bind ?_ (fun _ => ?_))
    | exact ih0 _ _ _ _
    | exact ih1 _ _ _ _ _
    | exact fact_Check.mono _ _ _
    | exact slices_ContainsFunc_int_int_28_at29.mono _ _
    | exact LeO.none _
    | refine LeO.ite ?_ ?_
    | refine LeO.bind ?_ (fun _ => ?_)
   ·intro y0 y1 y2 y3 y4
    unfold fact_Sum.l0
    repeat' first
    | (with_reducible exact ih0 _ _ _ _)
    | (with_reducible exact ih1 _ _ _ _ _)
    | (with_reducible exact fact_Check.mono _ _ _)
    | (with_reducible exact slices_ContainsFunc_int_int_28_at29.mono _ _)
    | (with_reducible exact LeO.refl _)
    | (with_reducible exact LeO.none _)
    | (with_reducible refine LeO.ite ?_ ?_)
    | (with_reducible refine LeO.bind ?_ (fun _ => ?_))
    | exact ih0 _ _ _ _
    | exact ih1 _ _ _ _ _
    | exact fact_Check.mono _ _ _
    | exact slices_ContainsFunc_int_int_28_at29.mono _ _
    | exact LeO.none _
    | refine LeO.ite ?_ ?_
    | refine LeO.bind ?_ (fun _ => ?_)
theorem fact_Sum.mono : ∀ a0 a1 a2 k, LeO (fact_Sum.f k a0 a1 a2) (fact_Sum.f (k + 1) a0 a1 a2) := by
  intro a0 a1 a2 k
  obtain ⟨ih0, ih1⟩ := fact_Sum.mono_l k
  unfold fact_Sum.f
  repeat' first
    | (with_reducible exact ih0 _ _ _ _)
    | (with_reducible exact ih1 _ _ _ _ _)
    | (with_reducible exact fact_Check.mono _ _ _)
    | (with_reducible exact slices_ContainsFunc_int_int_28_at29.mono _ _)
    | (with_reducible exact LeO.refl _)
    | (with_reducible exact LeO.none _)
    | (with_reducible refine LeO.ite ?_ ?_)
    | (with_reducible refine LeO.bind ?_ (fun _ => ?_))
    | exact ih0 _ _ _ _
    | exact ih1 _ _ _ _ _
    | exact fact_Check.mono _ _ _
    | exact slices_ContainsFunc_int_int_28_at29.mono _ _
    | exact LeO.none _
    | refine LeO.ite ?_ ?_
    | refine LeO.bind ?_ (fun _ => ?_)
set_option maxHeartbeats 8000000 in
set_option maxRecDepth 100000 in
theorem fact_Sum.calls (k : Nat) (A0_0 : Option Addr) (c0_0 : Nat) (l0_0 : List (S44)) (a0_1 : Int) (A1 : Option Addr) (c1 : Nat) (l1 : List Int) (r1 : Int) (r2 : Int) (w : World) (hr0_0 : Kd.C k44 w A0_0 l0_0.length l0_0) (hc0_0 : l0_0.length ≤ c0_0) (hr1 : Kd.C (Kd.int .i64) w A1 l1.length l1) (hc1 : l1.length ≤ c1) (h : fact_Sum.f k l0_0 a0_1 l1 = some (r1, r2)) :
   Calls Try.prog 16 #[.agg #[.slice A0_0 l0_0.length c0_0, .int .i64 a0_1], .slice A1 l1.length c1] w fun e w' => e = .returned (.tuple #[.int .i64 r1, .int .i64 r2]) ∧ Below w.heap.size w w' := by
  have hu30 := Try.underlying30
  have hu44 := Try.underlying44
  have HR0_0 := Aside0.mk hr0_0
  have HC0_0 := Aside0.mk hc0_0
  clear hr0_0 hc0_0
  have HR1 := Aside0.mk hr1
  have HC1 := Aside0.mk hc1
  clear hr1 hc1
  have HB := Aside0.mk (Below.refl w.heap.size w)
  have H : ((fact_Check.f k l0_0 a0_1).bind fun t105 => (if t105 = 0 then (if (l1.length : Int) > 256 then (fact_Sum.j0 k l1 true l0_0 a0_1) else ((slices_ContainsFunc_int_int_28_at29.f k l1).bind fun t106 => (fact_Sum.j0 k l1 t106 l0_0 a0_1))) else (some (0, t105)))) = some (r1, r2) := h
  clear h
  replace H := Option.bind_eq_some_iff.mp H
  obtain ⟨t105, A30, H⟩ := H
  replace H : (if t105 = 0 then (if (l1.length : Int) > 256 then (fact_Sum.j0 k l1 true l0_0 a0_1) else ((slices_ContainsFunc_int_int_28_at29.f k l1).bind fun t106 => (fact_Sum.j0 k l1 t106 l0_0 a0_1))) else (some (0, t105))) = some (r1, r2) := H
  have A3 := Aside0.mk A30
  clear A30
  by_cases c4 : t105 = 0
  ·rw [if_pos c4] at H
   have c4b0 : (t105 == 0) = true := beq_iff_eq.mpr c4
   have c4b1 : (t105 != 0) = false := bne_eq_false_iff_eq.mpr c4
   clear c4
   have HC5 := Aside0.mk H
   clear H
   go_enter Try.func16, Try.ntmps16
   go_upto_region 4 with (first | ((with_reducible refine gate_dst (N := 2) rfl ?_); refine box_event ?hg (N := 2) ?hd (cs := #[.slice A0_0 l0_0.length c0_0, .int .i64 a0_1]) (t := 30) ?hr ?_; (case hd => rfl); (case hg => rfl); (case hr => first | (go_simp; done) | (go_simp; rfl)); intro gb104 hg w6 hbox hb; have n0_ := Aside0.mk (below_step (hB0 HB.out) hb); have n1_ := Aside0.mk (hbox); have n2_ := Aside0.mk ((by rw [hg]; exact (below_size (hB0 HB.out)) : w.heap.size ≤ gb104)); have n3_ := Aside0.mk ((by rw [hg]; exact (below_size (hB0 HB.out)) : w.heap.size ≤ gb104)); clear HB; have HB := n0_; have BK104 := n1_; have GW104 := n2_; have GE104 := n3_; clear n0_ n1_ n2_ n3_; clear hb hbox hg; have hcz7_0 : w6.cell? ⟨gb104, 0, none⟩ = some (.slice A0_0 l0_0.length c0_0) := (blk_cell BK104.out 0).trans rfl; have hcz7_1 : w6.cell? ⟨gb104, 1, none⟩ = some (.int .i64 a0_1) := (blk_cell BK104.out 1).trans rfl; have hfz7_0 := blk_frozen BK104.out 0; have hfz7_1 := blk_frozen BK104.out 1) | (go_at_call 18; (with_reducible refine (fact_Check.calls k _ _ l0_0 a0_1 t105 _ ?side1 ?side2 A3.out).mono ?_); (case side1 => repeat (first | exact (Kd.C_below HR0_0.out HB.out) | (with_reducible refine Kd.C_alloc ?_ _) | (with_reducible refine Kd.C_drewN ?_ _) | (with_reducible refine Kd.C_drew ?_))); (case side2 => exact HC0_0.out); rintro e w8 ⟨rfl, hb⟩; have n0_ := Aside0.mk (blk_below (g := gb104) (o := .cells #[.slice A0_0 l0_0.length c0_0, .int .i64 a0_1] 30 (0, 0)) (bK BK104.out) hb); have n1_ := Aside0.mk (below_step (hB1 HB.out GE104.out) hb); clear BK104 HB; have BK104 := n0_; have HB := n1_; clear n0_ n1_; (try clear hb)))
   repeat (go_quiet (first | ((with_reducible refine gate_dst (N := 2) rfl ?_); refine box_event ?hg (N := 2) ?hd (cs := #[.slice A0_0 l0_0.length c0_0, .int .i64 a0_1]) (t := 30) ?hr ?_; (case hd => rfl); (case hg => rfl); (case hr => first | (go_simp; done) | (go_simp; rfl)); intro gb104 hg w6 hbox hb; have n0_ := Aside0.mk (below_step (hB0 HB.out) hb); have n1_ := Aside0.mk (hbox); have n2_ := Aside0.mk ((by rw [hg]; exact (below_size (hB0 HB.out)) : w.heap.size ≤ gb104)); have n3_ := Aside0.mk ((by rw [hg]; exact (below_size (hB0 HB.out)) : w.heap.size ≤ gb104)); clear HB; have HB := n0_; have BK104 := n1_; have GW104 := n2_; have GE104 := n3_; clear n0_ n1_ n2_ n3_; clear hb hbox hg; have hcz7_0 : w6.cell? ⟨gb104, 0, none⟩ = some (.slice A0_0 l0_0.length c0_0) := (blk_cell BK104.out 0).trans rfl; have hcz7_1 : w6.cell? ⟨gb104, 1, none⟩ = some (.int .i64 a0_1) := (blk_cell BK104.out 1).trans rfl; have hfz7_0 := blk_frozen BK104.out 0; have hfz7_1 := blk_frozen BK104.out 1) | (go_at_call 18; (with_reducible refine (fact_Check.calls k _ _ l0_0 a0_1 t105 _ ?side1 ?side2 A3.out).mono ?_); (case side1 => repeat (first | exact (Kd.C_below HR0_0.out HB.out) | (with_reducible refine Kd.C_alloc ?_ _) | (with_reducible refine Kd.C_drewN ?_ _) | (with_reducible refine Kd.C_drew ?_))); (case side2 => exact HC0_0.out); rintro e w8 ⟨rfl, hb⟩; have n0_ := Aside0.mk (blk_below (g := gb104) (o := .cells #[.slice A0_0 l0_0.length c0_0, .int .i64 a0_1] 30 (0, 0)) (bK BK104.out) hb); have n1_ := Aside0.mk (below_step (hB1 HB.out GE104.out) hb); clear BK104 HB; have BK104 := n0_; have HB := n1_; clear n0_ n1_; (try clear hb))); go_upto_region 4 with (first | ((with_reducible refine gate_dst (N := 2) rfl ?_); refine box_event ?hg (N := 2) ?hd (cs := #[.slice A0_0 l0_0.length c0_0, .int .i64 a0_1]) (t := 30) ?hr ?_; (case hd => rfl); (case hg => rfl); (case hr => first | (go_simp; done) | (go_simp; rfl)); intro gb104 hg w6 hbox hb; have n0_ := Aside0.mk (below_step (hB0 HB.out) hb); have n1_ := Aside0.mk (hbox); have n2_ := Aside0.mk ((by rw [hg]; exact (below_size (hB0 HB.out)) : w.heap.size ≤ gb104)); have n3_ := Aside0.mk ((by rw [hg]; exact (below_size (hB0 HB.out)) : w.heap.size ≤ gb104)); clear HB; have HB := n0_; have BK104 := n1_; have GW104 := n2_; have GE104 := n3_; clear n0_ n1_ n2_ n3_; clear hb hbox hg; have hcz7_0 : w6.cell? ⟨gb104, 0, none⟩ = some (.slice A0_0 l0_0.length c0_0) := (blk_cell BK104.out 0).trans rfl; have hcz7_1 : w6.cell? ⟨gb104, 1, none⟩ = some (.int .i64 a0_1) := (blk_cell BK104.out 1).trans rfl; have hfz7_0 := blk_frozen BK104.out 0; have hfz7_1 := blk_frozen BK104.out 1) | (go_at_call 18; (with_reducible refine (fact_Check.calls k _ _ l0_0 a0_1 t105 _ ?side1 ?side2 A3.out).mono ?_); (case side1 => repeat (first | exact (Kd.C_below HR0_0.out HB.out) | (with_reducible refine Kd.C_alloc ?_ _) | (with_reducible refine Kd.C_drewN ?_ _) | (with_reducible refine Kd.C_drew ?_))); (case side2 => exact HC0_0.out); rintro e w8 ⟨rfl, hb⟩; have n0_ := Aside0.mk (blk_below (g := gb104) (o := .cells #[.slice A0_0 l0_0.length c0_0, .int .i64 a0_1] 30 (0, 0)) (bK BK104.out) hb); have n1_ := Aside0.mk (below_step (hB1 HB.out GE104.out) hb); clear BK104 HB; have BK104 := n0_; have HB := n1_; clear n0_ n1_; (try clear hb))))
   (try simp only [Act.put, List.setIfInBounds_toArray, List.set_cons_zero, List.set_cons_succ])
   go_cut [21] (fun v21 wc => ∃ (kq : Nat) (x21_4 : Bool), v21 = .bool x21_4 ∧ Aside0 (fact_Sum.j0 kq l1 x21_4 l0_0 a0_1 = some (r1, r2)) ∧ Aside0 (kq ≤ k) ∧ Aside0 (wc.heap[gb104]? = some (.cells #[(.slice A0_0 l0_0.length c0_0), .int .i64 a0_1] 30 (0, 0))) ∧ Aside0 (Below w.heap.size w wc))
   case first =>
    have H := HC5.out
    clear HC5
    by_cases c9 : (l1.length : Int) > 256
    ·rw [if_pos c9] at H
     have c9b0 : decide (256 < (l1.length : Int)) = true := decide_eq_true c9
     have c9b1 : decide (256 < l1.length) = true := decide_eq_true (by omega)
     clear c9
     (first | rw [c9b0] | (simp only [i64_w, i32_w]; rw [c9b0]) | skip)
     have H' := Aside0.mk H
     clear H
     go_wp2
     repeat (go_quiet (fail); try go_wp2)
     go_meet
     case rel => exact ⟨_, (true), rS, H', ⟨by first | omega | exact Nat.le_refl _⟩, ⟨bK BK104.out⟩, ⟨hB1 HB.out GE104.out⟩⟩
    ·rw [if_neg c9] at H
     have c9b0 : decide (256 < (l1.length : Int)) = false := decide_eq_false c9
     have c9b1 : decide (256 < l1.length) = false := decide_eq_false (by omega)
     clear c9
     (first | rw [c9b0] | (simp only [i64_w, i32_w]; rw [c9b0]) | skip)
     replace H := Option.bind_eq_some_iff.mp H
     obtain ⟨t106, A100, H⟩ := H
     replace H : (fact_Sum.j0 k l1 t106 l0_0 a0_1) = some (r1, r2) := H
     have A10 := Aside0.mk A100
     clear A100
     have H' := Aside0.mk H
     clear H
     go_wp2_with (first | (go_at_call 28; (with_reducible refine (slices_ContainsFunc_int_int_28_at29.calls k _ _ l1  t106 _ ?side1 ?side2 A10.out).mono ?_); (case side1 => repeat (first | exact (Kd.C_below HR1.out HB.out) | (with_reducible refine Kd.C_alloc ?_ _) | (with_reducible refine Kd.C_drewN ?_ _) | (with_reducible refine Kd.C_drew ?_))); (case side2 => exact HC1.out); rintro e w' ⟨rfl, ⟨nd, rfl⟩⟩; (try first | exact ⟨rfl, _, World.drewN_drewN _ _ _⟩ | exact ⟨rfl, _, Eq.trans (World.drewN_drewN _ _ _) (congrArg (World.drewN _) (Nat.add_assoc _ _ _))⟩)))
     repeat (go_quiet (first | (go_at_call 28; (with_reducible refine (slices_ContainsFunc_int_int_28_at29.calls k _ _ l1  t106 _ ?side1 ?side2 A10.out).mono ?_); (case side1 => repeat (first | exact (Kd.C_below HR1.out HB.out) | (with_reducible refine Kd.C_alloc ?_ _) | (with_reducible refine Kd.C_drewN ?_ _) | (with_reducible refine Kd.C_drew ?_))); (case side2 => exact HC1.out); rintro e w' ⟨rfl, ⟨nd, rfl⟩⟩; (try first | exact ⟨rfl, _, World.drewN_drewN _ _ _⟩ | exact ⟨rfl, _, Eq.trans (World.drewN_drewN _ _ _) (congrArg (World.drewN _) (Nat.add_assoc _ _ _))⟩))); try go_wp2_with (first | (go_at_call 28; (with_reducible refine (slices_ContainsFunc_int_int_28_at29.calls k _ _ l1  t106 _ ?side1 ?side2 A10.out).mono ?_); (case side1 => repeat (first | exact (Kd.C_below HR1.out HB.out) | (with_reducible refine Kd.C_alloc ?_ _) | (with_reducible refine Kd.C_drewN ?_ _) | (with_reducible refine Kd.C_drew ?_))); (case side2 => exact HC1.out); rintro e w' ⟨rfl, ⟨nd, rfl⟩⟩; (try first | exact ⟨rfl, _, World.drewN_drewN _ _ _⟩ | exact ⟨rfl, _, Eq.trans (World.drewN_drewN _ _ _) (congrArg (World.drewN _) (Nat.add_assoc _ _ _))⟩))))
     go_meet
     case rel => exact ⟨_, (t106), rS, H', ⟨by first | omega | exact Nat.le_refl _⟩, ⟨bK BK104.out⟩, ⟨hB1 HB.out GE104.out⟩⟩
   case rest =>
    clear HC5
    try clear c1
    try clear c4b0
    try clear c4b1
    try clear hcz7_0
    try clear hcz7_1
    try clear hfz7_0
    try clear hfz7_1
    obtain ⟨kq, x21_4, rfl, HA, HJ4, BK104, HB⟩ := hcut
    cases kq with
    | zero => exact absurd HA.out (by simp [fact_Sum.j0])
    | succ kj4 =>
     have H := HA.out
     clear HA
     simp only [fact_Sum.j0] at H
     by_cases c11 : x21_4 = true
     ·subst c11
      have H1 : (some (0, 3)) = some (r1, r2) := by rw [if_pos rfl] at H; exact H
      clear H
      have H := H1
      clear H1
      simp only [Option.some.injEq, Prod.mk.injEq] at H
      obtain ⟨rfl, rfl⟩ := H
      go_wp2
      repeat (go_quiet (fail); try go_wp2)
      go_ret2
      exact ⟨eW, hB1 HB.out GE104.out⟩
     ·replace c11 := Bool.eq_false_iff.mpr c11
      subst c11
      have H1 : (fact_Sum.l0 kj4 l1 0 l0_0 (l0_0.length : Int) 0) = some (r1, r2) := by rw [if_neg (show ¬ (false = true) by decide)] at H; exact H
      clear H
      have H := H1
      clear H1
      have H' := Aside0.mk H
      clear H
      have hcz12_0 : wc.cell? ⟨gb104, 0, none⟩ = some (.slice A0_0 l0_0.length c0_0) := (blk_cell BK104.out 0).trans rfl
      have hcz12_1 : wc.cell? ⟨gb104, 1, none⟩ = some (.int .i64 a0_1) := (blk_cell BK104.out 1).trans rfl
      have hfz12_0 := blk_frozen BK104.out 0
      have hfz12_1 := blk_frozen BK104.out 1
      go_wp2
      repeat (go_quiet (fail); try go_wp2)
      go_loopg [7, 25] kj4 (fun kq v7 v25 w' => ∃ (x7_2 : Int) (x25_2 : Int), v7 = .int .i64 x7_2 ∧ v25 = .int .i64 x25_2 ∧ Aside0 (fact_Sum.l0 kq l1 x7_2 l0_0 (l0_0.length : Int) x25_2 = some (r1, r2)) ∧ Aside0 (kq ≤ kj4) ∧ Aside0 (w'.heap[gb104]? = some (.cells #[(.slice A0_0 l0_0.length c0_0), .int .i64 a0_1] 30 (0, 0))) ∧ Aside0 (Below w.heap.size w w'))
      case atStart => exact ⟨(0), (0), rS, rS, H', ⟨Nat.le_refl _⟩, ⟨bK BK104.out⟩, ⟨hB1 HB.out GE104.out⟩⟩
      case round =>
       clear H'
       try clear c11
       try clear hcz12_0
       try clear hcz12_1
       try clear hfz12_0
       try clear hfz12_1
       obtain ⟨x7_2, x25_2, rfl, rfl, HA, HK2, BK104, HB⟩ := hrel
       cases gk with
       | zero => exact absurd HA.out (by simp [fact_Sum.l0])
       | succ k2 =>
        have H := HA.out
        clear HA
        simp only [fact_Sum.l0] at H
        by_cases c13 : x25_2 < (l0_0.length : Int)
        ·rw [if_pos c13] at H
         have c13b0 : decide (x25_2 < (l0_0.length : Int)) = true := decide_eq_true c13
         clear c13
         by_cases c14 : 0 ≤ x25_2
         ·rw [if_pos c14] at H
          have c14b0 : decide (0 ≤ x25_2) = true := decide_eq_true c14
          clear c14
          by_cases c15 : x25_2 < (l0_0.length : Int)
          ·rw [if_pos c15] at H
           have c15b0 : decide (x25_2 < (l0_0.length : Int)) = true := decide_eq_true c15
           clear c15
           by_cases c16 : ((rd_T44 l0_0 x25_2).f0) < (l1.length : Int)
           ·rw [if_pos c16] at H
            have c16b0 : decide (((rd_T44 l0_0 x25_2).f0) < (l1.length : Int)) = true := decide_eq_true c16
            clear c16
            by_cases c17 : 0 ≤ ((rd_T44 l0_0 x25_2).f0)
            ·rw [if_pos c17] at H
             have c17b0 : decide (0 ≤ ((rd_T44 l0_0 x25_2).f0)) = true := decide_eq_true c17
             clear c17
             have H' := Aside0.mk H
             clear H
             have p107 : 0 ≤ (x25_2 : Int) := oD
             have q107 : x25_2 < (l0_0.length : Int) := oD
             obtain ⟨ad107, e107, hx107_0, hx107_1⟩ := at_T44 HR0_0.out x25_2 p107 q107
             cases e107
             replace hx107_0 := (HB.out.cell (World.block_lt_of_cell? w _ hx107_0)).trans hx107_0
             replace hx107_1 := (HB.out.cell (World.block_lt_of_cell? w _ hx107_1)).trans hx107_1
             replace p107 := eq_true p107
             replace q107 := eq_true q107
             go_wp2_with (first | ((with_reducible refine gate_dst (N := 9) rfl ?_); refine box_event ?hg (N := 9) ?hd (cs := #[.int .i64 0, .int .i64 0]) (t := 44) ?hr ?_; (case hd => rfl); (case hg => rfl); (case hr => first | (go_simp; done) | (go_simp; rfl)); intro gb108 hg w18 hbox hb; have n0_ := Aside0.mk (blk_below (g := gb104) (o := .cells #[.slice (some ad107) l0_0.length c0_0, .int .i64 a0_1] 30 (0, 0)) (bK BK104.out) hb); have n1_ := Aside0.mk (below_step (hB1 HB.out GE104.out) hb); have n2_ := Aside0.mk (hbox); have n3_ := Aside0.mk ((by rw [hg]; exact (below_size (hB1 HB.out GE104.out)) : w.heap.size ≤ gb108)); have n4_ := Aside0.mk ((by rw [hg]; exact (below_size (hB1 HB.out GE104.out)) : w.heap.size ≤ gb108)); have n5_ := Aside0.mk ((by rw [hg]; exact Nat.ne_of_lt (blk_lt (g := gb104) (o := .cells #[.slice (some ad107) l0_0.length c0_0, .int .i64 a0_1] 30 (0, 0)) (bK BK104.out)) : gb104 ≠ gb108)); have n6_ := Aside0.mk ((by rw [hg]; exact Nat.ne_of_gt (blk_lt (g := gb104) (o := .cells #[.slice (some ad107) l0_0.length c0_0, .int .i64 a0_1] 30 (0, 0)) (bK BK104.out)) : gb108 ≠ gb104)); clear BK104 HB; have BK104 := n0_; have HB := n1_; have BK108 := n2_; have GW108 := n3_; have GE108 := n4_; have NB104_108 := n5_; have NB108_104 := n6_; clear n0_ n1_ n2_ n3_ n4_ n5_ n6_; clear hb hbox hg; have hnb19 := NB108_104.out; have hnc19 := NB104_108.out; have hcz20_0 : w18.cell? ⟨gb108, 0, none⟩ = some (.int .i64 0) := (blk_cell BK108.out 0).trans rfl; have hcz20_1 : w18.cell? ⟨gb108, 1, none⟩ = some (.int .i64 0) := (blk_cell BK108.out 1).trans rfl; have hfz20_0 := blk_frozen BK108.out 0; have hfz20_1 := blk_frozen BK108.out 1; have p109 : 0 ≤ (((rd_T44 l0_0 x25_2).f0) : Int) := oD; have q109 : ((rd_T44 l0_0 x25_2).f0) < (l1.length : Int) := oD; obtain ⟨ad109, e109, hx109_0⟩ := Kd.at_int HR1.out ((rd_T44 l0_0 x25_2).f0) p109 q109; cases e109; have hn109_0 : ad109.block ≠ gb108 := Nat.ne_of_lt (Nat.lt_of_lt_of_le (by have := World.block_lt_of_cell? _ _ hx109_0; first | rwa [add_block] at this | exact this) GW108.out); have hn109_1 : ad109.block ≠ gb108 := Nat.ne_of_lt (Nat.lt_of_lt_of_le (by have := World.block_lt_of_cell? _ _ hx109_0; first | rwa [add_block] at this | exact this) GW108.out); replace hx109_0 := (HB.out.cell (World.block_lt_of_cell? w _ hx109_0)).trans hx109_0; replace hx109_0 := (cell_far (p := ⟨gb108, 0, none⟩) (by first | (rw [add_block]; exact hn109_0) | (show (Addr.add _ _).block ≠ _; rw [add_block]; exact hn109_0) | exact hn109_0) (.int .i64 ((rd_T44 l0_0 x25_2).f0))).trans hx109_0; replace hx109_0 := (cell_far (p := ⟨gb108, 1, none⟩) (by first | (rw [add_block]; exact hn109_1) | (show (Addr.add _ _).block ≠ _; rw [add_block]; exact hn109_1) | exact hn109_1) (.int .i64 ((rd_T44 l0_0 x25_2).f1))).trans hx109_0; (try have hy109_0 := fun (n_ : Nat) => (show ((((w18.drewN n_).setCell ⟨gb108, 0, none⟩ (.int .i64 ((rd_T44 l0_0 x25_2).f0))).setCell ⟨gb108, 1, none⟩ (.int .i64 ((rd_T44 l0_0 x25_2).f1)))).cell? _ = some _ from hx109_0)); clear hn109_0 hn109_1; replace p109 := eq_true p109; replace q109 := eq_true q109))
             repeat (go_quiet (first | ((with_reducible refine gate_dst (N := 9) rfl ?_); refine box_event ?hg (N := 9) ?hd (cs := #[.int .i64 0, .int .i64 0]) (t := 44) ?hr ?_; (case hd => rfl); (case hg => rfl); (case hr => first | (go_simp; done) | (go_simp; rfl)); intro gb108 hg w18 hbox hb; have n0_ := Aside0.mk (blk_below (g := gb104) (o := .cells #[.slice (some ad107) l0_0.length c0_0, .int .i64 a0_1] 30 (0, 0)) (bK BK104.out) hb); have n1_ := Aside0.mk (below_step (hB1 HB.out GE104.out) hb); have n2_ := Aside0.mk (hbox); have n3_ := Aside0.mk ((by rw [hg]; exact (below_size (hB1 HB.out GE104.out)) : w.heap.size ≤ gb108)); have n4_ := Aside0.mk ((by rw [hg]; exact (below_size (hB1 HB.out GE104.out)) : w.heap.size ≤ gb108)); have n5_ := Aside0.mk ((by rw [hg]; exact Nat.ne_of_lt (blk_lt (g := gb104) (o := .cells #[.slice (some ad107) l0_0.length c0_0, .int .i64 a0_1] 30 (0, 0)) (bK BK104.out)) : gb104 ≠ gb108)); have n6_ := Aside0.mk ((by rw [hg]; exact Nat.ne_of_gt (blk_lt (g := gb104) (o := .cells #[.slice (some ad107) l0_0.length c0_0, .int .i64 a0_1] 30 (0, 0)) (bK BK104.out)) : gb108 ≠ gb104)); clear BK104 HB; have BK104 := n0_; have HB := n1_; have BK108 := n2_; have GW108 := n3_; have GE108 := n4_; have NB104_108 := n5_; have NB108_104 := n6_; clear n0_ n1_ n2_ n3_ n4_ n5_ n6_; clear hb hbox hg; have hnb19 := NB108_104.out; have hnc19 := NB104_108.out; have hcz20_0 : w18.cell? ⟨gb108, 0, none⟩ = some (.int .i64 0) := (blk_cell BK108.out 0).trans rfl; have hcz20_1 : w18.cell? ⟨gb108, 1, none⟩ = some (.int .i64 0) := (blk_cell BK108.out 1).trans rfl; have hfz20_0 := blk_frozen BK108.out 0; have hfz20_1 := blk_frozen BK108.out 1; have p109 : 0 ≤ (((rd_T44 l0_0 x25_2).f0) : Int) := oD; have q109 : ((rd_T44 l0_0 x25_2).f0) < (l1.length : Int) := oD; obtain ⟨ad109, e109, hx109_0⟩ := Kd.at_int HR1.out ((rd_T44 l0_0 x25_2).f0) p109 q109; cases e109; have hn109_0 : ad109.block ≠ gb108 := Nat.ne_of_lt (Nat.lt_of_lt_of_le (by have := World.block_lt_of_cell? _ _ hx109_0; first | rwa [add_block] at this | exact this) GW108.out); have hn109_1 : ad109.block ≠ gb108 := Nat.ne_of_lt (Nat.lt_of_lt_of_le (by have := World.block_lt_of_cell? _ _ hx109_0; first | rwa [add_block] at this | exact this) GW108.out); replace hx109_0 := (HB.out.cell (World.block_lt_of_cell? w _ hx109_0)).trans hx109_0; replace hx109_0 := (cell_far (p := ⟨gb108, 0, none⟩) (by first | (rw [add_block]; exact hn109_0) | (show (Addr.add _ _).block ≠ _; rw [add_block]; exact hn109_0) | exact hn109_0) (.int .i64 ((rd_T44 l0_0 x25_2).f0))).trans hx109_0; replace hx109_0 := (cell_far (p := ⟨gb108, 1, none⟩) (by first | (rw [add_block]; exact hn109_1) | (show (Addr.add _ _).block ≠ _; rw [add_block]; exact hn109_1) | exact hn109_1) (.int .i64 ((rd_T44 l0_0 x25_2).f1))).trans hx109_0; (try have hy109_0 := fun (n_ : Nat) => (show ((((w18.drewN n_).setCell ⟨gb108, 0, none⟩ (.int .i64 ((rd_T44 l0_0 x25_2).f0))).setCell ⟨gb108, 1, none⟩ (.int .i64 ((rd_T44 l0_0 x25_2).f1)))).cell? _ = some _ from hx109_0)); clear hn109_0 hn109_1; replace p109 := eq_true p109; replace q109 := eq_true q109)); try go_wp2_with (first | ((with_reducible refine gate_dst (N := 9) rfl ?_); refine box_event ?hg (N := 9) ?hd (cs := #[.int .i64 0, .int .i64 0]) (t := 44) ?hr ?_; (case hd => rfl); (case hg => rfl); (case hr => first | (go_simp; done) | (go_simp; rfl)); intro gb108 hg w18 hbox hb; have n0_ := Aside0.mk (blk_below (g := gb104) (o := .cells #[.slice (some ad107) l0_0.length c0_0, .int .i64 a0_1] 30 (0, 0)) (bK BK104.out) hb); have n1_ := Aside0.mk (below_step (hB1 HB.out GE104.out) hb); have n2_ := Aside0.mk (hbox); have n3_ := Aside0.mk ((by rw [hg]; exact (below_size (hB1 HB.out GE104.out)) : w.heap.size ≤ gb108)); have n4_ := Aside0.mk ((by rw [hg]; exact (below_size (hB1 HB.out GE104.out)) : w.heap.size ≤ gb108)); have n5_ := Aside0.mk ((by rw [hg]; exact Nat.ne_of_lt (blk_lt (g := gb104) (o := .cells #[.slice (some ad107) l0_0.length c0_0, .int .i64 a0_1] 30 (0, 0)) (bK BK104.out)) : gb104 ≠ gb108)); have n6_ := Aside0.mk ((by rw [hg]; exact Nat.ne_of_gt (blk_lt (g := gb104) (o := .cells #[.slice (some ad107) l0_0.length c0_0, .int .i64 a0_1] 30 (0, 0)) (bK BK104.out)) : gb108 ≠ gb104)); clear BK104 HB; have BK104 := n0_; have HB := n1_; have BK108 := n2_; have GW108 := n3_; have GE108 := n4_; have NB104_108 := n5_; have NB108_104 := n6_; clear n0_ n1_ n2_ n3_ n4_ n5_ n6_; clear hb hbox hg; have hnb19 := NB108_104.out; have hnc19 := NB104_108.out; have hcz20_0 : w18.cell? ⟨gb108, 0, none⟩ = some (.int .i64 0) := (blk_cell BK108.out 0).trans rfl; have hcz20_1 : w18.cell? ⟨gb108, 1, none⟩ = some (.int .i64 0) := (blk_cell BK108.out 1).trans rfl; have hfz20_0 := blk_frozen BK108.out 0; have hfz20_1 := blk_frozen BK108.out 1; have p109 : 0 ≤ (((rd_T44 l0_0 x25_2).f0) : Int) := oD; have q109 : ((rd_T44 l0_0 x25_2).f0) < (l1.length : Int) := oD; obtain ⟨ad109, e109, hx109_0⟩ := Kd.at_int HR1.out ((rd_T44 l0_0 x25_2).f0) p109 q109; cases e109; have hn109_0 : ad109.block ≠ gb108 := Nat.ne_of_lt (Nat.lt_of_lt_of_le (by have := World.block_lt_of_cell? _ _ hx109_0; first | rwa [add_block] at this | exact this) GW108.out); have hn109_1 : ad109.block ≠ gb108 := Nat.ne_of_lt (Nat.lt_of_lt_of_le (by have := World.block_lt_of_cell? _ _ hx109_0; first | rwa [add_block] at this | exact this) GW108.out); replace hx109_0 := (HB.out.cell (World.block_lt_of_cell? w _ hx109_0)).trans hx109_0; replace hx109_0 := (cell_far (p := ⟨gb108, 0, none⟩) (by first | (rw [add_block]; exact hn109_0) | (show (Addr.add _ _).block ≠ _; rw [add_block]; exact hn109_0) | exact hn109_0) (.int .i64 ((rd_T44 l0_0 x25_2).f0))).trans hx109_0; replace hx109_0 := (cell_far (p := ⟨gb108, 1, none⟩) (by first | (rw [add_block]; exact hn109_1) | (show (Addr.add _ _).block ≠ _; rw [add_block]; exact hn109_1) | exact hn109_1) (.int .i64 ((rd_T44 l0_0 x25_2).f1))).trans hx109_0; (try have hy109_0 := fun (n_ : Nat) => (show ((((w18.drewN n_).setCell ⟨gb108, 0, none⟩ (.int .i64 ((rd_T44 l0_0 x25_2).f0))).setCell ⟨gb108, 1, none⟩ (.int .i64 ((rd_T44 l0_0 x25_2).f1)))).cell? _ = some _ from hx109_0)); clear hn109_0 hn109_1; replace p109 := eq_true p109; replace q109 := eq_true q109)))
             go_roundg k2
             case measure => have := HJ4.out; have := HK2.out; omega
             case rel => exact ⟨(wrap64 (x7_2 + (wrap64 (((rd_T44 l0_0 x25_2).f1) * (rd l1 ((rd_T44 l0_0 x25_2).f0)))))), (wrap64 (x25_2 + 1)), rS, rS, H', ⟨by have := HJ4.out; have := HK2.out; omega⟩, ⟨by (with_reducible repeat (first | refine blk_drewN ?_ _ | refine blk_drew ?_ | refine blk_alloc ?_ _)); refine blk_far ?_ NB104_108.out _; (with_reducible repeat (first | refine blk_drewN ?_ _ | refine blk_drew ?_ | refine blk_alloc ?_ _)); refine blk_far ?_ NB104_108.out _; (with_reducible repeat (first | refine blk_drewN ?_ _ | refine blk_drew ?_ | refine blk_alloc ?_ _)); exact BK104.out⟩, ⟨hB2 HB.out GE104.out GE108.out⟩⟩
            ·rw [if_neg c17] at H
             exact absurd H (by simp)
           ·rw [if_neg c16] at H
            have c16b0 : decide (((rd_T44 l0_0 x25_2).f0) < (l1.length : Int)) = false := decide_eq_false c16
            clear c16
            have H' := Aside0.mk H
            clear H
            have p107 : 0 ≤ (x25_2 : Int) := oD
            have q107 : x25_2 < (l0_0.length : Int) := oD
            obtain ⟨ad107, e107, hx107_0, hx107_1⟩ := at_T44 HR0_0.out x25_2 p107 q107
            cases e107
            replace hx107_0 := (HB.out.cell (World.block_lt_of_cell? w _ hx107_0)).trans hx107_0
            replace hx107_1 := (HB.out.cell (World.block_lt_of_cell? w _ hx107_1)).trans hx107_1
            replace p107 := eq_true p107
            replace q107 := eq_true q107
            go_wp2_with (first | ((with_reducible refine gate_dst (N := 9) rfl ?_); refine box_event ?hg (N := 9) ?hd (cs := #[.int .i64 0, .int .i64 0]) (t := 44) ?hr ?_; (case hd => rfl); (case hg => rfl); (case hr => first | (go_simp; done) | (go_simp; rfl)); intro gb108 hg w21 hbox hb; have n0_ := Aside0.mk (blk_below (g := gb104) (o := .cells #[.slice (some ad107) l0_0.length c0_0, .int .i64 a0_1] 30 (0, 0)) (bK BK104.out) hb); have n1_ := Aside0.mk (below_step (hB1 HB.out GE104.out) hb); have n2_ := Aside0.mk (hbox); have n3_ := Aside0.mk ((by rw [hg]; exact (below_size (hB1 HB.out GE104.out)) : w.heap.size ≤ gb108)); have n4_ := Aside0.mk ((by rw [hg]; exact (below_size (hB1 HB.out GE104.out)) : w.heap.size ≤ gb108)); have n5_ := Aside0.mk ((by rw [hg]; exact Nat.ne_of_lt (blk_lt (g := gb104) (o := .cells #[.slice (some ad107) l0_0.length c0_0, .int .i64 a0_1] 30 (0, 0)) (bK BK104.out)) : gb104 ≠ gb108)); have n6_ := Aside0.mk ((by rw [hg]; exact Nat.ne_of_gt (blk_lt (g := gb104) (o := .cells #[.slice (some ad107) l0_0.length c0_0, .int .i64 a0_1] 30 (0, 0)) (bK BK104.out)) : gb108 ≠ gb104)); clear BK104 HB; have BK104 := n0_; have HB := n1_; have BK108 := n2_; have GW108 := n3_; have GE108 := n4_; have NB104_108 := n5_; have NB108_104 := n6_; clear n0_ n1_ n2_ n3_ n4_ n5_ n6_; clear hb hbox hg; have hnb22 := NB108_104.out; have hnc22 := NB104_108.out; have hcz23_0 : w21.cell? ⟨gb108, 0, none⟩ = some (.int .i64 0) := (blk_cell BK108.out 0).trans rfl; have hcz23_1 : w21.cell? ⟨gb108, 1, none⟩ = some (.int .i64 0) := (blk_cell BK108.out 1).trans rfl; have hfz23_0 := blk_frozen BK108.out 0; have hfz23_1 := blk_frozen BK108.out 1))
            repeat (go_quiet (first | ((with_reducible refine gate_dst (N := 9) rfl ?_); refine box_event ?hg (N := 9) ?hd (cs := #[.int .i64 0, .int .i64 0]) (t := 44) ?hr ?_; (case hd => rfl); (case hg => rfl); (case hr => first | (go_simp; done) | (go_simp; rfl)); intro gb108 hg w21 hbox hb; have n0_ := Aside0.mk (blk_below (g := gb104) (o := .cells #[.slice (some ad107) l0_0.length c0_0, .int .i64 a0_1] 30 (0, 0)) (bK BK104.out) hb); have n1_ := Aside0.mk (below_step (hB1 HB.out GE104.out) hb); have n2_ := Aside0.mk (hbox); have n3_ := Aside0.mk ((by rw [hg]; exact (below_size (hB1 HB.out GE104.out)) : w.heap.size ≤ gb108)); have n4_ := Aside0.mk ((by rw [hg]; exact (below_size (hB1 HB.out GE104.out)) : w.heap.size ≤ gb108)); have n5_ := Aside0.mk ((by rw [hg]; exact Nat.ne_of_lt (blk_lt (g := gb104) (o := .cells #[.slice (some ad107) l0_0.length c0_0, .int .i64 a0_1] 30 (0, 0)) (bK BK104.out)) : gb104 ≠ gb108)); have n6_ := Aside0.mk ((by rw [hg]; exact Nat.ne_of_gt (blk_lt (g := gb104) (o := .cells #[.slice (some ad107) l0_0.length c0_0, .int .i64 a0_1] 30 (0, 0)) (bK BK104.out)) : gb108 ≠ gb104)); clear BK104 HB; have BK104 := n0_; have HB := n1_; have BK108 := n2_; have GW108 := n3_; have GE108 := n4_; have NB104_108 := n5_; have NB108_104 := n6_; clear n0_ n1_ n2_ n3_ n4_ n5_ n6_; clear hb hbox hg; have hnb22 := NB108_104.out; have hnc22 := NB104_108.out; have hcz23_0 : w21.cell? ⟨gb108, 0, none⟩ = some (.int .i64 0) := (blk_cell BK108.out 0).trans rfl; have hcz23_1 : w21.cell? ⟨gb108, 1, none⟩ = some (.int .i64 0) := (blk_cell BK108.out 1).trans rfl; have hfz23_0 := blk_frozen BK108.out 0; have hfz23_1 := blk_frozen BK108.out 1)); try go_wp2_with (first | ((with_reducible refine gate_dst (N := 9) rfl ?_); refine box_event ?hg (N := 9) ?hd (cs := #[.int .i64 0, .int .i64 0]) (t := 44) ?hr ?_; (case hd => rfl); (case hg => rfl); (case hr => first | (go_simp; done) | (go_simp; rfl)); intro gb108 hg w21 hbox hb; have n0_ := Aside0.mk (blk_below (g := gb104) (o := .cells #[.slice (some ad107) l0_0.length c0_0, .int .i64 a0_1] 30 (0, 0)) (bK BK104.out) hb); have n1_ := Aside0.mk (below_step (hB1 HB.out GE104.out) hb); have n2_ := Aside0.mk (hbox); have n3_ := Aside0.mk ((by rw [hg]; exact (below_size (hB1 HB.out GE104.out)) : w.heap.size ≤ gb108)); have n4_ := Aside0.mk ((by rw [hg]; exact (below_size (hB1 HB.out GE104.out)) : w.heap.size ≤ gb108)); have n5_ := Aside0.mk ((by rw [hg]; exact Nat.ne_of_lt (blk_lt (g := gb104) (o := .cells #[.slice (some ad107) l0_0.length c0_0, .int .i64 a0_1] 30 (0, 0)) (bK BK104.out)) : gb104 ≠ gb108)); have n6_ := Aside0.mk ((by rw [hg]; exact Nat.ne_of_gt (blk_lt (g := gb104) (o := .cells #[.slice (some ad107) l0_0.length c0_0, .int .i64 a0_1] 30 (0, 0)) (bK BK104.out)) : gb108 ≠ gb104)); clear BK104 HB; have BK104 := n0_; have HB := n1_; have BK108 := n2_; have GW108 := n3_; have GE108 := n4_; have NB104_108 := n5_; have NB108_104 := n6_; clear n0_ n1_ n2_ n3_ n4_ n5_ n6_; clear hb hbox hg; have hnb22 := NB108_104.out; have hnc22 := NB104_108.out; have hcz23_0 : w21.cell? ⟨gb108, 0, none⟩ = some (.int .i64 0) := (blk_cell BK108.out 0).trans rfl; have hcz23_1 : w21.cell? ⟨gb108, 1, none⟩ = some (.int .i64 0) := (blk_cell BK108.out 1).trans rfl; have hfz23_0 := blk_frozen BK108.out 0; have hfz23_1 := blk_frozen BK108.out 1)))
            go_roundg k2
            case measure => have := HJ4.out; have := HK2.out; omega
            case rel => exact ⟨(x7_2), (wrap64 (x25_2 + 1)), rS, rS, H', ⟨by have := HJ4.out; have := HK2.out; omega⟩, ⟨by (with_reducible repeat (first | refine blk_drewN ?_ _ | refine blk_drew ?_ | refine blk_alloc ?_ _)); refine blk_far ?_ NB104_108.out _; (with_reducible repeat (first | refine blk_drewN ?_ _ | refine blk_drew ?_ | refine blk_alloc ?_ _)); refine blk_far ?_ NB104_108.out _; (with_reducible repeat (first | refine blk_drewN ?_ _ | refine blk_drew ?_ | refine blk_alloc ?_ _)); exact BK104.out⟩, ⟨hB2 HB.out GE104.out GE108.out⟩⟩
          ·rw [if_neg c15] at H
           exact absurd H (by simp)
         ·rw [if_neg c14] at H
          exact absurd H (by simp)
        ·rw [if_neg c13] at H
         have c13b0 : decide (x25_2 < (l0_0.length : Int)) = false := decide_eq_false c13
         clear c13
         simp only [Option.some.injEq, Prod.mk.injEq] at H
         obtain ⟨rfl, rfl⟩ := H
         go_wp2
         repeat (go_quiet (fail); try go_wp2)
         go_ret2
         exact ⟨eW, hB1 HB.out GE104.out⟩
  ·rw [if_neg c4] at H
   have c4b0 : (t105 == 0) = false := beq_eq_false_iff_ne.mpr c4
   have c4b1 : (t105 != 0) = true := bne_iff_ne.mpr c4
   simp only [Option.some.injEq, Prod.mk.injEq] at H
   obtain ⟨rfl, rfl⟩ := H
   go_enter Try.func16, Try.ntmps16
   go_wp2_with (first | ((with_reducible refine gate_dst (N := 2) rfl ?_); refine box_event ?hg (N := 2) ?hd (cs := #[.slice A0_0 l0_0.length c0_0, .int .i64 a0_1]) (t := 30) ?hr ?_; (case hd => rfl); (case hg => rfl); (case hr => first | (go_simp; done) | (go_simp; rfl)); intro gb104 hg w24 hbox hb; have n0_ := Aside0.mk (below_step (hB0 HB.out) hb); have n1_ := Aside0.mk (hbox); have n2_ := Aside0.mk ((by rw [hg]; exact (below_size (hB0 HB.out)) : w.heap.size ≤ gb104)); have n3_ := Aside0.mk ((by rw [hg]; exact (below_size (hB0 HB.out)) : w.heap.size ≤ gb104)); clear HB; have HB := n0_; have BK104 := n1_; have GW104 := n2_; have GE104 := n3_; clear n0_ n1_ n2_ n3_; clear hb hbox hg; have hcz25_0 : w24.cell? ⟨gb104, 0, none⟩ = some (.slice A0_0 l0_0.length c0_0) := (blk_cell BK104.out 0).trans rfl; have hcz25_1 : w24.cell? ⟨gb104, 1, none⟩ = some (.int .i64 a0_1) := (blk_cell BK104.out 1).trans rfl; have hfz25_0 := blk_frozen BK104.out 0; have hfz25_1 := blk_frozen BK104.out 1) | (go_at_call 18; (with_reducible refine (fact_Check.calls k _ _ l0_0 a0_1 t105 _ ?side1 ?side2 A3.out).mono ?_); (case side1 => repeat (first | exact (Kd.C_below HR0_0.out HB.out) | (with_reducible refine Kd.C_alloc ?_ _) | (with_reducible refine Kd.C_drewN ?_ _) | (with_reducible refine Kd.C_drew ?_))); (case side2 => exact HC0_0.out); rintro e w26 ⟨rfl, hb⟩; have n0_ := Aside0.mk (blk_below (g := gb104) (o := .cells #[.slice A0_0 l0_0.length c0_0, .int .i64 a0_1] 30 (0, 0)) (bK BK104.out) hb); have n1_ := Aside0.mk (below_step (hB1 HB.out GE104.out) hb); clear BK104 HB; have BK104 := n0_; have HB := n1_; clear n0_ n1_; (try clear hb)))
   repeat (go_quiet (first | ((with_reducible refine gate_dst (N := 2) rfl ?_); refine box_event ?hg (N := 2) ?hd (cs := #[.slice A0_0 l0_0.length c0_0, .int .i64 a0_1]) (t := 30) ?hr ?_; (case hd => rfl); (case hg => rfl); (case hr => first | (go_simp; done) | (go_simp; rfl)); intro gb104 hg w24 hbox hb; have n0_ := Aside0.mk (below_step (hB0 HB.out) hb); have n1_ := Aside0.mk (hbox); have n2_ := Aside0.mk ((by rw [hg]; exact (below_size (hB0 HB.out)) : w.heap.size ≤ gb104)); have n3_ := Aside0.mk ((by rw [hg]; exact (below_size (hB0 HB.out)) : w.heap.size ≤ gb104)); clear HB; have HB := n0_; have BK104 := n1_; have GW104 := n2_; have GE104 := n3_; clear n0_ n1_ n2_ n3_; clear hb hbox hg; have hcz25_0 : w24.cell? ⟨gb104, 0, none⟩ = some (.slice A0_0 l0_0.length c0_0) := (blk_cell BK104.out 0).trans rfl; have hcz25_1 : w24.cell? ⟨gb104, 1, none⟩ = some (.int .i64 a0_1) := (blk_cell BK104.out 1).trans rfl; have hfz25_0 := blk_frozen BK104.out 0; have hfz25_1 := blk_frozen BK104.out 1) | (go_at_call 18; (with_reducible refine (fact_Check.calls k _ _ l0_0 a0_1 t105 _ ?side1 ?side2 A3.out).mono ?_); (case side1 => repeat (first | exact (Kd.C_below HR0_0.out HB.out) | (with_reducible refine Kd.C_alloc ?_ _) | (with_reducible refine Kd.C_drewN ?_ _) | (with_reducible refine Kd.C_drew ?_))); (case side2 => exact HC0_0.out); rintro e w26 ⟨rfl, hb⟩; have n0_ := Aside0.mk (blk_below (g := gb104) (o := .cells #[.slice A0_0 l0_0.length c0_0, .int .i64 a0_1] 30 (0, 0)) (bK BK104.out) hb); have n1_ := Aside0.mk (below_step (hB1 HB.out GE104.out) hb); clear BK104 HB; have BK104 := n0_; have HB := n1_; clear n0_ n1_; (try clear hb))); try go_wp2_with (first | ((with_reducible refine gate_dst (N := 2) rfl ?_); refine box_event ?hg (N := 2) ?hd (cs := #[.slice A0_0 l0_0.length c0_0, .int .i64 a0_1]) (t := 30) ?hr ?_; (case hd => rfl); (case hg => rfl); (case hr => first | (go_simp; done) | (go_simp; rfl)); intro gb104 hg w24 hbox hb; have n0_ := Aside0.mk (below_step (hB0 HB.out) hb); have n1_ := Aside0.mk (hbox); have n2_ := Aside0.mk ((by rw [hg]; exact (below_size (hB0 HB.out)) : w.heap.size ≤ gb104)); have n3_ := Aside0.mk ((by rw [hg]; exact (below_size (hB0 HB.out)) : w.heap.size ≤ gb104)); clear HB; have HB := n0_; have BK104 := n1_; have GW104 := n2_; have GE104 := n3_; clear n0_ n1_ n2_ n3_; clear hb hbox hg; have hcz25_0 : w24.cell? ⟨gb104, 0, none⟩ = some (.slice A0_0 l0_0.length c0_0) := (blk_cell BK104.out 0).trans rfl; have hcz25_1 : w24.cell? ⟨gb104, 1, none⟩ = some (.int .i64 a0_1) := (blk_cell BK104.out 1).trans rfl; have hfz25_0 := blk_frozen BK104.out 0; have hfz25_1 := blk_frozen BK104.out 1) | (go_at_call 18; (with_reducible refine (fact_Check.calls k _ _ l0_0 a0_1 t105 _ ?side1 ?side2 A3.out).mono ?_); (case side1 => repeat (first | exact (Kd.C_below HR0_0.out HB.out) | (with_reducible refine Kd.C_alloc ?_ _) | (with_reducible refine Kd.C_drewN ?_ _) | (with_reducible refine Kd.C_drew ?_))); (case side2 => exact HC0_0.out); rintro e w26 ⟨rfl, hb⟩; have n0_ := Aside0.mk (blk_below (g := gb104) (o := .cells #[.slice A0_0 l0_0.length c0_0, .int .i64 a0_1] 30 (0, 0)) (bK BK104.out) hb); have n1_ := Aside0.mk (below_step (hB1 HB.out GE104.out) hb); clear BK104 HB; have BK104 := n0_; have HB := n1_; clear n0_ n1_; (try clear hb))))
   go_ret2
   exact ⟨eW, hB1 HB.out GE104.out⟩
def fact_Holds.f (k : Nat) (l0_0 : List (S44)) (a0_1 : Int) (l1 : List Int) : Option (Bool) := (fact_Sum.f k l0_0 a0_1 l1).bind fun bt102 => (if bt102.2 = 0 then (some (decide (bt102.1 ≤ a0_1))) else (some false))
theorem fact_Holds.mono : ∀ a0 a1 a2 k, LeO (fact_Holds.f k a0 a1 a2) (fact_Holds.f (k + 1) a0 a1 a2) := by
  intro a0 a1 a2 k
  unfold fact_Holds.f
  repeat' first
    | (with_reducible exact fact_Sum.mono _ _ _ _)
    | (with_reducible exact LeO.refl _)
    | (with_reducible exact LeO.none _)
    | (with_reducible refine LeO.ite ?_ ?_)
    | (with_reducible refine LeO.bind ?_ (fun _ => ?_))
    | exact fact_Sum.mono _ _ _ _
    | exact LeO.none _
    | refine LeO.ite ?_ ?_
    | refine LeO.bind ?_ (fun _ => ?_)
set_option maxHeartbeats 8000000 in
set_option maxRecDepth 100000 in
theorem fact_Holds.calls (k : Nat) (A0_0 : Option Addr) (c0_0 : Nat) (l0_0 : List (S44)) (a0_1 : Int) (A1 : Option Addr) (c1 : Nat) (l1 : List Int) (r : Bool) (w : World) (hr0_0 : Kd.C k44 w A0_0 l0_0.length l0_0) (hc0_0 : l0_0.length ≤ c0_0) (hr1 : Kd.C (Kd.int .i64) w A1 l1.length l1) (hc1 : l1.length ≤ c1) (h : fact_Holds.f k l0_0 a0_1 l1 = some r) :
   Calls Try.prog 17 #[.agg #[.slice A0_0 l0_0.length c0_0, .int .i64 a0_1], .slice A1 l1.length c1] w fun e w' => e = .returned (.bool r) ∧ Below w.heap.size w w' := by
  have hu30 := Try.underlying30
  have HR0_0 := Aside0.mk hr0_0
  have HC0_0 := Aside0.mk hc0_0
  clear hr0_0 hc0_0
  have HR1 := Aside0.mk hr1
  have HC1 := Aside0.mk hc1
  clear hr1 hc1
  have HB := Aside0.mk (Below.refl w.heap.size w)
  have H : ((fact_Sum.f k l0_0 a0_1 l1).bind fun bt102 => (if bt102.2 = 0 then (some (decide (bt102.1 ≤ a0_1))) else (some false))) = some r := h
  clear h
  replace H := Option.bind_eq_some_iff.mp H
  obtain ⟨⟨t102, t103⟩, A30, H⟩ := H
  replace H : (if t103 = 0 then (some (decide (t102 ≤ a0_1))) else (some false)) = some r := H
  have A3 := Aside0.mk A30
  clear A30
  by_cases c4 : t103 = 0
  ·rw [if_pos c4] at H
   have c4b0 : (t103 == 0) = true := beq_iff_eq.mpr c4
   have c4b1 : (t103 != 0) = false := bne_eq_false_iff_eq.mpr c4
   clear c4
   obtain rfl := Option.some.inj H
   go_enter Try.func17, Try.ntmps17
   go_wp2_with (first | ((with_reducible refine gate_dst (N := 2) rfl ?_); refine box_event ?hg (N := 2) ?hd (cs := #[.slice A0_0 l0_0.length c0_0, .int .i64 a0_1]) (t := 30) ?hr ?_; (case hd => rfl); (case hg => rfl); (case hr => first | (go_simp; done) | (go_simp; rfl)); intro gb101 hg w5 hbox hb; have n0_ := Aside0.mk (below_step (hB0 HB.out) hb); have n1_ := Aside0.mk (hbox); have n2_ := Aside0.mk ((by rw [hg]; exact (below_size (hB0 HB.out)) : w.heap.size ≤ gb101)); have n3_ := Aside0.mk ((by rw [hg]; exact (below_size (hB0 HB.out)) : w.heap.size ≤ gb101)); clear HB; have HB := n0_; have BK101 := n1_; have GW101 := n2_; have GE101 := n3_; clear n0_ n1_ n2_ n3_; clear hb hbox hg; have hcz6_0 : w5.cell? ⟨gb101, 0, none⟩ = some (.slice A0_0 l0_0.length c0_0) := (blk_cell BK101.out 0).trans rfl; have hcz6_1 : w5.cell? ⟨gb101, 1, none⟩ = some (.int .i64 a0_1) := (blk_cell BK101.out 1).trans rfl; have hfz6_0 := blk_frozen BK101.out 0; have hfz6_1 := blk_frozen BK101.out 1) | ((with_reducible refine gate_callee (f := 16) rfl ?_); refine goesL_ (some 10) rfl rfl Try.func16 (by kernel_rfl) rfl #[.agg #[.slice A0_0 l0_0.length c0_0, .int .i64 a0_1], .slice A1 l1.length c1] rfl aM ?_; (with_reducible refine (fact_Sum.calls k _ _ l0_0 a0_1 _ _ l1 t102 t103 _ ?side1 ?side2 ?side3 ?side4 A3.out).mono ?_); (case side1 => repeat (first | exact (Kd.C_below HR0_0.out HB.out) | (with_reducible refine Kd.C_alloc ?_ _) | (with_reducible refine Kd.C_drewN ?_ _) | (with_reducible refine Kd.C_drew ?_))); (case side2 => exact HC0_0.out); (case side3 => repeat (first | exact (Kd.C_below HR1.out HB.out) | (with_reducible refine Kd.C_alloc ?_ _) | (with_reducible refine Kd.C_drewN ?_ _) | (with_reducible refine Kd.C_drew ?_))); (case side4 => exact HC1.out); rintro e w7 ⟨rfl, hb⟩; refine ⟨_, rfl, ?_⟩; have n0_ := Aside0.mk (blk_below (g := gb101) (o := .cells #[.slice A0_0 l0_0.length c0_0, .int .i64 a0_1] 30 (0, 0)) (bK BK101.out) hb); have n1_ := Aside0.mk (below_step (hB1 HB.out GE101.out) hb); clear BK101 HB; have BK101 := n0_; have HB := n1_; clear n0_ n1_; (try clear hb); have hcz8_0 : w7.cell? ⟨gb101, 0, none⟩ = some (.slice A0_0 l0_0.length c0_0) := (blk_cell BK101.out 0).trans rfl; have hcz8_1 : w7.cell? ⟨gb101, 1, none⟩ = some (.int .i64 a0_1) := (blk_cell BK101.out 1).trans rfl; have hfz8_0 := blk_frozen BK101.out 0; have hfz8_1 := blk_frozen BK101.out 1))
   go_ret
   exact ⟨eW, hB1 HB.out GE101.out⟩
  ·rw [if_neg c4] at H
   have c4b0 : (t103 == 0) = false := beq_eq_false_iff_ne.mpr c4
   have c4b1 : (t103 != 0) = true := bne_iff_ne.mpr c4
   obtain rfl := Option.some.inj H
   go_enter Try.func17, Try.ntmps17
   go_wp2_with (first | ((with_reducible refine gate_dst (N := 2) rfl ?_); refine box_event ?hg (N := 2) ?hd (cs := #[.slice A0_0 l0_0.length c0_0, .int .i64 a0_1]) (t := 30) ?hr ?_; (case hd => rfl); (case hg => rfl); (case hr => first | (go_simp; done) | (go_simp; rfl)); intro gb101 hg w9 hbox hb; have n0_ := Aside0.mk (below_step (hB0 HB.out) hb); have n1_ := Aside0.mk (hbox); have n2_ := Aside0.mk ((by rw [hg]; exact (below_size (hB0 HB.out)) : w.heap.size ≤ gb101)); have n3_ := Aside0.mk ((by rw [hg]; exact (below_size (hB0 HB.out)) : w.heap.size ≤ gb101)); clear HB; have HB := n0_; have BK101 := n1_; have GW101 := n2_; have GE101 := n3_; clear n0_ n1_ n2_ n3_; clear hb hbox hg; have hcz10_0 : w9.cell? ⟨gb101, 0, none⟩ = some (.slice A0_0 l0_0.length c0_0) := (blk_cell BK101.out 0).trans rfl; have hcz10_1 : w9.cell? ⟨gb101, 1, none⟩ = some (.int .i64 a0_1) := (blk_cell BK101.out 1).trans rfl; have hfz10_0 := blk_frozen BK101.out 0; have hfz10_1 := blk_frozen BK101.out 1) | ((with_reducible refine gate_callee (f := 16) rfl ?_); refine goesL_ (some 10) rfl rfl Try.func16 (by kernel_rfl) rfl #[.agg #[.slice A0_0 l0_0.length c0_0, .int .i64 a0_1], .slice A1 l1.length c1] rfl aM ?_; (with_reducible refine (fact_Sum.calls k _ _ l0_0 a0_1 _ _ l1 t102 t103 _ ?side1 ?side2 ?side3 ?side4 A3.out).mono ?_); (case side1 => repeat (first | exact (Kd.C_below HR0_0.out HB.out) | (with_reducible refine Kd.C_alloc ?_ _) | (with_reducible refine Kd.C_drewN ?_ _) | (with_reducible refine Kd.C_drew ?_))); (case side2 => exact HC0_0.out); (case side3 => repeat (first | exact (Kd.C_below HR1.out HB.out) | (with_reducible refine Kd.C_alloc ?_ _) | (with_reducible refine Kd.C_drewN ?_ _) | (with_reducible refine Kd.C_drew ?_))); (case side4 => exact HC1.out); rintro e w11 ⟨rfl, hb⟩; refine ⟨_, rfl, ?_⟩; have n0_ := Aside0.mk (blk_below (g := gb101) (o := .cells #[.slice A0_0 l0_0.length c0_0, .int .i64 a0_1] 30 (0, 0)) (bK BK101.out) hb); have n1_ := Aside0.mk (below_step (hB1 HB.out GE101.out) hb); clear BK101 HB; have BK101 := n0_; have HB := n1_; clear n0_ n1_; (try clear hb)))
   go_ret
   exact ⟨eW, hB1 HB.out GE101.out⟩
def fact_Of_1.f (a0_0 : Int) (a0_1 : Int) : Option (Bool) := (fact_block.f a0_0).bind fun t102 => (if t102 = true then ((fact_small.f a0_1).bind fun t103 => (some (!t103))) else (some true))
set_option maxHeartbeats 8000000 in
set_option maxRecDepth 100000 in
theorem fact_Of_1.calls (a0_0 : Int) (a0_1 : Int) (r : Bool) (w : World) (h : fact_Of_1.f a0_0 a0_1 = some r) :
   Calls Try.prog 33 #[.agg #[.int .i64 a0_0, .int .i64 a0_1]] w fun e w' => e = .returned (.bool r) ∧ Below w.heap.size w w' := by
  have hu44 := Try.underlying44
  have HB := Aside0.mk (Below.refl w.heap.size w)
  have H : ((fact_block.f a0_0).bind fun t102 => (if t102 = true then ((fact_small.f a0_1).bind fun t103 => (some (!t103))) else (some true))) = some r := h
  clear h
  replace H := Option.bind_eq_some_iff.mp H
  obtain ⟨t102, A20, H⟩ := H
  replace H : (if t102 = true then ((fact_small.f a0_1).bind fun t103 => (some (!t103))) else (some true)) = some r := H
  have A2 := Aside0.mk A20
  clear A20
  by_cases c3 : t102 = true
  ·subst c3
   have H1 : ((fact_small.f a0_1).bind fun t103 => (some (!t103))) = some r := by rw [if_pos rfl] at H; exact H
   clear H
   have H := H1
   clear H1
   replace H := Option.bind_eq_some_iff.mp H
   obtain ⟨t103, A40, H⟩ := H
   replace H : (some (!t103)) = some r := H
   have A4 := Aside0.mk A40
   clear A40
   obtain rfl := Option.some.inj H
   go_enter Try.func33, Try.ntmps33
   go_wp2_with (first | ((with_reducible refine gate_dst (N := 1) rfl ?_); refine box_event ?hg (N := 1) ?hd (cs := #[.int .i64 a0_0, .int .i64 a0_1]) (t := 44) ?hr ?_; (case hd => rfl); (case hg => rfl); (case hr => first | (go_simp; done) | (go_simp; rfl)); intro gb101 hg w5 hbox hb; have n0_ := Aside0.mk (below_step (hB0 HB.out) hb); have n1_ := Aside0.mk (hbox); have n2_ := Aside0.mk ((by rw [hg]; exact (below_size (hB0 HB.out)) : w.heap.size ≤ gb101)); have n3_ := Aside0.mk ((by rw [hg]; exact (below_size (hB0 HB.out)) : w.heap.size ≤ gb101)); clear HB; have HB := n0_; have BK101 := n1_; have GW101 := n2_; have GE101 := n3_; clear n0_ n1_ n2_ n3_; clear hb hbox hg; have hcz6_0 : w5.cell? ⟨gb101, 0, none⟩ = some (.int .i64 a0_0) := (blk_cell BK101.out 0).trans rfl; have hcz6_1 : w5.cell? ⟨gb101, 1, none⟩ = some (.int .i64 a0_1) := (blk_cell BK101.out 1).trans rfl; have hfz6_0 := blk_frozen BK101.out 0; have hfz6_1 := blk_frozen BK101.out 1) | ((with_reducible refine gate_callee (f := 30) rfl ?_); refine goesL_ (some 5) rfl rfl Try.func30 (by kernel_rfl) rfl #[.int .i64 a0_0] rfl aM ?_; (with_reducible refine (fact_block.calls a0_0 true _ A2.out).mono ?_); rintro e w' ⟨rfl, ⟨nd, rfl⟩⟩; refine ⟨_, rfl, ?_⟩) | (go_at_call 31; (with_reducible refine (fact_small.calls a0_1 t103 _ A4.out).mono ?_); rintro e w' ⟨rfl, ⟨nd, rfl⟩⟩))
   go_ret
   exact ⟨eW, hB1 HB.out GE101.out⟩
  ·replace c3 := Bool.eq_false_iff.mpr c3
   subst c3
   have H1 : (some true) = some r := by rw [if_neg (show ¬ (false = true) by decide)] at H; exact H
   clear H
   have H := H1
   clear H1
   obtain rfl := Option.some.inj H
   go_enter Try.func33, Try.ntmps33
   go_wp2_with (first | ((with_reducible refine gate_dst (N := 1) rfl ?_); refine box_event ?hg (N := 1) ?hd (cs := #[.int .i64 a0_0, .int .i64 a0_1]) (t := 44) ?hr ?_; (case hd => rfl); (case hg => rfl); (case hr => first | (go_simp; done) | (go_simp; rfl)); intro gb101 hg w7 hbox hb; have n0_ := Aside0.mk (below_step (hB0 HB.out) hb); have n1_ := Aside0.mk (hbox); have n2_ := Aside0.mk ((by rw [hg]; exact (below_size (hB0 HB.out)) : w.heap.size ≤ gb101)); have n3_ := Aside0.mk ((by rw [hg]; exact (below_size (hB0 HB.out)) : w.heap.size ≤ gb101)); clear HB; have HB := n0_; have BK101 := n1_; have GW101 := n2_; have GE101 := n3_; clear n0_ n1_ n2_ n3_; clear hb hbox hg; have hcz8_0 : w7.cell? ⟨gb101, 0, none⟩ = some (.int .i64 a0_0) := (blk_cell BK101.out 0).trans rfl; have hcz8_1 : w7.cell? ⟨gb101, 1, none⟩ = some (.int .i64 a0_1) := (blk_cell BK101.out 1).trans rfl; have hfz8_0 := blk_frozen BK101.out 0; have hfz8_1 := blk_frozen BK101.out 1) | ((with_reducible refine gate_callee (f := 30) rfl ?_); refine goesL_ (some 5) rfl rfl Try.func30 (by kernel_rfl) rfl #[.int .i64 a0_0] rfl aM ?_; (with_reducible refine (fact_block.calls a0_0 false _ A2.out).mono ?_); rintro e w' ⟨rfl, ⟨nd, rfl⟩⟩; refine ⟨_, rfl, ?_⟩))
   go_ret
   exact ⟨eW, hB1 HB.out GE101.out⟩
def api_Term_49_at33.l0 : Nat → List (S44) → Int → Int → Option (Int)
  | 0, _, _, _ => none
  | k + 1, x0, x7, x8 => if x8 < x7 then (if 0 ≤ x8 then (if x8 < (x0.length : Int) then ((fact_Of_1.f ((rd_T44 x0 x8).f0) ((rd_T44 x0 x8).f1)).bind fun t105 => (if t105 = true then (some x8) else (api_Term_49_at33.l0 k x0 x7 (wrap64 (x8 + 1))))) else (none)) else (none)) else (some (-1))
def api_Term_49_at33.f (k : Nat) (l0 : List (S44))  : Option (Int) := api_Term_49_at33.l0 k l0 (l0.length : Int) 0
theorem api_Term_49_at33.mono_l : ∀ k, (∀ y0 y1 y2, LeO (api_Term_49_at33.l0 k y0 y1 y2) (api_Term_49_at33.l0 (k + 1) y0 y1 y2))
  | 0 => fun _ _ _ r h => by simp [api_Term_49_at33.l0] at h
  | k + 1 => by
   have ih0 := api_Term_49_at33.mono_l k
   ·intro y0 y1 y2
    unfold api_Term_49_at33.l0
    repeat' first
    | (with_reducible exact ih0 _ _ _)
    | (with_reducible exact LeO.refl _)
    | (with_reducible exact LeO.none _)
    | (with_reducible refine LeO.ite ?_ ?_)
    | (with_reducible refine LeO.bind ?_ (fun _ => ?_))
    | exact ih0 _ _ _
    | exact LeO.none _
    | refine LeO.ite ?_ ?_
    | refine LeO.bind ?_ (fun _ => ?_)
theorem api_Term_49_at33.mono : ∀ a0 k, LeO (api_Term_49_at33.f k a0) (api_Term_49_at33.f (k + 1) a0) := by
  intro a0 k
  have ih0 := api_Term_49_at33.mono_l k
  unfold api_Term_49_at33.f
  repeat' first
    | (with_reducible exact ih0 _ _ _)
    | (with_reducible exact LeO.refl _)
    | (with_reducible exact LeO.none _)
    | (with_reducible refine LeO.ite ?_ ?_)
    | (with_reducible refine LeO.bind ?_ (fun _ => ?_))
    | exact ih0 _ _ _
    | exact LeO.none _
    | refine LeO.ite ?_ ?_
    | refine LeO.bind ?_ (fun _ => ?_)
set_option maxHeartbeats 8000000 in
set_option maxRecDepth 100000 in
theorem api_Term_49_at33.calls (k : Nat) (A0 : Option Addr) (c0 : Nat) (l0 : List (S44))  (r : Int) (w : World) (hr0 : Kd.C k44 w A0 l0.length l0) (hc0 : l0.length ≤ c0) (h : api_Term_49_at33.f k l0 = some r) :
   Calls Try.prog 49 #[.slice A0 l0.length c0, .func (.func 33) #[] #[]] w fun e w' => e = .returned (.int .i64 r) ∧ Below w.heap.size w w' := by
  have hu44 := Try.underlying44
  have HR0 := Aside0.mk hr0
  have HC0 := Aside0.mk hc0
  clear hr0 hc0
  have HB := Aside0.mk (Below.refl w.heap.size w)
  have H : (api_Term_49_at33.l0 k l0 (l0.length : Int) 0) = some r := h
  clear h
  have H' := Aside0.mk H
  clear H
  go_enter Try.func49, Try.ntmps49
  go_wp2
  go_loopg [8] k (fun kq v8 w' => ∃ (x8_1 : Int), v8 = .int .i64 x8_1 ∧ Aside0 (api_Term_49_at33.l0 kq l0 (l0.length : Int) x8_1 = some r) ∧ Aside0 (kq ≤ k) ∧ Aside0 (Below w.heap.size w w'))
  case atStart => exact ⟨(0), rS, H', ⟨Nat.le_refl _⟩, ⟨hB0 HB.out⟩⟩
  case round =>
   clear H'
   obtain ⟨x8_1, rfl, HA, HK1, HB⟩ := hrel
   cases gk with
   | zero => exact absurd HA.out (by simp [api_Term_49_at33.l0])
   | succ k1 =>
    have H := HA.out
    clear HA
    simp only [api_Term_49_at33.l0] at H
    by_cases c3 : x8_1 < (l0.length : Int)
    ·rw [if_pos c3] at H
     have c3b0 : decide (x8_1 < (l0.length : Int)) = true := decide_eq_true c3
     clear c3
     by_cases c4 : 0 ≤ x8_1
     ·rw [if_pos c4] at H
      have c4b0 : decide (0 ≤ x8_1) = true := decide_eq_true c4
      clear c4
      by_cases c5 : x8_1 < (l0.length : Int)
      ·rw [if_pos c5] at H
       have c5b0 : decide (x8_1 < (l0.length : Int)) = true := decide_eq_true c5
       clear c5
       replace H := Option.bind_eq_some_iff.mp H
       obtain ⟨t105, A60, H⟩ := H
       replace H : (if t105 = true then (some x8_1) else (api_Term_49_at33.l0 k1 l0 (l0.length : Int) (wrap64 (x8_1 + 1)))) = some r := H
       have A6 := Aside0.mk A60
       clear A60
       by_cases c7 : t105 = true
       ·subst c7
        have H1 : (some x8_1) = some r := by rw [if_pos rfl] at H; exact H
        clear H
        have H := H1
        clear H1
        obtain rfl := Option.some.inj H
        have p104 : 0 ≤ (x8_1 : Int) := oD
        have q104 : x8_1 < (l0.length : Int) := oD
        obtain ⟨ad104, e104, hx104_0, hx104_1⟩ := at_T44 HR0.out x8_1 p104 q104
        cases e104
        replace hx104_0 := (HB.out.cell (World.block_lt_of_cell? w _ hx104_0)).trans hx104_0
        replace hx104_1 := (HB.out.cell (World.block_lt_of_cell? w _ hx104_1)).trans hx104_1
        replace p104 := eq_true p104
        replace q104 := eq_true q104
        go_wp2_with (first | (go_at_call 33; (with_reducible refine (fact_Of_1.calls ((rd_T44 l0 x8_1).f0) ((rd_T44 l0 x8_1).f1) true _ A6.out).mono ?_); rintro e w8 ⟨rfl, hb⟩; have n0_ := Aside0.mk (below_step (hB0 HB.out) hb); clear HB; have HB := n0_; clear n0_; (try clear hb)))
        go_ret
        exact ⟨eW, hB0 HB.out⟩
       ·replace c7 := Bool.eq_false_iff.mpr c7
        subst c7
        have H1 : (api_Term_49_at33.l0 k1 l0 (l0.length : Int) (wrap64 (x8_1 + 1))) = some r := by rw [if_neg (show ¬ (false = true) by decide)] at H; exact H
        clear H
        have H := H1
        clear H1
        have H' := Aside0.mk H
        clear H
        have p104 : 0 ≤ (x8_1 : Int) := oD
        have q104 : x8_1 < (l0.length : Int) := oD
        obtain ⟨ad104, e104, hx104_0, hx104_1⟩ := at_T44 HR0.out x8_1 p104 q104
        cases e104
        replace hx104_0 := (HB.out.cell (World.block_lt_of_cell? w _ hx104_0)).trans hx104_0
        replace hx104_1 := (HB.out.cell (World.block_lt_of_cell? w _ hx104_1)).trans hx104_1
        replace p104 := eq_true p104
        replace q104 := eq_true q104
        go_wp2_with (first | (go_at_call 33; (with_reducible refine (fact_Of_1.calls ((rd_T44 l0 x8_1).f0) ((rd_T44 l0 x8_1).f1) false _ A6.out).mono ?_); rintro e w9 ⟨rfl, hb⟩; have n0_ := Aside0.mk (below_step (hB0 HB.out) hb); clear HB; have HB := n0_; clear n0_; (try clear hb)))
        go_roundg k1
        case measure => have := HK1.out; omega
        case rel => exact ⟨(wrap64 (x8_1 + 1)), rS, H', ⟨by have := HK1.out; omega⟩, ⟨hB0 HB.out⟩⟩
      ·rw [if_neg c5] at H
       exact absurd H (by simp)
     ·rw [if_neg c4] at H
      exact absurd H (by simp)
    ·rw [if_neg c3] at H
     have c3b0 : decide (x8_1 < (l0.length : Int)) = false := decide_eq_false c3
     clear c3
     obtain rfl := Option.some.inj H
     go_wp2
     go_ret
     exact ⟨eW, hB0 HB.out⟩
def api_Term_32_at33.f (k : Nat) (l0 : List (S44))  : Option (Bool) := (api_Term_49_at33.f k l0).bind fun t106 => (some (decide (t106 ≥ 0)))
theorem api_Term_32_at33.mono : ∀ a0 k, LeO (api_Term_32_at33.f k a0) (api_Term_32_at33.f (k + 1) a0) := by
  intro a0 k
  unfold api_Term_32_at33.f
  repeat' first
    | (with_reducible exact api_Term_49_at33.mono _ _)
    | (with_reducible exact LeO.refl _)
    | (with_reducible exact LeO.none _)
    | (with_reducible refine LeO.ite ?_ ?_)
    | (with_reducible refine LeO.bind ?_ (fun _ => ?_))
    | exact api_Term_49_at33.mono _ _
    | exact LeO.none _
    | refine LeO.ite ?_ ?_
    | refine LeO.bind ?_ (fun _ => ?_)
set_option maxHeartbeats 8000000 in
set_option maxRecDepth 100000 in
theorem api_Term_32_at33.calls (k : Nat) (A0 : Option Addr) (c0 : Nat) (l0 : List (S44))  (r : Bool) (w : World) (hr0 : Kd.C k44 w A0 l0.length l0) (hc0 : l0.length ≤ c0) (h : api_Term_32_at33.f k l0 = some r) :
   Calls Try.prog 32 #[.slice A0 l0.length c0, .func (.func 33) #[] #[]] w fun e w' => e = .returned (.bool r) ∧ Below w.heap.size w w' := by
  have HR0 := Aside0.mk hr0
  have HC0 := Aside0.mk hc0
  clear hr0 hc0
  have HB := Aside0.mk (Below.refl w.heap.size w)
  have H : ((api_Term_49_at33.f k l0).bind fun t106 => (some (decide (t106 ≥ 0)))) = some r := h
  clear h
  replace H := Option.bind_eq_some_iff.mp H
  obtain ⟨t106, A30, H⟩ := H
  replace H : (some (decide (t106 ≥ 0))) = some r := H
  have A3 := Aside0.mk A30
  clear A30
  obtain rfl := Option.some.inj H
  go_enter Try.func32, Try.ntmps32
  go_wp2_with (first | ((with_reducible refine gate_callee (f := 49) rfl ?_); refine goesL_ (some 7) rfl rfl Try.func49 (by kernel_rfl) rfl #[.slice A0 l0.length c0, .func (.func 33) #[] #[]] rfl aM ?_; (with_reducible refine (api_Term_49_at33.calls k _ _ l0  t106 _ ?side1 ?side2 A3.out).mono ?_); (case side1 => exact cK HR0.out); (case side2 => exact HC0.out); rintro e w4 ⟨rfl, hb⟩; refine ⟨_, rfl, ?_⟩; have n0_ := Aside0.mk (below_step (hB0 HB.out) hb); clear HB; have HB := n0_; clear n0_; (try clear hb)))
  go_ret
  exact ⟨eW, hB0 HB.out⟩
def fact_Of_2.f (a0_0 : Int) (a0_1 : Int) : Option (Bool) := (fact_small.f a0_1).bind fun t102 => (some (!t102))
set_option maxHeartbeats 8000000 in
set_option maxRecDepth 100000 in
theorem fact_Of_2.calls (a0_0 : Int) (a0_1 : Int) (r : Bool) (w : World) (h : fact_Of_2.f a0_0 a0_1 = some r) :
   Calls Try.prog 35 #[.agg #[.int .i64 a0_0, .int .i64 a0_1]] w fun e w' => e = .returned (.bool r) ∧ Below w.heap.size w w' := by
  have hu44 := Try.underlying44
  have HB := Aside0.mk (Below.refl w.heap.size w)
  have H : ((fact_small.f a0_1).bind fun t102 => (some (!t102))) = some r := h
  clear h
  replace H := Option.bind_eq_some_iff.mp H
  obtain ⟨t102, A20, H⟩ := H
  replace H : (some (!t102)) = some r := H
  have A2 := Aside0.mk A20
  clear A20
  obtain rfl := Option.some.inj H
  go_enter Try.func35, Try.ntmps35
  go_wp2_with (first | ((with_reducible refine gate_dst (N := 1) rfl ?_); refine box_event ?hg (N := 1) ?hd (cs := #[.int .i64 a0_0, .int .i64 a0_1]) (t := 44) ?hr ?_; (case hd => rfl); (case hg => rfl); (case hr => first | (go_simp; done) | (go_simp; rfl)); intro gb101 hg w3 hbox hb; have n0_ := Aside0.mk (below_step (hB0 HB.out) hb); have n1_ := Aside0.mk (hbox); have n2_ := Aside0.mk ((by rw [hg]; exact (below_size (hB0 HB.out)) : w.heap.size ≤ gb101)); have n3_ := Aside0.mk ((by rw [hg]; exact (below_size (hB0 HB.out)) : w.heap.size ≤ gb101)); clear HB; have HB := n0_; have BK101 := n1_; have GW101 := n2_; have GE101 := n3_; clear n0_ n1_ n2_ n3_; clear hb hbox hg; have hcz4_0 : w3.cell? ⟨gb101, 0, none⟩ = some (.int .i64 a0_0) := (blk_cell BK101.out 0).trans rfl; have hcz4_1 : w3.cell? ⟨gb101, 1, none⟩ = some (.int .i64 a0_1) := (blk_cell BK101.out 1).trans rfl; have hfz4_0 := blk_frozen BK101.out 0; have hfz4_1 := blk_frozen BK101.out 1) | ((with_reducible refine gate_callee (f := 31) rfl ?_); refine goesL_ (some 5) rfl rfl Try.func31 (by kernel_rfl) rfl #[.int .i64 a0_1] rfl aM ?_; (with_reducible refine (fact_small.calls a0_1 t102 _ A2.out).mono ?_); rintro e w' ⟨rfl, ⟨nd, rfl⟩⟩; refine ⟨_, rfl, ?_⟩))
  go_ret
  exact ⟨eW, hB1 HB.out GE101.out⟩
def api_Term_49_at35.l0 : Nat → List (S44) → Int → Int → Option (Int)
  | 0, _, _, _ => none
  | k + 1, x0, x7, x8 => if x8 < x7 then (if 0 ≤ x8 then (if x8 < (x0.length : Int) then ((fact_Of_2.f ((rd_T44 x0 x8).f0) ((rd_T44 x0 x8).f1)).bind fun t104 => (if t104 = true then (some x8) else (api_Term_49_at35.l0 k x0 x7 (wrap64 (x8 + 1))))) else (none)) else (none)) else (some (-1))
def api_Term_49_at35.f (k : Nat) (l0 : List (S44))  : Option (Int) := api_Term_49_at35.l0 k l0 (l0.length : Int) 0
theorem api_Term_49_at35.mono_l : ∀ k, (∀ y0 y1 y2, LeO (api_Term_49_at35.l0 k y0 y1 y2) (api_Term_49_at35.l0 (k + 1) y0 y1 y2))
  | 0 => fun _ _ _ r h => by simp [api_Term_49_at35.l0] at h
  | k + 1 => by
   have ih0 := api_Term_49_at35.mono_l k
   ·intro y0 y1 y2
    unfold api_Term_49_at35.l0
    repeat' first
    | (with_reducible exact ih0 _ _ _)
    | (with_reducible exact LeO.refl _)
    | (with_reducible exact LeO.none _)
    | (with_reducible refine LeO.ite ?_ ?_)
    | (with_reducible refine LeO.bind ?_ (fun _ => ?_))
    | exact ih0 _ _ _
    | exact LeO.none _
    | refine LeO.ite ?_ ?_
    | refine LeO.bind ?_ (fun _ => ?_)
theorem api_Term_49_at35.mono : ∀ a0 k, LeO (api_Term_49_at35.f k a0) (api_Term_49_at35.f (k + 1) a0) := by
  intro a0 k
  have ih0 := api_Term_49_at35.mono_l k
  unfold api_Term_49_at35.f
  repeat' first
    | (with_reducible exact ih0 _ _ _)
    | (with_reducible exact LeO.refl _)
    | (with_reducible exact LeO.none _)
    | (with_reducible refine LeO.ite ?_ ?_)
    | (with_reducible refine LeO.bind ?_ (fun _ => ?_))
    | exact ih0 _ _ _
    | exact LeO.none _
    | refine LeO.ite ?_ ?_
    | refine LeO.bind ?_ (fun _ => ?_)
set_option maxHeartbeats 8000000 in
set_option maxRecDepth 100000 in
theorem api_Term_49_at35.calls (k : Nat) (A0 : Option Addr) (c0 : Nat) (l0 : List (S44))  (r : Int) (w : World) (hr0 : Kd.C k44 w A0 l0.length l0) (hc0 : l0.length ≤ c0) (h : api_Term_49_at35.f k l0 = some r) :
   Calls Try.prog 49 #[.slice A0 l0.length c0, .func (.func 35) #[] #[]] w fun e w' => e = .returned (.int .i64 r) ∧ Below w.heap.size w w' := by
  have hu44 := Try.underlying44
  have HR0 := Aside0.mk hr0
  have HC0 := Aside0.mk hc0
  clear hr0 hc0
  have HB := Aside0.mk (Below.refl w.heap.size w)
  have H : (api_Term_49_at35.l0 k l0 (l0.length : Int) 0) = some r := h
  clear h
  have H' := Aside0.mk H
  clear H
  go_enter Try.func49, Try.ntmps49
  go_wp2
  go_loopg [8] k (fun kq v8 w' => ∃ (x8_1 : Int), v8 = .int .i64 x8_1 ∧ Aside0 (api_Term_49_at35.l0 kq l0 (l0.length : Int) x8_1 = some r) ∧ Aside0 (kq ≤ k) ∧ Aside0 (Below w.heap.size w w'))
  case atStart => exact ⟨(0), rS, H', ⟨Nat.le_refl _⟩, ⟨hB0 HB.out⟩⟩
  case round =>
   clear H'
   obtain ⟨x8_1, rfl, HA, HK1, HB⟩ := hrel
   cases gk with
   | zero => exact absurd HA.out (by simp [api_Term_49_at35.l0])
   | succ k1 =>
    have H := HA.out
    clear HA
    simp only [api_Term_49_at35.l0] at H
    by_cases c3 : x8_1 < (l0.length : Int)
    ·rw [if_pos c3] at H
     have c3b0 : decide (x8_1 < (l0.length : Int)) = true := decide_eq_true c3
     clear c3
     by_cases c4 : 0 ≤ x8_1
     ·rw [if_pos c4] at H
      have c4b0 : decide (0 ≤ x8_1) = true := decide_eq_true c4
      clear c4
      by_cases c5 : x8_1 < (l0.length : Int)
      ·rw [if_pos c5] at H
       have c5b0 : decide (x8_1 < (l0.length : Int)) = true := decide_eq_true c5
       clear c5
       replace H := Option.bind_eq_some_iff.mp H
       obtain ⟨t104, A60, H⟩ := H
       replace H : (if t104 = true then (some x8_1) else (api_Term_49_at35.l0 k1 l0 (l0.length : Int) (wrap64 (x8_1 + 1)))) = some r := H
       have A6 := Aside0.mk A60
       clear A60
       by_cases c7 : t104 = true
       ·subst c7
        have H1 : (some x8_1) = some r := by rw [if_pos rfl] at H; exact H
        clear H
        have H := H1
        clear H1
        obtain rfl := Option.some.inj H
        have p103 : 0 ≤ (x8_1 : Int) := oD
        have q103 : x8_1 < (l0.length : Int) := oD
        obtain ⟨ad103, e103, hx103_0, hx103_1⟩ := at_T44 HR0.out x8_1 p103 q103
        cases e103
        replace hx103_0 := (HB.out.cell (World.block_lt_of_cell? w _ hx103_0)).trans hx103_0
        replace hx103_1 := (HB.out.cell (World.block_lt_of_cell? w _ hx103_1)).trans hx103_1
        replace p103 := eq_true p103
        replace q103 := eq_true q103
        go_wp2_with (first | (go_at_call 35; (with_reducible refine (fact_Of_2.calls ((rd_T44 l0 x8_1).f0) ((rd_T44 l0 x8_1).f1) true _ A6.out).mono ?_); rintro e w8 ⟨rfl, hb⟩; have n0_ := Aside0.mk (below_step (hB0 HB.out) hb); clear HB; have HB := n0_; clear n0_; (try clear hb)))
        go_ret
        exact ⟨eW, hB0 HB.out⟩
       ·replace c7 := Bool.eq_false_iff.mpr c7
        subst c7
        have H1 : (api_Term_49_at35.l0 k1 l0 (l0.length : Int) (wrap64 (x8_1 + 1))) = some r := by rw [if_neg (show ¬ (false = true) by decide)] at H; exact H
        clear H
        have H := H1
        clear H1
        have H' := Aside0.mk H
        clear H
        have p103 : 0 ≤ (x8_1 : Int) := oD
        have q103 : x8_1 < (l0.length : Int) := oD
        obtain ⟨ad103, e103, hx103_0, hx103_1⟩ := at_T44 HR0.out x8_1 p103 q103
        cases e103
        replace hx103_0 := (HB.out.cell (World.block_lt_of_cell? w _ hx103_0)).trans hx103_0
        replace hx103_1 := (HB.out.cell (World.block_lt_of_cell? w _ hx103_1)).trans hx103_1
        replace p103 := eq_true p103
        replace q103 := eq_true q103
        go_wp2_with (first | (go_at_call 35; (with_reducible refine (fact_Of_2.calls ((rd_T44 l0 x8_1).f0) ((rd_T44 l0 x8_1).f1) false _ A6.out).mono ?_); rintro e w9 ⟨rfl, hb⟩; have n0_ := Aside0.mk (below_step (hB0 HB.out) hb); clear HB; have HB := n0_; clear n0_; (try clear hb)))
        go_roundg k1
        case measure => have := HK1.out; omega
        case rel => exact ⟨(wrap64 (x8_1 + 1)), rS, H', ⟨by have := HK1.out; omega⟩, ⟨hB0 HB.out⟩⟩
      ·rw [if_neg c5] at H
       exact absurd H (by simp)
     ·rw [if_neg c4] at H
      exact absurd H (by simp)
    ·rw [if_neg c3] at H
     have c3b0 : decide (x8_1 < (l0.length : Int)) = false := decide_eq_false c3
     clear c3
     obtain rfl := Option.some.inj H
     go_wp2
     go_ret
     exact ⟨eW, hB0 HB.out⟩
def api_Term_32_at35.f (k : Nat) (l0 : List (S44))  : Option (Bool) := (api_Term_49_at35.f k l0).bind fun t105 => (some (decide (t105 ≥ 0)))
theorem api_Term_32_at35.mono : ∀ a0 k, LeO (api_Term_32_at35.f k a0) (api_Term_32_at35.f (k + 1) a0) := by
  intro a0 k
  unfold api_Term_32_at35.f
  repeat' first
    | (with_reducible exact api_Term_49_at35.mono _ _)
    | (with_reducible exact LeO.refl _)
    | (with_reducible exact LeO.none _)
    | (with_reducible refine LeO.ite ?_ ?_)
    | (with_reducible refine LeO.bind ?_ (fun _ => ?_))
    | exact api_Term_49_at35.mono _ _
    | exact LeO.none _
    | refine LeO.ite ?_ ?_
    | refine LeO.bind ?_ (fun _ => ?_)
set_option maxHeartbeats 8000000 in
set_option maxRecDepth 100000 in
theorem api_Term_32_at35.calls (k : Nat) (A0 : Option Addr) (c0 : Nat) (l0 : List (S44))  (r : Bool) (w : World) (hr0 : Kd.C k44 w A0 l0.length l0) (hc0 : l0.length ≤ c0) (h : api_Term_32_at35.f k l0 = some r) :
   Calls Try.prog 32 #[.slice A0 l0.length c0, .func (.func 35) #[] #[]] w fun e w' => e = .returned (.bool r) ∧ Below w.heap.size w w' := by
  have HR0 := Aside0.mk hr0
  have HC0 := Aside0.mk hc0
  clear hr0 hc0
  have HB := Aside0.mk (Below.refl w.heap.size w)
  have H : ((api_Term_49_at35.f k l0).bind fun t105 => (some (decide (t105 ≥ 0)))) = some r := h
  clear h
  replace H := Option.bind_eq_some_iff.mp H
  obtain ⟨t105, A30, H⟩ := H
  replace H : (some (decide (t105 ≥ 0))) = some r := H
  have A3 := Aside0.mk A30
  clear A30
  obtain rfl := Option.some.inj H
  go_enter Try.func32, Try.ntmps32
  go_wp2_with (first | ((with_reducible refine gate_callee (f := 49) rfl ?_); refine goesL_ (some 7) rfl rfl Try.func49 (by kernel_rfl) rfl #[.slice A0 l0.length c0, .func (.func 35) #[] #[]] rfl aM ?_; (with_reducible refine (api_Term_49_at35.calls k _ _ l0  t105 _ ?side1 ?side2 A3.out).mono ?_); (case side1 => exact cK HR0.out); (case side2 => exact HC0.out); rintro e w4 ⟨rfl, hb⟩; refine ⟨_, rfl, ?_⟩; have n0_ := Aside0.mk (below_step (hB0 HB.out) hb); clear HB; have HB := n0_; clear n0_; (try clear hb)))
  go_ret
  exact ⟨eW, hB0 HB.out⟩
def fact_gather_1.f (a0_0 : Int) (a0_1 : Int) (a1_0 : Int) (a1_1 : Int) : Option (Int) := some (wrap64 (a0_0 - a1_0))
set_option maxHeartbeats 8000000 in
set_option maxRecDepth 100000 in
theorem fact_gather_1.calls (a0_0 : Int) (a0_1 : Int) (a1_0 : Int) (a1_1 : Int) (r : Int) (w : World) (h : fact_gather_1.f a0_0 a0_1 a1_0 a1_1 = some r) :
   Calls Try.prog 52 #[.agg #[.int .i64 a0_0, .int .i64 a0_1], .agg #[.int .i64 a1_0, .int .i64 a1_1]] w fun e w' => e = .returned (.int .i64 r) ∧ Below w.heap.size w w' := by
  have hu44 := Try.underlying44
  have HB := Aside0.mk (Below.refl w.heap.size w)
  have H : (some (wrap64 (a0_0 - a1_0))) = some r := h
  clear h
  obtain rfl := Option.some.inj H
  go_enter Try.func52, Try.ntmps52
  go_wp2_with (first | ((with_reducible refine gate_dst (N := 2) rfl ?_); refine box_event ?hg (N := 2) ?hd (cs := #[.int .i64 a0_0, .int .i64 a0_1]) (t := 44) ?hr ?_; (case hd => rfl); (case hg => rfl); (case hr => first | (go_simp; done) | (go_simp; rfl)); intro gb101 hg w3 hbox hb; have n0_ := Aside0.mk (below_step (hB0 HB.out) hb); have n1_ := Aside0.mk (hbox); have n2_ := Aside0.mk ((by rw [hg]; exact (below_size (hB0 HB.out)) : w.heap.size ≤ gb101)); have n3_ := Aside0.mk ((by rw [hg]; exact (below_size (hB0 HB.out)) : w.heap.size ≤ gb101)); clear HB; have HB := n0_; have BK101 := n1_; have GW101 := n2_; have GE101 := n3_; clear n0_ n1_ n2_ n3_; clear hb hbox hg) | ((with_reducible refine gate_dst (N := 3) rfl ?_); refine box_event ?hg (N := 3) ?hd (cs := #[.int .i64 a1_0, .int .i64 a1_1]) (t := 44) ?hr ?_; (case hd => rfl); (case hg => rfl); (case hr => first | (go_simp; done) | (go_simp; rfl)); intro gb102 hg w4 hbox hb; have n0_ := Aside0.mk (blk_below (g := gb101) (o := .cells #[.int .i64 a0_0, .int .i64 a0_1] 44 (0, 0)) (bK BK101.out) hb); have n1_ := Aside0.mk (below_step (hB1 HB.out GE101.out) hb); have n2_ := Aside0.mk (hbox); have n3_ := Aside0.mk ((by rw [hg]; exact (below_size (hB1 HB.out GE101.out)) : w.heap.size ≤ gb102)); have n4_ := Aside0.mk ((by rw [hg]; exact (below_size (hB1 HB.out GE101.out)) : w.heap.size ≤ gb102)); have n5_ := Aside0.mk ((by rw [hg]; exact Nat.ne_of_lt (blk_lt (g := gb101) (o := .cells #[.int .i64 a0_0, .int .i64 a0_1] 44 (0, 0)) (bK BK101.out)) : gb101 ≠ gb102)); have n6_ := Aside0.mk ((by rw [hg]; exact Nat.ne_of_gt (blk_lt (g := gb101) (o := .cells #[.int .i64 a0_0, .int .i64 a0_1] 44 (0, 0)) (bK BK101.out)) : gb102 ≠ gb101)); clear BK101 HB; have BK101 := n0_; have HB := n1_; have BK102 := n2_; have GW102 := n3_; have GE102 := n4_; have NB101_102 := n5_; have NB102_101 := n6_; clear n0_ n1_ n2_ n3_ n4_ n5_ n6_; clear hb hbox hg; have hnb5 := NB101_102.out; have hnc5 := NB102_101.out; have hcz6_0 : w4.cell? ⟨gb101, 0, none⟩ = some (.int .i64 a0_0) := (blk_cell BK101.out 0).trans rfl; have hcz6_1 : w4.cell? ⟨gb101, 1, none⟩ = some (.int .i64 a0_1) := (blk_cell BK101.out 1).trans rfl; have hfz6_0 := blk_frozen BK101.out 0; have hfz6_1 := blk_frozen BK101.out 1; have hcz7_0 : w4.cell? ⟨gb102, 0, none⟩ = some (.int .i64 a1_0) := (blk_cell BK102.out 0).trans rfl; have hcz7_1 : w4.cell? ⟨gb102, 1, none⟩ = some (.int .i64 a1_1) := (blk_cell BK102.out 1).trans rfl; have hfz7_0 := blk_frozen BK102.out 0; have hfz7_1 := blk_frozen BK102.out 1))
  go_ret
  exact ⟨eW, hB2 HB.out GE101.out GE102.out⟩
mutual
def api_Term_59_at52.l0 : Nat → List (S44) → Int → Int → Int → Option ((List (S44)))
  | 0, _, _, _, _ => none
  | k + 1, x0, x1, x2, x8 => if x8 < x2 then (api_Term_59_at52.l1 k x0 x1 x2 x8 x8) else (some x0)
def api_Term_59_at52.l1 : Nat → List (S44) → Int → Int → Int → Int → Option ((List (S44)))
  | 0, _, _, _, _, _ => none
  | k + 1, x0, x1, x2, x8, x9 => if x9 > x1 then (if 0 ≤ x9 then (if x9 < (x0.length : Int) then (if 0 ≤ (wrap64 (x9 - 1)) then (if (wrap64 (x9 - 1)) < (x0.length : Int) then ((fact_gather_1.f ((rd_T44 x0 x9).f0) ((rd_T44 x0 x9).f1) ((rd_T44 x0 (wrap64 (x9 - 1))).f0) ((rd_T44 x0 (wrap64 (x9 - 1))).f1)).bind fun t103 => (if t103 < 0 then (api_Term_59_at52.l1 k ((x0.set (x9 : Int).toNat (⟨(rd_T44 x0 (wrap64 (x9 - 1))).f0, (rd_T44 x0 (wrap64 (x9 - 1))).f1⟩ : S44)).set ((wrap64 (x9 - 1)) : Int).toNat (⟨(rd_T44 x0 x9).f0, (rd_T44 x0 x9).f1⟩ : S44)) x1 x2 x8 (wrap64 (x9 - 1))) else (api_Term_59_at52.l0 k x0 x1 x2 (wrap64 (x8 + 1))))) else (none)) else (none)) else (none)) else (none)) else (api_Term_59_at52.l0 k x0 x1 x2 (wrap64 (x8 + 1)))
end
def api_Term_59_at52.f (k : Nat) (l0 : List (S44)) (a1 : Int) (a2 : Int)  : Option ((List (S44))) := api_Term_59_at52.l0 k l0 a1 a2 (wrap64 (a1 + 1))
theorem api_Term_59_at52.mono_l : ∀ k, (∀ y0 y1 y2 y3, LeO (api_Term_59_at52.l0 k y0 y1 y2 y3) (api_Term_59_at52.l0 (k + 1) y0 y1 y2 y3)) ∧ (∀ y0 y1 y2 y3 y4, LeO (api_Term_59_at52.l1 k y0 y1 y2 y3 y4) (api_Term_59_at52.l1 (k + 1) y0 y1 y2 y3 y4))
  | 0 => ⟨fun _ _ _ _ r h => by simp [api_Term_59_at52.l0] at h, fun _ _ _ _ _ r h => by simp [api_Term_59_at52.l1] at h⟩
  | k + 1 => by
   obtain ⟨ih0, ih1⟩ := api_Term_59_at52.mono_l k
   refine ⟨?_, ?_⟩
   ·intro y0 y1 y2 y3
    unfold api_Term_59_at52.l0
    repeat' first
    | (with_reducible exact ih0 _ _ _ _)
    | (with_reducible exact ih1 _ _ _ _ _)
    | (with_reducible exact LeO.refl _)
    | (with_reducible exact LeO.none _)
    | (with_reducible refine LeO.ite ?_ ?_)
    | (with_reducible refine LeO.bind ?_ (fun _ => ?_))
    | exact ih0 _ _ _ _
    | exact ih1 _ _ _ _ _
    | exact LeO.none _
    | refine LeO.ite ?_ ?_
    | refine LeO.bind ?_ (fun _ => ?_)
   ·intro y0 y1 y2 y3 y4
    unfold api_Term_59_at52.l1
    repeat' first
    | (with_reducible exact ih0 _ _ _ _)
    | (with_reducible exact ih1 _ _ _ _ _)
    | (with_reducible exact LeO.refl _)
    | (with_reducible exact LeO.none _)
    | (with_reducible refine LeO.ite ?_ ?_)
    | (with_reducible refine LeO.bind ?_ (fun _ => ?_))
    | exact ih0 _ _ _ _
    | exact ih1 _ _ _ _ _
    | exact LeO.none _
    | refine LeO.ite ?_ ?_
    | refine LeO.bind ?_ (fun _ => ?_)
theorem api_Term_59_at52.mono : ∀ a0 a1 a2 k, LeO (api_Term_59_at52.f k a0 a1 a2) (api_Term_59_at52.f (k + 1) a0 a1 a2) := by
  intro a0 a1 a2 k
  obtain ⟨ih0, ih1⟩ := api_Term_59_at52.mono_l k
  unfold api_Term_59_at52.f
  repeat' first
    | (with_reducible exact ih0 _ _ _ _)
    | (with_reducible exact ih1 _ _ _ _ _)
    | (with_reducible exact LeO.refl _)
    | (with_reducible exact LeO.none _)
    | (with_reducible refine LeO.ite ?_ ?_)
    | (with_reducible refine LeO.bind ?_ (fun _ => ?_))
    | exact ih0 _ _ _ _
    | exact ih1 _ _ _ _ _
    | exact LeO.none _
    | refine LeO.ite ?_ ?_
    | refine LeO.bind ?_ (fun _ => ?_)
def api_Term_59_at52.T4 : Bool × List (List Nat × List Nat) := (true, [([], []), ([], []), ([0, 1], [0, 1]), ([2], [2]), ([3], [3]), ([3], [3]), ([3], [3]), ([5, 6, 3], [3, 5, 6]), ([7, 3], [3, 7]), ([3], [3]), ([3], [3]), ([10, 3], [3, 10]), ([9, 11, 3], [3, 9, 11]), ([12, 3], [3, 12]), ([4, 8, 13, 3, 3], [3, 4, 8, 13]), ([14, 3], [3, 14]), ([3, 15], [3, 15])])
def api_Term_59_at52.B4 : List Nat := [0, 0, 3, 7, 15, 15, 15, 111, 239, 15, 15, 1039, 3599, 7695, 16383, 32767, 65535]
theorem api_Term_59_at52.tab4 : rtab .any (opsOf Try.f59 4) = api_Term_59_at52.T4 := by kernel_rfl
theorem api_Term_59_at52.bits4 : waitsOk api_Term_59_at52.T4.2 api_Term_59_at52.B4 = true := by kernel_rfl
def api_Term_59_at52.T6 : Bool × List (List Nat × List Nat) := (true, [([], []), ([], []), ([], []), ([], []), ([3], [3]), ([], []), ([], []), ([6], [6]), ([5, 7], [5, 7]), ([8], [8]), ([], []), ([], []), ([10, 11], [10, 11]), ([12], [12]), ([0, 1, 0, 1, 5, 6, 7, 8, 9, 13], [0, 1]), ([14, 9, 0, 1, 5, 6, 7, 8, 9, 13], [9, 14]), ([2, 4, 0, 1, 2, 3, 4, 5, 6, 7, 8, 9, 10, 11, 12, 13, 14, 15], [2, 4]), ([16, 13, 15, 0, 1, 2, 3, 4, 5, 6, 7, 8, 9, 10, 11, 12, 13, 14, 15], [13, 16])])
def api_Term_59_at52.B6 : List Nat := [0, 0, 0, 0, 8, 0, 0, 64, 224, 480, 0, 0, 3072, 7168, 16355, 32739, 65535, 131071]
theorem api_Term_59_at52.tab6 : rtab .any (opsOf Try.f59 6) = api_Term_59_at52.T6 := by kernel_rfl
theorem api_Term_59_at52.bits6 : waitsOk api_Term_59_at52.T6.2 api_Term_59_at52.B6 = true := by kernel_rfl
abbrev api_Term_59_at52.b0 : Array Bool := X.bv36
abbrev api_Term_59_at52.b1 : Array Bool := X.bv37
abbrev api_Term_59_at52.b2 : Array Bool := X.bv38
abbrev api_Term_59_at52.b3 : Array Bool := X.bv39
abbrev api_Term_59_at52.b4 : Array Bool := X.bv40
abbrev api_Term_59_at52.b5 : Array Bool := X.bv41
abbrev api_Term_59_at52.b6 : Array Bool := X.bv42
abbrev api_Term_59_at52.b7 : Array Bool := X.bv43
abbrev api_Term_59_at52.b8 : Array Bool := X.bv44
abbrev api_Term_59_at52.b9 : Array Bool := X.bv45
abbrev api_Term_59_at52.b10 : Array Bool := X.bv46
abbrev api_Term_59_at52.b11 : Array Bool := X.bv47
abbrev api_Term_59_at52.b12 : Array Bool := X.bv48
abbrev api_Term_59_at52.b13 : Array Bool := X.bv49
abbrev api_Term_59_at52.b14 : Array Bool := X.bv50
abbrev api_Term_59_at52.b15 : Array Bool := X.bv51
abbrev api_Term_59_at52.b16 : Array Bool := X.bv52
abbrev api_Term_59_at52.b17 : Array Bool := X.bv53
abbrev api_Term_59_at52.b18 : Array Bool := X.bv54
abbrev api_Term_59_at52.b19 : Array Bool := X.bv55
abbrev api_Term_59_at52.b20 : Array Bool := X.bv56
abbrev api_Term_59_at52.b21 : Array Bool := X.bv57
abbrev api_Term_59_at52.b22 : Array Bool := X.bv58
abbrev api_Term_59_at52.b23 : Array Bool := X.bv59
abbrev api_Term_59_at52.b24 : Array Bool := X.bv60
abbrev api_Term_59_at52.b25 : Array Bool := X.bv61
abbrev api_Term_59_at52.b26 : Array Bool := X.bv62
abbrev api_Term_59_at52.b27 : Array Bool := X.bv63
abbrev api_Term_59_at52.b28 : Array Bool := X.bv64
abbrev api_Term_59_at52.b29 : Array Bool := X.bv65
abbrev api_Term_59_at52.b30 : Array Bool := X.bv66
abbrev api_Term_59_at52.b31 : Array Bool := X.bv67
abbrev api_Term_59_at52.b32 : Array Bool := X.bv68
abbrev api_Term_59_at52.b33 : Array Bool := X.bv69
abbrev api_Term_59_at52.b34 : Array Bool := X.bv70
abbrev api_Term_59_at52.b35 : Array Bool := X.bv71
abbrev api_Term_59_at52.b36 : Array Bool := X.bv72
abbrev api_Term_59_at52.b37 : Array Bool := X.bv73
abbrev api_Term_59_at52.b38 : Array Bool := X.bv74
abbrev api_Term_59_at52.b39 : Array Bool := X.bv75
abbrev api_Term_59_at52.b40 : Array Bool := X.bv76
set_option maxHeartbeats 8000000 in
set_option maxRecDepth 100000 in
theorem api_Term_59_at52.calls (k : Nat) (P0_ : Nat → Prop) (u9000_ : Value) (l0 : List (S44)) (a1 : Int) (a2 : Int)  (r : List (S44)) (w0 w : World) (hB : Below w0.heap.size w0 w) (ho0 : Kd.R k44 44 w w0.heap.size P0_ u9000_ l0) (h : api_Term_59_at52.f k l0 a1 a2 = some r) :
   Calls Try.prog 59 #[u9000_, .int .i64 a1, .int .i64 a2, .func (.func 52) #[] #[]] w fun e w' => e = .returned (.tuple #[]) ∧ Kd.R k44 44 w' w0.heap.size (fun k_ => (P0_ k_ ∨ w.heap.size ≤ k_)) u9000_ r ∧ Below w0.heap.size w0 w' ∧ Kept w w' (fun k_ => P0_ k_) := by
  have hu44 := Try.underlying44
  have HO0 := Aside0.mk (show Kd.R k44 44 w w0.heap.size (fun k_ => (P0_ k_ ∨ w.heap.size ≤ k_)) u9000_ l0 from Kd.R_mono ho0 (fun k_ hk => (.inl hk)))
  have HK := Aside0.mk (Kept.refl w (fun k_ => P0_ k_))
  have HW0 := Aside0.mk hB.size
  have HB := Aside0.mk hB
  clear hB
  have H : (api_Term_59_at52.l0 k l0 a1 a2 (wrap64 (a1 + 1))) = some r := h
  clear h
  have H' := Aside0.mk H
  clear H
  go_enter Try.func59, Try.ntmps59
  go_wp2
  go_loopg [8] k (fun kq v8 w' => ∃ (x0_1 : List (S44)) (x8_1 : Int), v8 = .int .i64 x8_1 ∧ Aside0 (api_Term_59_at52.l0 kq x0_1 a1 a2 x8_1 = some r) ∧ Aside0 (kq ≤ k) ∧ Aside0 (Kd.R k44 44 w' w0.heap.size (fun k_ => (P0_ k_ ∨ w.heap.size ≤ k_)) u9000_ x0_1) ∧ Aside0 (Kept w w' (fun k_ => P0_ k_)) ∧ Aside0 (Below w0.heap.size w0 w'))
  case atStart => exact ⟨(l0), (wrap64 (a1 + 1)), rS, H', ⟨Nat.le_refl _⟩, ⟨rK HO0.out⟩, ⟨kP HK.out⟩, ⟨hB0 HB.out⟩⟩
  case round =>
   clear H'
   obtain ⟨x0_1, x8_1, rfl, HA, HK1, HO_0, HK, HB⟩ := hrel
   cases gk with
   | zero => exact absurd HA.out (by simp [api_Term_59_at52.l0])
   | succ k1 =>
    have H := HA.out
    clear HA
    simp only [api_Term_59_at52.l0] at H
    by_cases c5 : x8_1 < a2
    ·rw [if_pos c5] at H
     have c5b0 : decide (x8_1 < a2) = true := decide_eq_true c5
     clear c5
     have H' := Aside0.mk H
     clear H
     go_wp2
     go_loopg [9] k1 (fun kq v9 w' => ∃ (x0_2 : List (S44)) (x9_2 : Int), v9 = .int .i64 x9_2 ∧ Aside0 (api_Term_59_at52.l1 kq x0_2 a1 a2 x8_1 x9_2 = some r) ∧ Aside0 (kq ≤ k1) ∧ Aside0 (Kd.R k44 44 w' w0.heap.size (fun k_ => (P0_ k_ ∨ w.heap.size ≤ k_)) u9000_ x0_2) ∧ Aside0 (Kept w w' (fun k_ => P0_ k_)) ∧ Aside0 (Below w0.heap.size w0 w'))
     case atStart => exact ⟨(x0_1), (x8_1), rS, H', ⟨Nat.le_refl _⟩, ⟨rK HO_0.out⟩, ⟨kP HK.out⟩, ⟨hB0 HB.out⟩⟩
     case round =>
      clear H'
      try clear c5b0
      obtain ⟨x0_2, x9_2, rfl, HA, HK2, HO_0, HK, HB⟩ := hrel
      cases gk with
      | zero => exact absurd HA.out (by simp [api_Term_59_at52.l1])
      | succ k2 =>
       have H := HA.out
       clear HA
       simp only [api_Term_59_at52.l1] at H
       by_cases c6 : x9_2 > a1
       ·rw [if_pos c6] at H
        have c6b0 : decide (a1 < x9_2) = true := decide_eq_true c6
        clear c6
        by_cases c7 : 0 ≤ x9_2
        ·rw [if_pos c7] at H
         have c7b0 : decide (0 ≤ x9_2) = true := decide_eq_true c7
         clear c7
         by_cases c8 : x9_2 < (x0_2.length : Int)
         ·rw [if_pos c8] at H
          have c8b0 : decide (x9_2 < (x0_2.length : Int)) = true := decide_eq_true c8
          clear c8
          obtain ⟨ji9, hji9⟩ : ∃ j_ : Int, (wrap64 (x9_2 - 1)) = j_ := ⟨_, rfl⟩
          replace H : (if 0 ≤ (ji9) then (if (ji9) < (x0_2.length : Int) then ((fact_gather_1.f ((rd_T44 x0_2 x9_2).f0) ((rd_T44 x0_2 x9_2).f1) ((rd_T44 x0_2 (ji9)).f0) ((rd_T44 x0_2 (ji9)).f1)).bind fun t103 => (if t103 < 0 then (api_Term_59_at52.l1 k2 ((x0_2.set (x9_2 : Int).toNat (⟨(rd_T44 x0_2 (ji9)).f0, (rd_T44 x0_2 (ji9)).f1⟩ : S44)).set ((ji9) : Int).toNat (⟨(rd_T44 x0_2 x9_2).f0, (rd_T44 x0_2 x9_2).f1⟩ : S44)) a1 a2 x8_1 ji9) else (api_Term_59_at52.l0 k2 x0_2 a1 a2 (wrap64 (x8_1 + 1))))) else (none)) else (none)) = some r := by first | (rw [hji9] at H; exact H) | (simp only [hji9] at H ⊢; exact H)
          have hji9w : (IntKind.i64.wrap (x9_2 - 1)) = ji9 := (i64_w _).trans hji9
          by_cases c10 : 0 ≤ (ji9)
          ·rw [if_pos c10] at H
           have c10b0 : decide (0 ≤ (ji9)) = true := decide_eq_true c10
           clear c10
           by_cases c11 : (ji9) < (x0_2.length : Int)
           ·rw [if_pos c11] at H
            have c11b0 : decide ((ji9) < (x0_2.length : Int)) = true := decide_eq_true c11
            clear c11
            replace H := Option.bind_eq_some_iff.mp H
            obtain ⟨t103, A120, H⟩ := H
            replace H : (if t103 < 0 then (api_Term_59_at52.l1 k2 ((x0_2.set (x9_2 : Int).toNat (⟨(rd_T44 x0_2 (ji9)).f0, (rd_T44 x0_2 (ji9)).f1⟩ : S44)).set ((ji9) : Int).toNat (⟨(rd_T44 x0_2 x9_2).f0, (rd_T44 x0_2 x9_2).f1⟩ : S44)) a1 a2 x8_1 ji9) else (api_Term_59_at52.l0 k2 x0_2 a1 a2 (wrap64 (x8_1 + 1)))) = some r := H
            have A12 := Aside0.mk A120
            clear A120
            by_cases c13 : t103 < 0
            ·rw [if_pos c13] at H
             have c13b0 : decide (t103 < 0) = true := decide_eq_true c13
             clear c13
             obtain ⟨y106, hy106⟩ : ∃ y_ : List (S44), y_ = (x0_2.set (x9_2 : Int).toNat (⟨(rd_T44 x0_2 (ji9)).f0, (rd_T44 x0_2 (ji9)).f1⟩ : S44)) := ⟨_, rfl⟩
             replace H : (api_Term_59_at52.l1 k2 (y106.set ((ji9) : Int).toNat (⟨(rd_T44 x0_2 x9_2).f0, (rd_T44 x0_2 x9_2).f1⟩ : S44)) a1 a2 x8_1 ji9) = some r := by first | (rw [hy106]; with_reducible exact H) | (have H2_ := (Option.bind_some _ _).symm.trans H; rw [hy106]; with_reducible exact H2_) | (have H2_ := (Option.bind_some _ _).symm.trans H; with_reducible exact H2_) | with_reducible exact H | (rw [hy106]; exact H) | exact H
             have Ny106 := Aside0.mk hy106
             clear hy106
             obtain ⟨y107, hy107⟩ : ∃ y_ : List (S44), y_ = (y106.set ((ji9) : Int).toNat (⟨(rd_T44 x0_2 x9_2).f0, (rd_T44 x0_2 x9_2).f1⟩ : S44)) := ⟨_, rfl⟩
             replace H : (api_Term_59_at52.l1 k2 y107 a1 a2 x8_1 ji9) = some r := by first | (rw [hy107]; with_reducible exact H) | (have H2_ := (Option.bind_some _ _).symm.trans H; rw [hy107]; with_reducible exact H2_) | (have H2_ := (Option.bind_some _ _).symm.trans H; with_reducible exact H2_) | with_reducible exact H | (rw [hy107]; exact H) | exact H
             have Ny107 := Aside0.mk hy107
             clear hy107
             have H' := Aside0.mk H
             clear H
             try go_wp2
             have n0_ := Aside0.mk (Kd.R_drew HO_0.out)
             have n1_ := Aside0.mk (Kept.drew HK.out)
             have n2_ := Aside0.mk (below_drew1 HB.out)
             clear HO_0
             clear HK
             clear HB
             have HO_0 := n0_
             have HK := n1_
             have HB := n2_
             clear n0_ n1_ n2_
             obtain ⟨Ao17, co17, eo17⟩ := Kd.R_slice HO_0.out
             (first | subst eo17 | (injection eo17 with f1_ f2_ f3_; have f4_ := f1_.symm; have f5_ := f3_.symm; clear f1_ f2_ f3_; subst f4_; subst f5_))
             have p101 : 0 ≤ (x9_2 : Int) := oD
             have q101 : x9_2 < (x0_2.length : Int) := oD
             obtain ⟨ad101, e101, hx101_0, hx101_1⟩ := at_T44 (Kd.R_reads' HO_0.out).2.2 x9_2 p101 q101
             cases e101
             replace p101 := eq_true p101
             replace q101 := eq_true q101
             have p102 : 0 ≤ ((ji9) : Int) := oD
             have q102 : (ji9) < (x0_2.length : Int) := oD
             obtain ⟨ad102, e102, hx102_0, hx102_1⟩ := at_T44 (Kd.R_reads' HO_0.out).2.2 (ji9) p102 q102
             obtain rfl : ad101 = ad102 := (by injection e102)
             replace p102 := eq_true p102
             replace q102 := eq_true q102
             refine start_ (n := 17) (S := fun w' => w'.cell? (ad101.add ((x9_2).toNat * 2)) = some (.int .i64 ((rd_T44 x0_2 x9_2).f0)) ∧ w'.cell? ⟨(ad101.add ((x9_2).toNat * 2)).block, (ad101.add ((x9_2).toNat * 2)).off + 1, none⟩ = some (.int .i64 ((rd_T44 x0_2 x9_2).f1)) ∧ w'.cell? (ad101.add (((ji9)).toNat * 2)) = some (.int .i64 ((rd_T44 x0_2 (ji9)).f0)) ∧ w'.cell? ⟨(ad101.add (((ji9)).toNat * 2)).block, (ad101.add (((ji9)).toNat * 2)).off + 1, none⟩ = some (.int .i64 ((rd_T44 x0_2 (ji9)).f1))) (ds := []) api_Term_59_at52.b0 (by kernel_rfl) rfl rfl ⟨hx101_0, hx101_1, hx102_0, hx102_1⟩ (fun hHeld => ?_); refine with_tabW api_Term_59_at52.tab4 api_Term_59_at52.bits4 (fun HT_ HW_ => ?_)
             generalize wr.drew = w16 at HO_0 HK HB hx101_0 hx101_1 hx102_0 hx102_1 hHeld ⊢
             refine pY 0 (some 18) api_Term_59_at52.b1 rfl rfl HT_.out (fun _ _ _ h => h) ?_
             refine pY 1 (some 19) api_Term_59_at52.b2 rfl rfl HT_.out (fun _ _ _ h => h) ?_
             refine pY 2 (some 20) api_Term_59_at52.b3 rfl rfl HT_.out (fun _ _ _ h => h) ?_
             refine pY 3 (some 21) api_Term_59_at52.b4 rfl rfl HT_.out (fun _ _ _ h => h) ?_
             refine pY 4 (some 22) api_Term_59_at52.b5 rfl rfl HT_.out (fun _ _ _ h => h) ?_
             refine pY 5 (some 23) api_Term_59_at52.b6 rfl rfl HT_.out (fun _ _ _ h => h) ?_
             refine pY 6 (some 24) api_Term_59_at52.b7 rfl rfl HT_.out (fun _ _ _ h => h) ?_
             refine pY 7 (some 25) api_Term_59_at52.b8 rfl rfl HT_.out (fun _ _ _ h => h) ?_
             refine pY 9 (some 27) api_Term_59_at52.b9 rfl rfl HT_.out (fun _ _ _ h => h) ?_
             refine pY 10 (some 28) api_Term_59_at52.b10 rfl rfl HT_.out (fun _ _ _ h => h) ?_
             refine pY 11 (some 29) api_Term_59_at52.b11 rfl rfl HT_.out (fun _ _ _ h => h) ?_
             refine pY 12 (some 30) api_Term_59_at52.b12 rfl rfl HT_.out (fun _ _ _ h => h) ?_
             refine take_ (i := 8) (N := some 26) (v := ?_) (a' := ?_) api_Term_59_at52.b13 rfl rfl (take_ofW HT_.out HW_.out (by kernel_rfl)) (fun _ _ _ h => h) (Or.inl ⟨by rfl, ?_⟩) hHeld ?_ ?_
             rotate_left
             ·rintro w' ⟨s0, s1, s2, s3⟩
              go_simp
              with_reducible rfl
             rotate_left
             ·simp only [Act.put, List.setIfInBounds_toArray, List.set_cons_zero, List.set_cons_succ, i64_w, i32_w]
              rfl
             refine take_ (i := 13) (N := some 31) (v := ?_) (a' := ?_) api_Term_59_at52.b14 rfl rfl (take_ofW HT_.out HW_.out (by kernel_rfl)) (fun _ _ _ h => h) (Or.inl ⟨by rfl, ?_⟩) hHeld ?_ ?_
             rotate_left
             ·rintro w' ⟨s0, s1, s2, s3⟩
              go_simp
              with_reducible rfl
             rotate_left
             ·simp only [Act.put, List.setIfInBounds_toArray, List.set_cons_zero, List.set_cons_succ, i64_w, i32_w]
              rfl
             refine one_ (i := 14) (N := some 32) api_Term_59_at52.b15 rfl rfl (one_of HT_.out (by kernel_rfl)) (by decide) (fun K hK => ?_)
             refine goesT_ Try.func52 (by kernel_rfl) rfl #[.agg #[.int .i64 ((rd_T44 x0_2 x9_2).f0), .int .i64 ((rd_T44 x0_2 x9_2).f1)], .agg #[.int .i64 ((rd_T44 x0_2 (ji9)).f0), .int .i64 ((rd_T44 x0_2 (ji9)).f1)]] (by rfl) rfl rfl (by (try simp only [List.map_toArray, List.map_cons, List.map_nil]); first | done | (simp only [hji9]; rfl) | rfl | (simp only [List.length_drop, List.length_take]; rfl)) ?_
             with_reducible refine (fact_gather_1.calls ((rd_T44 x0_2 x9_2).f0) ((rd_T44 x0_2 x9_2).f1) ((rd_T44 x0_2 (ji9)).f0) ((rd_T44 x0_2 (ji9)).f1) t103 _ A12.out).mono ?_
             rintro e w18 ⟨rfl, hb⟩
             have HS0_ := (hb.cell (World.block_lt_of_cell? _ _ (hHeld.1))).trans (hHeld.1)
             have HS1_ := (hb.cell (World.block_lt_of_cell? _ _ (hHeld.2.1))).trans (hHeld.2.1)
             have HS2_ := (hb.cell (World.block_lt_of_cell? _ _ (hHeld.2.2.1))).trans (hHeld.2.2.1)
             have HS3_ := (hb.cell (World.block_lt_of_cell? _ _ (hHeld.2.2.2))).trans (hHeld.2.2.2)
             refine ⟨_, rfl, ?_⟩
             have n0_ := Aside0.mk (Kd.R_below (rK HO_0.out) hb)
             have n1_ := Aside0.mk (Kept.below (S := (fun k_ => P0_ k_)) (kP HK.out) hb)
             have n2_ := Aside0.mk (below_step (hB0 HB.out) hb)
             clear HO_0
             clear HK
             clear HB
             have HO_0 := n0_
             have HK := n1_
             have HB := n2_
             clear n0_ n1_ n2_
             (try clear hb)
             (try clear hb2)
             (try clear hk)
             (try clear hi)
             refine hK.out _ _ ⟨HS0_, HS1_, HS2_, HS3_⟩ (fun hHeld => ?_)
             clear hK K
             refine norm_ (a' := ?_) ?_ ?_
             rotate_left
             ·show Act.put _ (some 32) _ = _
              simp only [Act.put, List.setIfInBounds_toArray, List.set_cons_zero, List.set_cons_succ, i64_w, i32_w]
              rfl
             refine pY 15 (some 33) api_Term_59_at52.b16 rfl rfl HT_.out (fun _ _ _ h => h) ?_
             refine pY 16 (some 34) api_Term_59_at52.b17 rfl rfl HT_.out (fun _ _ _ h => h) ?_
             refine done_ (done_of HT_.out (by kernel_rfl)) ?_
             try go_wp2
             have n0_ := Aside0.mk (Kd.R_drew HO_0.out)
             have n1_ := Aside0.mk (Kept.drew HK.out)
             have n2_ := Aside0.mk (below_drew1 HB.out)
             clear HO_0
             clear HK
             clear HB
             have HO_0 := n0_
             have HK := n1_
             have HB := n2_
             clear n0_ n1_ n2_
             have p104 : 0 ≤ ((ji9) : Int) := oD
             have q104 : (ji9) < (x0_2.length : Int) := oD
             obtain ⟨ad104, e104, hx104_0, hx104_1⟩ := at_T44 (Kd.R_reads' HO_0.out).2.2 (ji9) p104 q104
             obtain rfl : ad101 = ad104 := (by injection e104)
             replace p104 := eq_true p104
             replace q104 := eq_true q104
             have p105 : 0 ≤ (x9_2 : Int) := oD
             have q105 : x9_2 < (x0_2.length : Int) := oD
             obtain ⟨ad105, e105, hx105_0, hx105_1⟩ := at_T44 (Kd.R_reads' HO_0.out).2.2 x9_2 p105 q105
             obtain rfl : ad101 = ad105 := (by injection e105)
             replace p105 := eq_true p105
             replace q105 := eq_true q105
             have p14 : 0 ≤ (x9_2 : Int) := oD
             have q14 : (x9_2 : Int) < ((x0_2.length : Int) : Int) := oD
             obtain ⟨go14, co14, eo14, gb14, gl14, cl14, HG14⟩ := Kd.R_form HO_0.out (by omega)
             (first | cases eo14 | (injection eo14 with ea_ en_ ec_; (first | subst ea_ | (injection ea_ with ea_; subst ea_)); subst ec_; clear en_))
             have GB14 := Aside0.mk gb14
             have GG14 := Aside0.mk HG14
             clear gb14 gl14 HG14
             have HMgo14 := Aside0.mk (show (P0_ go14 ∨ w.heap.size ≤ go14) from (HO_0.out.1 _ rfl))
             (first | simp only [add_plain] at hx101_0 | skip)
             (first | simp only [add_plain] at hx101_1 | skip)
             (first | simp only [add_plain] at hx102_0 | skip)
             (first | simp only [add_plain] at hx102_1 | skip)
             (first | simp only [add_plain] at hx104_0 | skip)
             (first | simp only [add_plain] at hx104_1 | skip)
             (first | simp only [add_plain] at hx105_0 | skip)
             (first | simp only [add_plain] at hx105_1 | skip)
             obtain ⟨ce14, hcl14, hM14, hcc14, hfr14⟩ := Kd.R_elem HO_0.out z44 (x9_2 : Int) p14 q14
             obtain rfl := k44_openM hM14
             have hx14_0 : World.cell? _ ⟨go14, (x9_2 : Int).toNat * 2, none⟩ = some (.int .i64 ((rd_T44 x0_2 x9_2).f0)) := hcc14 0 _ rfl
             have hx14_1 : World.cell? _ ⟨go14, (x9_2 : Int).toNat * 2 + 1, none⟩ = some (.int .i64 ((rd_T44 x0_2 x9_2).f1)) := hcc14 1 _ rfl
             have hf14_0 : World.frozen? _ ⟨go14, (x9_2 : Int).toNat * 2, none⟩ = false := hfr14 0
             have hf14_1 : World.frozen? _ ⟨go14, (x9_2 : Int).toNat * 2 + 1, none⟩ = false := hfr14 1
             clear hcl14 hcc14 hfr14 hM14
             replace p14 := eq_true p14
             replace q14 := eq_true q14
             obtain ⟨ce20, hcl20, hM20, hcc20, hfr20⟩ := Kd.R_elem HO_0.out z44 (x9_2 : Int) (oD) (by have h_ : (x9_2 : Int) < ((x0_2.length : Int) : Int) := oD; first | exact h_ | (have e_ := (Kd.R_reads' HO_0.out).1; omega) | simpa using h_)
             obtain rfl := k44_openM hM20
             have HP20 := (Kd.R_seg HO_0.out (x9_2 : Int) (oD) (by have h_ : (x9_2 : Int) < ((x0_2.length : Int) : Int) := oD; first | exact h_ | (have e_ := (Kd.R_reads' HO_0.out).1; omega) | simpa using h_) (seg := [.int .i64 ((rd_T44 x0_2 (ji9)).f0), .int .i64 ((rd_T44 x0_2 (ji9)).f1)]) (j := 0) hcl20 hcc20 (show 2 ≤ 2 from by decide) (x' := (⟨(rd_T44 x0_2 (ji9)).f0, (rd_T44 x0_2 (ji9)).f1⟩ : S44)) (k44_mkM _ _ _ (⟨(rd_T44 x0_2 (ji9)).f0, (rd_T44 x0_2 (ji9)).f1⟩ : S44) ) (fun _ hk => hk)).1
             rw [← Ny106.out] at HP20
             have HQ20 := Aside0.mk HP20
             clear hcl20 hcc20 hfr20 hM20 HP20
             have p15 : 0 ≤ ((ji9) : Int) := oD
             have q15 : ((ji9) : Int) < ((x0_2.length : Int) : Int) := oD
             obtain ⟨ce15, hcl15, hM15, hcc15, hfr15⟩ := Kd.R_elem HQ20.out z44 ((ji9) : Int) p15 q15
             obtain rfl := k44_openM hM15
             have hx15_0 : World.cell? _ ⟨go14, ((ji9) : Int).toNat * 2, none⟩ = some (.int .i64 ((rd_T44 y106 (ji9)).f0)) := hcc15 0 _ rfl
             have hx15_1 : World.cell? _ ⟨go14, ((ji9) : Int).toNat * 2 + 1, none⟩ = some (.int .i64 ((rd_T44 y106 (ji9)).f1)) := hcc15 1 _ rfl
             have hf15_0 : World.frozen? _ ⟨go14, ((ji9) : Int).toNat * 2, none⟩ = false := hfr15 0
             have hf15_1 : World.frozen? _ ⟨go14, ((ji9) : Int).toNat * 2 + 1, none⟩ = false := hfr15 1
             clear hcl15 hcc15 hfr15 hM15
             replace p15 := eq_true p15
             replace q15 := eq_true q15
             obtain ⟨ce21, hcl21, hM21, hcc21, hfr21⟩ := Kd.R_elem HQ20.out z44 ((ji9) : Int) (oD) (by have h_ : ((ji9) : Int) < ((x0_2.length : Int) : Int) := oD; first | exact h_ | (have e_ := (Kd.R_reads' HO_0.out).1; omega) | simpa using h_)
             obtain rfl := k44_openM hM21
             have HP21 := (Kd.R_seg HQ20.out ((ji9) : Int) (oD) (by have h_ : ((ji9) : Int) < ((x0_2.length : Int) : Int) := oD; first | exact h_ | (have e_ := (Kd.R_reads' HO_0.out).1; omega) | simpa using h_) (seg := [.int .i64 ((rd_T44 x0_2 x9_2).f0), .int .i64 ((rd_T44 x0_2 x9_2).f1)]) (j := 0) hcl21 hcc21 (show 2 ≤ 2 from by decide) (x' := (⟨(rd_T44 x0_2 x9_2).f0, (rd_T44 x0_2 x9_2).f1⟩ : S44)) (k44_mkM _ _ _ (⟨(rd_T44 x0_2 x9_2).f0, (rd_T44 x0_2 x9_2).f1⟩ : S44) ) (fun _ hk => hk)).1
             rw [← Ny107.out] at HP21
             have HQ21 := Aside0.mk HP21
             clear hcl21 hcc21 hfr21 hM21 HP21
             refine start_ (n := 18) (S := fun w' => w'.cell? ⟨go14, ((ji9)).toNat * 2, none⟩ = some (.int .i64 ((rd_T44 x0_2 (ji9)).f0)) ∧ w'.cell? ⟨go14, (((ji9)).toNat * 2) + 1, none⟩ = some (.int .i64 ((rd_T44 x0_2 (ji9)).f1)) ∧ w'.cell? ⟨go14, ((x9_2).toNat * 2), none⟩ = some (.int .i64 ((rd_T44 x0_2 x9_2).f0)) ∧ w'.cell? ⟨go14, ((x9_2).toNat * 2) + 1, none⟩ = some (.int .i64 ((rd_T44 x0_2 x9_2).f1))) (ds := [15, 17]) api_Term_59_at52.b18 (by kernel_rfl) rfl rfl ⟨hx104_0, hx104_1, hx105_0, hx105_1⟩ (fun hHeld => ?_); refine with_tabW api_Term_59_at52.tab6 api_Term_59_at52.bits6 (fun HT_ HW_ => ?_)
             generalize w18.drew = w19 at HO_0 HK HB GG14 HQ20 HQ21 hf14_0 hf14_1 hf15_0 hf15_1 hx101_0 hx101_1 hx102_0 hx102_1 hx104_0 hx104_1 hx105_0 hx105_1 hx14_0 hx14_1 hx15_0 hx15_1 hHeld ⊢
             refine pY 0 (some 37) api_Term_59_at52.b19 rfl rfl HT_.out (fun _ _ _ h => h) ?_
             refine pY 1 (some 38) api_Term_59_at52.b20 rfl rfl HT_.out (fun _ _ _ h => h) ?_
             refine pY 2 (some 39) api_Term_59_at52.b21 rfl rfl HT_.out (fun _ _ _ h => h) ?_
             refine pY 3 (some 40) api_Term_59_at52.b22 rfl rfl HT_.out (fun _ _ _ h => h) ?_
             refine pY 4 (some 41) api_Term_59_at52.b23 rfl rfl HT_.out (fun _ _ _ h => h) ?_
             refine pY 5 (some 42) api_Term_59_at52.b24 rfl rfl HT_.out (fun _ _ _ h => h) ?_
             refine pY 6 (some 43) api_Term_59_at52.b25 rfl rfl HT_.out (fun _ _ _ h => h) ?_
             refine pY 7 (some 44) api_Term_59_at52.b26 rfl rfl HT_.out (fun _ _ _ h => h) ?_
             refine pY 8 (some 45) api_Term_59_at52.b27 rfl rfl HT_.out (fun _ _ _ h => h) ?_
             refine pY 10 (some 47) api_Term_59_at52.b28 rfl rfl HT_.out (fun _ _ _ h => h) ?_
             refine pY 11 (some 48) api_Term_59_at52.b29 rfl rfl HT_.out (fun _ _ _ h => h) ?_
             refine pY 12 (some 49) api_Term_59_at52.b30 rfl rfl HT_.out (fun _ _ _ h => h) ?_
             refine take_ (i := 9) (N := some 46) (v := ?_) (a' := ?_) api_Term_59_at52.b31 rfl rfl (take_ofW HT_.out HW_.out (by kernel_rfl)) (fun _ _ _ h => h) (Or.inl ⟨by rfl, ?_⟩) hHeld ?_ ?_
             rotate_left
             ·rintro w' ⟨s0, s1, s2, s3⟩
              go_simp
              with_reducible rfl
             rotate_left
             ·simp only [Act.put, List.setIfInBounds_toArray, List.set_cons_zero, List.set_cons_succ, i64_w, i32_w]
              rfl
             refine take_ (i := 13) (N := some 50) (v := ?_) (a' := ?_) api_Term_59_at52.b32 rfl rfl (take_ofW HT_.out HW_.out (by kernel_rfl)) (fun _ _ _ h => h) (Or.inl ⟨by rfl, ?_⟩) hHeld ?_ ?_
             rotate_left
             ·rintro w' ⟨s0, s1, s2, s3⟩
              go_simp
              with_reducible rfl
             rotate_left
             ·simp only [Act.put, List.setIfInBounds_toArray, List.set_cons_zero, List.set_cons_succ, i64_w, i32_w]
              rfl
             refine pY 14 (some 51) api_Term_59_at52.b33 rfl rfl HT_.out (fun _ _ _ h => h) ?_
             refine last_ (i := 15) (N := none) api_Term_59_at52.b34 rfl rfl (one_of HT_.out (by kernel_rfl)) (by decide) (fun K hK => ?_)
             refine skip_ (w1 := ?_) (by rfl) rfl ?_ ?_
             rotate_left
             ·(try (obtain ⟨va_, hva_⟩ := cell?_setCell_some (w := w19) (p := ⟨go14, (x9_2 : Int).toNat * 2, none⟩) (x := .int .i64 ((rd_T44 x0_2 (ji9)).f0)) (q := ⟨go14, ((ji9) : Int).toNat * 2, none⟩) (by assumption)))
              (try (obtain ⟨vb_, hvb_⟩ := cell?_setCell_some (w := w19) (p := ⟨go14, (x9_2 : Int).toNat * 2, none⟩) (x := .int .i64 ((rd_T44 x0_2 (ji9)).f0)) (q := ⟨go14, ((ji9) : Int).toNat * 2 + 1, none⟩) (by assumption); obtain ⟨vc_, hvc_⟩ := cell?_setCell_some (w := w19.setCell ⟨go14, (x9_2 : Int).toNat * 2, none⟩ (.int .i64 ((rd_T44 x0_2 (ji9)).f0))) (p := ⟨go14, (x9_2 : Int).toNat * 2 + 1, none⟩) (x := .int .i64 ((rd_T44 x0_2 (ji9)).f1)) (q := ⟨go14, ((ji9) : Int).toNat * 2 + 1, none⟩) hvb_))
              (try (have hfa0_ : w19.frozen? ⟨go14, ((ji9) : Int).toNat * 2, none⟩ = false := by have h_ := hf15_0; rw [World.frozen?_setCells] at h_; exact h_))
              (try (have hfa1_ : w19.frozen? ⟨go14, ((ji9) : Int).toNat * 2 + 1, none⟩ = false := by have h_ := hf15_1; rw [World.frozen?_setCells] at h_; exact h_))
              go_simp
              rfl
             refine hK.out _ _ ?_
             clear hK K
             refine pY 16 (some 52) api_Term_59_at52.b35 rfl rfl HT_.out (fun _ _ _ h => h) ?_
             refine last_ (i := 17) (N := none) api_Term_59_at52.b36 rfl rfl (one_of HT_.out (by kernel_rfl)) (by decide) (fun K hK => ?_)
             refine skip_ (w1 := ?_) (by rfl) rfl ?_ ?_
             rotate_left
             ·(try (obtain ⟨va_, hva_⟩ := cell?_setCell_some (w := w19) (p := ⟨go14, (x9_2 : Int).toNat * 2, none⟩) (x := .int .i64 ((rd_T44 x0_2 (ji9)).f0)) (q := ⟨go14, ((ji9) : Int).toNat * 2, none⟩) (by assumption)))
              (try (obtain ⟨vb_, hvb_⟩ := cell?_setCell_some (w := w19) (p := ⟨go14, (x9_2 : Int).toNat * 2, none⟩) (x := .int .i64 ((rd_T44 x0_2 (ji9)).f0)) (q := ⟨go14, ((ji9) : Int).toNat * 2 + 1, none⟩) (by assumption); obtain ⟨vc_, hvc_⟩ := cell?_setCell_some (w := w19.setCell ⟨go14, (x9_2 : Int).toNat * 2, none⟩ (.int .i64 ((rd_T44 x0_2 (ji9)).f0))) (p := ⟨go14, (x9_2 : Int).toNat * 2 + 1, none⟩) (x := .int .i64 ((rd_T44 x0_2 (ji9)).f1)) (q := ⟨go14, ((ji9) : Int).toNat * 2 + 1, none⟩) hvb_))
              (try (have hfa0_ : w19.frozen? ⟨go14, ((ji9) : Int).toNat * 2, none⟩ = false := by have h_ := hf15_0; rw [World.frozen?_setCells] at h_; exact h_))
              (try (have hfa1_ : w19.frozen? ⟨go14, ((ji9) : Int).toNat * 2 + 1, none⟩ = false := by have h_ := hf15_1; rw [World.frozen?_setCells] at h_; exact h_))
              go_simp
              rfl
             refine hK.out _ _ ?_
             clear hK K
             refine done_ (done_of HT_.out (by kernel_rfl)) ?_
             try go_wp2
             go_roundg k2
             case measure => have := HK1.out; have := HK2.out; omega
             case rel => exact ⟨(y107), (ji9), (by first | rfl | (simp; done) | (simp only [← hji9] <;> (first | rfl | simp)) | (simp [*]; done)), H', ⟨by have := HK1.out; have := HK2.out; omega⟩, ⟨rK HQ21.out⟩, ⟨by repeat (first | (with_reducible first | exact HK.out | apply Kept.alloc | apply Kept.drewN | apply Kept.drew | refine Kept.setCell ?_ HMgo14.out _ | refine Kept.setCell ?_ HMgo14.out _ | refine Kept.setCell ?_ HMgo14.out _ | refine Kept.setCell ?_ HMgo14.out _) | exact HK.out)⟩, ⟨hB4 HB.out GB14.out GB14.out GB14.out GB14.out⟩⟩
            ·rw [if_neg c13] at H
             have c13b0 : decide (t103 < 0) = false := decide_eq_false c13
             clear c13
             have H' := Aside0.mk H
             clear H
             try go_wp2
             have n0_ := Aside0.mk (Kd.R_drew HO_0.out)
             have n1_ := Aside0.mk (Kept.drew HK.out)
             have n2_ := Aside0.mk (below_drew1 HB.out)
             clear HO_0
             clear HK
             clear HB
             have HO_0 := n0_
             have HK := n1_
             have HB := n2_
             clear n0_ n1_ n2_
             obtain ⟨Ao23, co23, eo23⟩ := Kd.R_slice HO_0.out
             (first | subst eo23 | (injection eo23 with f1_ f2_ f3_; have f4_ := f1_.symm; have f5_ := f3_.symm; clear f1_ f2_ f3_; subst f4_; subst f5_))
             have p101 : 0 ≤ (x9_2 : Int) := oD
             have q101 : x9_2 < (x0_2.length : Int) := oD
             obtain ⟨ad101, e101, hx101_0, hx101_1⟩ := at_T44 (Kd.R_reads' HO_0.out).2.2 x9_2 p101 q101
             cases e101
             replace p101 := eq_true p101
             replace q101 := eq_true q101
             have p102 : 0 ≤ ((ji9) : Int) := oD
             have q102 : (ji9) < (x0_2.length : Int) := oD
             obtain ⟨ad102, e102, hx102_0, hx102_1⟩ := at_T44 (Kd.R_reads' HO_0.out).2.2 (ji9) p102 q102
             obtain rfl : ad101 = ad102 := (by injection e102)
             replace p102 := eq_true p102
             replace q102 := eq_true q102
             refine start_ (n := 17) (S := fun w' => w'.cell? (ad101.add ((x9_2).toNat * 2)) = some (.int .i64 ((rd_T44 x0_2 x9_2).f0)) ∧ w'.cell? ⟨(ad101.add ((x9_2).toNat * 2)).block, (ad101.add ((x9_2).toNat * 2)).off + 1, none⟩ = some (.int .i64 ((rd_T44 x0_2 x9_2).f1)) ∧ w'.cell? (ad101.add (((ji9)).toNat * 2)) = some (.int .i64 ((rd_T44 x0_2 (ji9)).f0)) ∧ w'.cell? ⟨(ad101.add (((ji9)).toNat * 2)).block, (ad101.add (((ji9)).toNat * 2)).off + 1, none⟩ = some (.int .i64 ((rd_T44 x0_2 (ji9)).f1))) (ds := []) api_Term_59_at52.b0 (by kernel_rfl) rfl rfl ⟨hx101_0, hx101_1, hx102_0, hx102_1⟩ (fun hHeld => ?_); refine with_tabW api_Term_59_at52.tab4 api_Term_59_at52.bits4 (fun HT_ HW_ => ?_)
             generalize wr.drew = w22 at HO_0 HK HB hx101_0 hx101_1 hx102_0 hx102_1 hHeld ⊢
             refine pY 0 (some 18) api_Term_59_at52.b1 rfl rfl HT_.out (fun _ _ _ h => h) ?_
             refine pY 1 (some 19) api_Term_59_at52.b2 rfl rfl HT_.out (fun _ _ _ h => h) ?_
             refine pY 2 (some 20) api_Term_59_at52.b3 rfl rfl HT_.out (fun _ _ _ h => h) ?_
             refine pY 3 (some 21) api_Term_59_at52.b4 rfl rfl HT_.out (fun _ _ _ h => h) ?_
             refine pY 4 (some 22) api_Term_59_at52.b5 rfl rfl HT_.out (fun _ _ _ h => h) ?_
             refine pY 5 (some 23) api_Term_59_at52.b6 rfl rfl HT_.out (fun _ _ _ h => h) ?_
             refine pY 6 (some 24) api_Term_59_at52.b7 rfl rfl HT_.out (fun _ _ _ h => h) ?_
             refine pY 7 (some 25) api_Term_59_at52.b8 rfl rfl HT_.out (fun _ _ _ h => h) ?_
             refine pY 9 (some 27) api_Term_59_at52.b9 rfl rfl HT_.out (fun _ _ _ h => h) ?_
             refine pY 10 (some 28) api_Term_59_at52.b10 rfl rfl HT_.out (fun _ _ _ h => h) ?_
             refine pY 11 (some 29) api_Term_59_at52.b11 rfl rfl HT_.out (fun _ _ _ h => h) ?_
             refine pY 12 (some 30) api_Term_59_at52.b12 rfl rfl HT_.out (fun _ _ _ h => h) ?_
             refine take_ (i := 8) (N := some 26) (v := ?_) (a' := ?_) api_Term_59_at52.b13 rfl rfl (take_ofW HT_.out HW_.out (by kernel_rfl)) (fun _ _ _ h => h) (Or.inl ⟨by rfl, ?_⟩) hHeld ?_ ?_
             rotate_left
             ·rintro w' ⟨s0, s1, s2, s3⟩
              go_simp
              with_reducible rfl
             rotate_left
             ·simp only [Act.put, List.setIfInBounds_toArray, List.set_cons_zero, List.set_cons_succ, i64_w, i32_w]
              rfl
             refine take_ (i := 13) (N := some 31) (v := ?_) (a' := ?_) api_Term_59_at52.b14 rfl rfl (take_ofW HT_.out HW_.out (by kernel_rfl)) (fun _ _ _ h => h) (Or.inl ⟨by rfl, ?_⟩) hHeld ?_ ?_
             rotate_left
             ·rintro w' ⟨s0, s1, s2, s3⟩
              go_simp
              with_reducible rfl
             rotate_left
             ·simp only [Act.put, List.setIfInBounds_toArray, List.set_cons_zero, List.set_cons_succ, i64_w, i32_w]
              rfl
             refine one_ (i := 14) (N := some 32) api_Term_59_at52.b15 rfl rfl (one_of HT_.out (by kernel_rfl)) (by decide) (fun K hK => ?_)
             refine goesT_ Try.func52 (by kernel_rfl) rfl #[.agg #[.int .i64 ((rd_T44 x0_2 x9_2).f0), .int .i64 ((rd_T44 x0_2 x9_2).f1)], .agg #[.int .i64 ((rd_T44 x0_2 (ji9)).f0), .int .i64 ((rd_T44 x0_2 (ji9)).f1)]] (by rfl) rfl rfl (by (try simp only [List.map_toArray, List.map_cons, List.map_nil]); first | done | (simp only [hji9]; rfl) | rfl | (simp only [List.length_drop, List.length_take]; rfl)) ?_
             with_reducible refine (fact_gather_1.calls ((rd_T44 x0_2 x9_2).f0) ((rd_T44 x0_2 x9_2).f1) ((rd_T44 x0_2 (ji9)).f0) ((rd_T44 x0_2 (ji9)).f1) t103 _ A12.out).mono ?_
             rintro e w24 ⟨rfl, hb⟩
             have HS0_ := (hb.cell (World.block_lt_of_cell? _ _ (hHeld.1))).trans (hHeld.1)
             have HS1_ := (hb.cell (World.block_lt_of_cell? _ _ (hHeld.2.1))).trans (hHeld.2.1)
             have HS2_ := (hb.cell (World.block_lt_of_cell? _ _ (hHeld.2.2.1))).trans (hHeld.2.2.1)
             have HS3_ := (hb.cell (World.block_lt_of_cell? _ _ (hHeld.2.2.2))).trans (hHeld.2.2.2)
             refine ⟨_, rfl, ?_⟩
             have n0_ := Aside0.mk (Kd.R_below (rK HO_0.out) hb)
             have n1_ := Aside0.mk (Kept.below (S := (fun k_ => P0_ k_)) (kP HK.out) hb)
             have n2_ := Aside0.mk (below_step (hB0 HB.out) hb)
             clear HO_0
             clear HK
             clear HB
             have HO_0 := n0_
             have HK := n1_
             have HB := n2_
             clear n0_ n1_ n2_
             (try clear hb)
             (try clear hb2)
             (try clear hk)
             (try clear hi)
             refine hK.out _ _ ⟨HS0_, HS1_, HS2_, HS3_⟩ (fun hHeld => ?_)
             clear hK K
             refine norm_ (a' := ?_) ?_ ?_
             rotate_left
             ·show Act.put _ (some 32) _ = _
              simp only [Act.put, List.setIfInBounds_toArray, List.set_cons_zero, List.set_cons_succ, i64_w, i32_w]
              rfl
             refine pY 15 (some 33) api_Term_59_at52.b16 rfl rfl HT_.out (fun _ _ _ h => h) ?_
             refine pY 16 (some 34) api_Term_59_at52.b17 rfl rfl HT_.out (fun _ _ _ h => h) ?_
             refine done_ (done_of HT_.out (by kernel_rfl)) ?_
             try go_wp2
             go_roundg k2
             case measure => have := HK1.out; have := HK2.out; omega
             case rel => exact ⟨(x0_2), (wrap64 (x8_1 + 1)), rS, H', ⟨by have := HK1.out; have := HK2.out; omega⟩, ⟨rK HO_0.out⟩, ⟨kP HK.out⟩, ⟨hB0 HB.out⟩⟩
           ·rw [if_neg c11] at H
            exact absurd H (by simp)
          ·rw [if_neg c10] at H
           exact absurd H (by simp)
         ·rw [if_neg c8] at H
          exact absurd H (by simp)
        ·rw [if_neg c7] at H
         exact absurd H (by simp)
       ·rw [if_neg c6] at H
        have c6b0 : decide (a1 < x9_2) = false := decide_eq_false c6
        clear c6
        have H' := Aside0.mk H
        clear H
        try go_wp2
        have n0_ := Aside0.mk (Kd.R_drew HO_0.out)
        have n1_ := Aside0.mk (Kept.drew HK.out)
        have n2_ := Aside0.mk (below_drew1 HB.out)
        clear HO_0
        clear HK
        clear HB
        have HO_0 := n0_
        have HK := n1_
        have HB := n2_
        clear n0_ n1_ n2_
        refine start_ (n := 17) (S := fun w' => True) (ds := []) api_Term_59_at52.b0 (by kernel_rfl) rfl rfl trivial (fun hHeld => ?_); refine with_tabW api_Term_59_at52.tab4 api_Term_59_at52.bits4 (fun HT_ HW_ => ?_)
        generalize wr.drew = w25 at HO_0 HK HB hHeld ⊢
        refine pY 0 (some 18) api_Term_59_at52.b1 rfl rfl HT_.out (fun _ _ _ h => h) ?_
        refine pY 1 (some 19) api_Term_59_at52.b2 rfl rfl HT_.out (fun _ _ _ h => h) ?_
        refine pY 2 (some 20) api_Term_59_at52.b3 rfl rfl HT_.out (fun _ _ _ h => h) ?_
        refine pY 3 (some 21) api_Term_59_at52.b4 rfl rfl HT_.out (fun _ _ _ h => h) ?_
        refine pN 4 (some 22) api_Term_59_at52.b5 rfl rfl HT_.out (fun _ _ _ h => h) ?_
        refine pN 5 (some 23) api_Term_59_at52.b6 rfl rfl HT_.out (fun _ _ _ h => h) ?_
        refine pN 6 (some 24) api_Term_59_at52.b7 rfl rfl HT_.out (fun _ _ _ h => h) ?_
        refine pN 7 (some 25) api_Term_59_at52.b8 rfl rfl HT_.out (fun _ _ _ h => h) ?_
        refine pN 8 (some 26) api_Term_59_at52.b37 rfl rfl HT_.out (fun _ _ _ h => h) ?_
        refine pN 9 (some 27) api_Term_59_at52.b38 rfl rfl HT_.out (fun _ _ _ h => h) ?_
        refine pN 10 (some 28) api_Term_59_at52.b39 rfl rfl HT_.out (fun _ _ _ h => h) ?_
        refine pN 11 (some 29) api_Term_59_at52.b40 rfl rfl HT_.out (fun _ _ _ h => h) ?_
        refine pN 12 (some 30) api_Term_59_at52.b13 rfl rfl HT_.out (fun _ _ _ h => h) ?_
        refine pN 13 (some 31) api_Term_59_at52.b14 rfl rfl HT_.out (fun _ _ _ h => h) ?_
        refine pN 14 (some 32) api_Term_59_at52.b15 rfl rfl HT_.out (fun _ _ _ h => h) ?_
        refine pN 15 (some 33) api_Term_59_at52.b16 rfl rfl HT_.out (fun _ _ _ h => h) ?_
        refine pY 16 (some 34) api_Term_59_at52.b17 rfl rfl HT_.out (fun _ _ _ h => h) ?_
        refine done_ (done_of HT_.out (by kernel_rfl)) ?_
        try go_wp2
        go_roundg k2
        case measure => have := HK1.out; have := HK2.out; omega
        case rel => exact ⟨(x0_2), (wrap64 (x8_1 + 1)), rS, H', ⟨by have := HK1.out; have := HK2.out; omega⟩, ⟨rK HO_0.out⟩, ⟨kP HK.out⟩, ⟨hB0 HB.out⟩⟩
    ·rw [if_neg c5] at H
     have c5b0 : decide (x8_1 < a2) = false := decide_eq_false c5
     clear c5
     obtain rfl := Option.some.inj H
     go_wp2
     first | go_end0 | ((try simp only [Exit.inBlock, Exit.then]); refine bodyPost_ret (results_none rfl _ _ _) rfl ?_)
     exact ⟨eW, by (with_reducible repeat (first | apply Kd.R_alloc | apply Kd.R_drewN | apply Kd.R_drew)); exact HO_0.out, hB0 HB.out, kP HK.out⟩
def api_Term_62_at52.l0 : Nat → List (S44) → Int → Int → Int → Int → Option ((List (S44)))
  | 0, _, _, _, _, _ => none
  | k + 1, x0, x1, x2, x3, x10 => if x10 < x3 then (if 0 ≤ (wrap64 (x2 + x10)) then (if (wrap64 (x2 + x10)) < (x0.length : Int) then (if 0 ≤ (wrap64 (x1 + x10)) then (if (wrap64 (x1 + x10)) < (x0.length : Int) then (api_Term_62_at52.l0 k ((x0.set ((wrap64 (x1 + x10)) : Int).toNat (⟨(rd_T44 x0 (wrap64 (x2 + x10))).f0, (rd_T44 x0 (wrap64 (x2 + x10))).f1⟩ : S44)).set ((wrap64 (x2 + x10)) : Int).toNat (⟨(rd_T44 x0 (wrap64 (x1 + x10))).f0, (rd_T44 x0 (wrap64 (x1 + x10))).f1⟩ : S44)) x1 x2 x3 (wrap64 (x10 + 1))) else (none)) else (none)) else (none)) else (none)) else (some x0)
def api_Term_62_at52.f (k : Nat) (l0 : List (S44)) (a1 : Int) (a2 : Int) (a3 : Int)  : Option ((List (S44))) := api_Term_62_at52.l0 k l0 a1 a2 a3 0
theorem api_Term_62_at52.mono_l : ∀ k, (∀ y0 y1 y2 y3 y4, LeO (api_Term_62_at52.l0 k y0 y1 y2 y3 y4) (api_Term_62_at52.l0 (k + 1) y0 y1 y2 y3 y4))
  | 0 => fun _ _ _ _ _ r h => by simp [api_Term_62_at52.l0] at h
  | k + 1 => by
   have ih0 := api_Term_62_at52.mono_l k
   ·intro y0 y1 y2 y3 y4
    unfold api_Term_62_at52.l0
    repeat' first
    | (with_reducible exact ih0 _ _ _ _ _)
    | (with_reducible exact LeO.refl _)
    | (with_reducible exact LeO.none _)
    | (with_reducible refine LeO.ite ?_ ?_)
    | (with_reducible refine LeO.bind ?_ (fun _ => ?_))
    | exact ih0 _ _ _ _ _
    | exact LeO.none _
    | refine LeO.ite ?_ ?_
    | refine LeO.bind ?_ (fun _ => ?_)
theorem api_Term_62_at52.mono : ∀ a0 a1 a2 a3 k, LeO (api_Term_62_at52.f k a0 a1 a2 a3) (api_Term_62_at52.f (k + 1) a0 a1 a2 a3) := by
  intro a0 a1 a2 a3 k
  have ih0 := api_Term_62_at52.mono_l k
  unfold api_Term_62_at52.f
  repeat' first
    | (with_reducible exact ih0 _ _ _ _ _)
    | (with_reducible exact LeO.refl _)
    | (with_reducible exact LeO.none _)
    | (with_reducible refine LeO.ite ?_ ?_)
    | (with_reducible refine LeO.bind ?_ (fun _ => ?_))
    | exact ih0 _ _ _ _ _
    | exact LeO.none _
    | refine LeO.ite ?_ ?_
    | refine LeO.bind ?_ (fun _ => ?_)
def api_Term_62_at52.T3 : Bool × List (List Nat × List Nat) := (true, [([], []), ([], []), ([], []), ([1, 2], [1, 2]), ([], []), ([], []), ([], []), ([5, 6], [5, 6]), ([], []), ([], []), ([], []), ([9, 10], [9, 10]), ([8, 11], [8, 11]), ([12], [12]), ([], []), ([], []), ([], []), ([15, 16], [15, 16]), ([14, 17], [14, 17]), ([18], [18]), ([0, 3, 0, 1, 2, 3, 8, 9, 10, 11, 12, 13, 19], [0, 3]), ([20, 13, 0, 1, 2, 3, 8, 9, 10, 11, 12, 13, 19], [13, 20]), ([4, 7, 0, 1, 2, 3, 4, 5, 6, 7, 8, 9, 10, 11, 12, 13, 14, 15, 16, 17, 18, 19, 20, 21], [4, 7]), ([22, 19, 21, 0, 1, 2, 3, 4, 5, 6, 7, 8, 9, 10, 11, 12, 13, 14, 15, 16, 17, 18, 19, 20, 21], [19, 22])])
def api_Term_62_at52.B3 : List Nat := [0, 0, 0, 6, 0, 0, 0, 96, 0, 0, 0, 1536, 3840, 7936, 0, 0, 0, 98304, 245760, 507904, 1048335, 2096911, 4194303, 8388607]
theorem api_Term_62_at52.tab3 : rtab .any (opsOf Try.f62 3) = api_Term_62_at52.T3 := by kernel_rfl
theorem api_Term_62_at52.bits3 : waitsOk api_Term_62_at52.T3.2 api_Term_62_at52.B3 = true := by kernel_rfl
abbrev api_Term_62_at52.b0 : Array Bool := X.bv77
abbrev api_Term_62_at52.b1 : Array Bool := X.bv78
abbrev api_Term_62_at52.b2 : Array Bool := X.bv79
abbrev api_Term_62_at52.b3 : Array Bool := X.bv80
abbrev api_Term_62_at52.b4 : Array Bool := X.bv81
abbrev api_Term_62_at52.b5 : Array Bool := X.bv82
abbrev api_Term_62_at52.b6 : Array Bool := X.bv83
abbrev api_Term_62_at52.b7 : Array Bool := X.bv84
abbrev api_Term_62_at52.b8 : Array Bool := X.bv85
abbrev api_Term_62_at52.b9 : Array Bool := X.bv86
abbrev api_Term_62_at52.b10 : Array Bool := X.bv87
abbrev api_Term_62_at52.b11 : Array Bool := X.bv88
abbrev api_Term_62_at52.b12 : Array Bool := X.bv89
abbrev api_Term_62_at52.b13 : Array Bool := X.bv90
abbrev api_Term_62_at52.b14 : Array Bool := X.bv91
abbrev api_Term_62_at52.b15 : Array Bool := X.bv92
abbrev api_Term_62_at52.b16 : Array Bool := X.bv93
abbrev api_Term_62_at52.b17 : Array Bool := X.bv94
abbrev api_Term_62_at52.b18 : Array Bool := X.bv95
abbrev api_Term_62_at52.b19 : Array Bool := X.bv96
abbrev api_Term_62_at52.b20 : Array Bool := X.bv97
abbrev api_Term_62_at52.b21 : Array Bool := X.bv98
abbrev api_Term_62_at52.b22 : Array Bool := X.bv99
abbrev api_Term_62_at52.b23 : Array Bool := X.bv100
abbrev api_Term_62_at52.b24 : Array Bool := X.bv101
set_option maxHeartbeats 8000000 in
set_option maxRecDepth 100000 in
theorem api_Term_62_at52.calls (k : Nat) (P0_ : Nat → Prop) (u9000_ : Value) (l0 : List (S44)) (a1 : Int) (a2 : Int) (a3 : Int)  (r : List (S44)) (w0 w : World) (hB : Below w0.heap.size w0 w) (ho0 : Kd.R k44 44 w w0.heap.size P0_ u9000_ l0) (h : api_Term_62_at52.f k l0 a1 a2 a3 = some r) :
   Calls Try.prog 62 #[u9000_, .int .i64 a1, .int .i64 a2, .int .i64 a3, .func (.func 52) #[] #[]] w fun e w' => e = .returned (.tuple #[]) ∧ Kd.R k44 44 w' w0.heap.size (fun k_ => (P0_ k_ ∨ w.heap.size ≤ k_)) u9000_ r ∧ Below w0.heap.size w0 w' ∧ Kept w w' (fun k_ => P0_ k_) := by
  have hu44 := Try.underlying44
  have HO0 := Aside0.mk (show Kd.R k44 44 w w0.heap.size (fun k_ => (P0_ k_ ∨ w.heap.size ≤ k_)) u9000_ l0 from Kd.R_mono ho0 (fun k_ hk => (.inl hk)))
  have HK := Aside0.mk (Kept.refl w (fun k_ => P0_ k_))
  have HW0 := Aside0.mk hB.size
  have HB := Aside0.mk hB
  clear hB
  have H : (api_Term_62_at52.l0 k l0 a1 a2 a3 0) = some r := h
  clear h
  have H' := Aside0.mk H
  clear H
  go_enter Try.func62, Try.ntmps62
  go_wp2
  go_loopg [10] k (fun kq v10 w' => ∃ (x0_1 : List (S44)) (x10_1 : Int), v10 = .int .i64 x10_1 ∧ Aside0 (api_Term_62_at52.l0 kq x0_1 a1 a2 a3 x10_1 = some r) ∧ Aside0 (kq ≤ k) ∧ Aside0 (Kd.R k44 44 w' w0.heap.size (fun k_ => (P0_ k_ ∨ w.heap.size ≤ k_)) u9000_ x0_1) ∧ Aside0 (Kept w w' (fun k_ => P0_ k_)) ∧ Aside0 (Below w0.heap.size w0 w'))
  case atStart => exact ⟨(l0), (0), rS, H', ⟨Nat.le_refl _⟩, ⟨rK HO0.out⟩, ⟨kP HK.out⟩, ⟨hB0 HB.out⟩⟩
  case round =>
   clear H'
   obtain ⟨x0_1, x10_1, rfl, HA, HK1, HO_0, HK, HB⟩ := hrel
   cases gk with
   | zero => exact absurd HA.out (by simp [api_Term_62_at52.l0])
   | succ k1 =>
    have H := HA.out
    clear HA
    simp only [api_Term_62_at52.l0] at H
    by_cases c6 : x10_1 < a3
    ·rw [if_pos c6] at H
     have c6b0 : decide (x10_1 < a3) = true := decide_eq_true c6
     clear c6
     obtain ⟨ji7, hji7⟩ : ∃ j_ : Int, (wrap64 (a2 + x10_1)) = j_ := ⟨_, rfl⟩
     replace H : (if 0 ≤ (ji7) then (if (ji7) < (x0_1.length : Int) then (if 0 ≤ (wrap64 (a1 + x10_1)) then (if (wrap64 (a1 + x10_1)) < (x0_1.length : Int) then (api_Term_62_at52.l0 k1 ((x0_1.set ((wrap64 (a1 + x10_1)) : Int).toNat (⟨(rd_T44 x0_1 (ji7)).f0, (rd_T44 x0_1 (ji7)).f1⟩ : S44)).set ((ji7) : Int).toNat (⟨(rd_T44 x0_1 (wrap64 (a1 + x10_1))).f0, (rd_T44 x0_1 (wrap64 (a1 + x10_1))).f1⟩ : S44)) a1 a2 a3 (wrap64 (x10_1 + 1))) else (none)) else (none)) else (none)) else (none)) = some r := by first | (rw [hji7] at H; exact H) | (simp only [hji7] at H ⊢; exact H)
     have hji7w : (IntKind.i64.wrap (a2 + x10_1)) = ji7 := (i64_w _).trans hji7
     by_cases c8 : 0 ≤ (ji7)
     ·rw [if_pos c8] at H
      have c8b0 : decide (0 ≤ (ji7)) = true := decide_eq_true c8
      clear c8
      by_cases c9 : (ji7) < (x0_1.length : Int)
      ·rw [if_pos c9] at H
       have c9b0 : decide ((ji7) < (x0_1.length : Int)) = true := decide_eq_true c9
       clear c9
       obtain ⟨ji10, hji10⟩ : ∃ j_ : Int, (wrap64 (a1 + x10_1)) = j_ := ⟨_, rfl⟩
       replace H : (if 0 ≤ (ji10) then (if (ji10) < (x0_1.length : Int) then (api_Term_62_at52.l0 k1 ((x0_1.set ((ji10) : Int).toNat (⟨(rd_T44 x0_1 (ji7)).f0, (rd_T44 x0_1 (ji7)).f1⟩ : S44)).set ((ji7) : Int).toNat (⟨(rd_T44 x0_1 (ji10)).f0, (rd_T44 x0_1 (ji10)).f1⟩ : S44)) a1 a2 a3 (wrap64 (x10_1 + 1))) else (none)) else (none)) = some r := by first | (rw [hji10] at H; exact H) | (simp only [hji10] at H ⊢; exact H)
       have hji10w : (IntKind.i64.wrap (a1 + x10_1)) = ji10 := (i64_w _).trans hji10
       by_cases c11 : 0 ≤ (ji10)
       ·rw [if_pos c11] at H
        have c11b0 : decide (0 ≤ (ji10)) = true := decide_eq_true c11
        clear c11
        by_cases c12 : (ji10) < (x0_1.length : Int)
        ·rw [if_pos c12] at H
         have c12b0 : decide ((ji10) < (x0_1.length : Int)) = true := decide_eq_true c12
         clear c12
         obtain ⟨y103, hy103⟩ : ∃ y_ : List (S44), y_ = (x0_1.set ((ji10) : Int).toNat (⟨(rd_T44 x0_1 (ji7)).f0, (rd_T44 x0_1 (ji7)).f1⟩ : S44)) := ⟨_, rfl⟩
         replace H : (api_Term_62_at52.l0 k1 (y103.set ((ji7) : Int).toNat (⟨(rd_T44 x0_1 (ji10)).f0, (rd_T44 x0_1 (ji10)).f1⟩ : S44)) a1 a2 a3 (wrap64 (x10_1 + 1))) = some r := by first | (rw [hy103]; with_reducible exact H) | (have H2_ := (Option.bind_some _ _).symm.trans H; rw [hy103]; with_reducible exact H2_) | (have H2_ := (Option.bind_some _ _).symm.trans H; with_reducible exact H2_) | with_reducible exact H | (rw [hy103]; exact H) | exact H
         have Ny103 := Aside0.mk hy103
         clear hy103
         obtain ⟨y104, hy104⟩ : ∃ y_ : List (S44), y_ = (y103.set ((ji7) : Int).toNat (⟨(rd_T44 x0_1 (ji10)).f0, (rd_T44 x0_1 (ji10)).f1⟩ : S44)) := ⟨_, rfl⟩
         replace H : (api_Term_62_at52.l0 k1 y104 a1 a2 a3 (wrap64 (x10_1 + 1))) = some r := by first | (rw [hy104]; with_reducible exact H) | (have H2_ := (Option.bind_some _ _).symm.trans H; rw [hy104]; with_reducible exact H2_) | (have H2_ := (Option.bind_some _ _).symm.trans H; with_reducible exact H2_) | with_reducible exact H | (rw [hy104]; exact H) | exact H
         have Ny104 := Aside0.mk hy104
         clear hy104
         have H' := Aside0.mk H
         clear H
         try go_wp2
         have n0_ := Aside0.mk (Kd.R_drew HO_0.out)
         have n1_ := Aside0.mk (Kept.drew HK.out)
         have n2_ := Aside0.mk (below_drew1 HB.out)
         clear HO_0
         clear HK
         clear HB
         have HO_0 := n0_
         have HK := n1_
         have HB := n2_
         clear n0_ n1_ n2_
         obtain ⟨Ao16, co16, eo16⟩ := Kd.R_slice HO_0.out
         (first | subst eo16 | (injection eo16 with f1_ f2_ f3_; have f4_ := f1_.symm; have f5_ := f3_.symm; clear f1_ f2_ f3_; subst f4_; subst f5_))
         have p101 : 0 ≤ ((ji7) : Int) := oD
         have q101 : (ji7) < (x0_1.length : Int) := oD
         obtain ⟨ad101, e101, hx101_0, hx101_1⟩ := at_T44 (Kd.R_reads' HO_0.out).2.2 (ji7) p101 q101
         cases e101
         replace p101 := eq_true p101
         replace q101 := eq_true q101
         have p102 : 0 ≤ ((ji10) : Int) := oD
         have q102 : (ji10) < (x0_1.length : Int) := oD
         obtain ⟨ad102, e102, hx102_0, hx102_1⟩ := at_T44 (Kd.R_reads' HO_0.out).2.2 (ji10) p102 q102
         obtain rfl : ad101 = ad102 := (by injection e102)
         replace p102 := eq_true p102
         replace q102 := eq_true q102
         have p13 : 0 ≤ ((ji10) : Int) := oD
         have q13 : ((ji10) : Int) < ((x0_1.length : Int) : Int) := oD
         obtain ⟨go13, co13, eo13, gb13, gl13, cl13, HG13⟩ := Kd.R_form HO_0.out (by omega)
         (first | cases eo13 | (injection eo13 with ea_ en_ ec_; (first | subst ea_ | (injection ea_ with ea_; subst ea_)); subst ec_; clear en_))
         have GB13 := Aside0.mk gb13
         have GG13 := Aside0.mk HG13
         clear gb13 gl13 HG13
         have HMgo13 := Aside0.mk (show (P0_ go13 ∨ w.heap.size ≤ go13) from (HO_0.out.1 _ rfl))
         (first | simp only [add_plain] at hx101_0 | skip)
         (first | simp only [add_plain] at hx101_1 | skip)
         (first | simp only [add_plain] at hx102_0 | skip)
         (first | simp only [add_plain] at hx102_1 | skip)
         obtain ⟨ce13, hcl13, hM13, hcc13, hfr13⟩ := Kd.R_elem HO_0.out z44 ((ji10) : Int) p13 q13
         obtain rfl := k44_openM hM13
         have hx13_0 : World.cell? _ ⟨go13, ((ji10) : Int).toNat * 2, none⟩ = some (.int .i64 ((rd_T44 x0_1 (ji10)).f0)) := hcc13 0 _ rfl
         have hx13_1 : World.cell? _ ⟨go13, ((ji10) : Int).toNat * 2 + 1, none⟩ = some (.int .i64 ((rd_T44 x0_1 (ji10)).f1)) := hcc13 1 _ rfl
         have hf13_0 : World.frozen? _ ⟨go13, ((ji10) : Int).toNat * 2, none⟩ = false := hfr13 0
         have hf13_1 : World.frozen? _ ⟨go13, ((ji10) : Int).toNat * 2 + 1, none⟩ = false := hfr13 1
         clear hcl13 hcc13 hfr13 hM13
         replace p13 := eq_true p13
         replace q13 := eq_true q13
         obtain ⟨ce17, hcl17, hM17, hcc17, hfr17⟩ := Kd.R_elem HO_0.out z44 ((ji10) : Int) (oD) (by have h_ : ((ji10) : Int) < ((x0_1.length : Int) : Int) := oD; first | exact h_ | (have e_ := (Kd.R_reads' HO_0.out).1; omega) | simpa using h_)
         obtain rfl := k44_openM hM17
         have HP17 := (Kd.R_seg HO_0.out ((ji10) : Int) (oD) (by have h_ : ((ji10) : Int) < ((x0_1.length : Int) : Int) := oD; first | exact h_ | (have e_ := (Kd.R_reads' HO_0.out).1; omega) | simpa using h_) (seg := [.int .i64 ((rd_T44 x0_1 (ji7)).f0), .int .i64 ((rd_T44 x0_1 (ji7)).f1)]) (j := 0) hcl17 hcc17 (show 2 ≤ 2 from by decide) (x' := (⟨(rd_T44 x0_1 (ji7)).f0, (rd_T44 x0_1 (ji7)).f1⟩ : S44)) (k44_mkM _ _ _ (⟨(rd_T44 x0_1 (ji7)).f0, (rd_T44 x0_1 (ji7)).f1⟩ : S44) ) (fun _ hk => hk)).1
         rw [← Ny103.out] at HP17
         have HQ17 := Aside0.mk HP17
         clear hcl17 hcc17 hfr17 hM17 HP17
         have p14 : 0 ≤ ((ji7) : Int) := oD
         have q14 : ((ji7) : Int) < ((x0_1.length : Int) : Int) := oD
         obtain ⟨ce14, hcl14, hM14, hcc14, hfr14⟩ := Kd.R_elem HQ17.out z44 ((ji7) : Int) p14 q14
         obtain rfl := k44_openM hM14
         have hx14_0 : World.cell? _ ⟨go13, ((ji7) : Int).toNat * 2, none⟩ = some (.int .i64 ((rd_T44 y103 (ji7)).f0)) := hcc14 0 _ rfl
         have hx14_1 : World.cell? _ ⟨go13, ((ji7) : Int).toNat * 2 + 1, none⟩ = some (.int .i64 ((rd_T44 y103 (ji7)).f1)) := hcc14 1 _ rfl
         have hf14_0 : World.frozen? _ ⟨go13, ((ji7) : Int).toNat * 2, none⟩ = false := hfr14 0
         have hf14_1 : World.frozen? _ ⟨go13, ((ji7) : Int).toNat * 2 + 1, none⟩ = false := hfr14 1
         clear hcl14 hcc14 hfr14 hM14
         replace p14 := eq_true p14
         replace q14 := eq_true q14
         obtain ⟨ce18, hcl18, hM18, hcc18, hfr18⟩ := Kd.R_elem HQ17.out z44 ((ji7) : Int) (oD) (by have h_ : ((ji7) : Int) < ((x0_1.length : Int) : Int) := oD; first | exact h_ | (have e_ := (Kd.R_reads' HO_0.out).1; omega) | simpa using h_)
         obtain rfl := k44_openM hM18
         have HP18 := (Kd.R_seg HQ17.out ((ji7) : Int) (oD) (by have h_ : ((ji7) : Int) < ((x0_1.length : Int) : Int) := oD; first | exact h_ | (have e_ := (Kd.R_reads' HO_0.out).1; omega) | simpa using h_) (seg := [.int .i64 ((rd_T44 x0_1 (ji10)).f0), .int .i64 ((rd_T44 x0_1 (ji10)).f1)]) (j := 0) hcl18 hcc18 (show 2 ≤ 2 from by decide) (x' := (⟨(rd_T44 x0_1 (ji10)).f0, (rd_T44 x0_1 (ji10)).f1⟩ : S44)) (k44_mkM _ _ _ (⟨(rd_T44 x0_1 (ji10)).f0, (rd_T44 x0_1 (ji10)).f1⟩ : S44) ) (fun _ hk => hk)).1
         rw [← Ny104.out] at HP18
         have HQ18 := Aside0.mk HP18
         clear hcl18 hcc18 hfr18 hM18 HP18
         refine start_ (n := 24) (S := fun w' => w'.cell? ⟨go13, ((ji7)).toNat * 2, none⟩ = some (.int .i64 ((rd_T44 x0_1 (ji7)).f0)) ∧ w'.cell? ⟨go13, (((ji7)).toNat * 2) + 1, none⟩ = some (.int .i64 ((rd_T44 x0_1 (ji7)).f1)) ∧ w'.cell? ⟨go13, ((ji10)).toNat * 2, none⟩ = some (.int .i64 ((rd_T44 x0_1 (ji10)).f0)) ∧ w'.cell? ⟨go13, (((ji10)).toNat * 2) + 1, none⟩ = some (.int .i64 ((rd_T44 x0_1 (ji10)).f1))) (ds := [21, 23]) api_Term_62_at52.b0 (by kernel_rfl) rfl rfl ⟨hx101_0, hx101_1, hx102_0, hx102_1⟩ (fun hHeld => ?_); refine with_tabW api_Term_62_at52.tab3 api_Term_62_at52.bits3 (fun HT_ HW_ => ?_)
         generalize wr.drew = w15 at HO_0 HK HB GG13 HQ17 HQ18 hf13_0 hf13_1 hf14_0 hf14_1 hx101_0 hx101_1 hx102_0 hx102_1 hx13_0 hx13_1 hx14_0 hx14_1 hHeld ⊢
         refine pY 0 (some 16) api_Term_62_at52.b1 rfl rfl HT_.out (fun _ _ _ h => h) ?_
         refine pY 1 (some 17) api_Term_62_at52.b2 rfl rfl HT_.out (fun _ _ _ h => h) ?_
         refine pY 2 (some 18) api_Term_62_at52.b3 rfl rfl HT_.out (fun _ _ _ h => h) ?_
         refine pY 3 (some 19) api_Term_62_at52.b4 rfl rfl HT_.out (fun _ _ _ h => h) ?_
         refine pY 4 (some 20) api_Term_62_at52.b5 rfl rfl HT_.out (fun _ _ _ h => h) ?_
         refine pY 5 (some 21) api_Term_62_at52.b6 rfl rfl HT_.out (fun _ _ _ h => h) ?_
         refine pY 6 (some 22) api_Term_62_at52.b7 rfl rfl HT_.out (fun _ _ _ h => h) ?_
         refine pY 7 (some 23) api_Term_62_at52.b8 rfl rfl HT_.out (fun _ _ _ h => h) ?_
         refine pY 8 (some 24) api_Term_62_at52.b9 rfl rfl HT_.out (fun _ _ _ h => h) ?_
         refine pY 9 (some 25) api_Term_62_at52.b10 rfl rfl HT_.out (fun _ _ _ h => h) ?_
         refine pY 10 (some 26) api_Term_62_at52.b11 rfl rfl HT_.out (fun _ _ _ h => h) ?_
         refine pY 11 (some 27) api_Term_62_at52.b12 rfl rfl HT_.out (fun _ _ _ h => h) ?_
         refine pY 12 (some 28) api_Term_62_at52.b13 rfl rfl HT_.out (fun _ _ _ h => h) ?_
         refine pY 14 (some 30) api_Term_62_at52.b14 rfl rfl HT_.out (fun _ _ _ h => h) ?_
         refine pY 15 (some 31) api_Term_62_at52.b15 rfl rfl HT_.out (fun _ _ _ h => h) ?_
         refine pY 16 (some 32) api_Term_62_at52.b16 rfl rfl HT_.out (fun _ _ _ h => h) ?_
         refine pY 17 (some 33) api_Term_62_at52.b17 rfl rfl HT_.out (fun _ _ _ h => h) ?_
         refine pY 18 (some 34) api_Term_62_at52.b18 rfl rfl HT_.out (fun _ _ _ h => h) ?_
         refine take_ (i := 13) (N := some 29) (v := ?_) (a' := ?_) api_Term_62_at52.b19 rfl rfl (take_ofW HT_.out HW_.out (by kernel_rfl)) (fun _ _ _ h => h) (Or.inl ⟨by rfl, ?_⟩) hHeld ?_ ?_
         rotate_left
         ·rintro w' ⟨s0, s1, s2, s3⟩
          go_simp
          with_reducible rfl
         rotate_left
         ·simp only [Act.put, List.setIfInBounds_toArray, List.set_cons_zero, List.set_cons_succ, i64_w, i32_w]
          rfl
         refine take_ (i := 19) (N := some 35) (v := ?_) (a' := ?_) api_Term_62_at52.b20 rfl rfl (take_ofW HT_.out HW_.out (by kernel_rfl)) (fun _ _ _ h => h) (Or.inl ⟨by rfl, ?_⟩) hHeld ?_ ?_
         rotate_left
         ·rintro w' ⟨s0, s1, s2, s3⟩
          go_simp
          with_reducible rfl
         rotate_left
         ·simp only [Act.put, List.setIfInBounds_toArray, List.set_cons_zero, List.set_cons_succ, i64_w, i32_w]
          rfl
         refine pY 20 (some 36) api_Term_62_at52.b21 rfl rfl HT_.out (fun _ _ _ h => h) ?_
         refine last_ (i := 21) (N := none) api_Term_62_at52.b22 rfl rfl (one_of HT_.out (by kernel_rfl)) (by decide) (fun K hK => ?_)
         refine skip_ (w1 := ?_) (by rfl) rfl ?_ ?_
         rotate_left
         ·(try (obtain ⟨va_, hva_⟩ := cell?_setCell_some (w := w15) (p := ⟨go13, ((ji10) : Int).toNat * 2, none⟩) (x := .int .i64 ((rd_T44 x0_1 (ji7)).f0)) (q := ⟨go13, ((ji7) : Int).toNat * 2, none⟩) (by assumption)))
          (try (obtain ⟨vb_, hvb_⟩ := cell?_setCell_some (w := w15) (p := ⟨go13, ((ji10) : Int).toNat * 2, none⟩) (x := .int .i64 ((rd_T44 x0_1 (ji7)).f0)) (q := ⟨go13, ((ji7) : Int).toNat * 2 + 1, none⟩) (by assumption); obtain ⟨vc_, hvc_⟩ := cell?_setCell_some (w := w15.setCell ⟨go13, ((ji10) : Int).toNat * 2, none⟩ (.int .i64 ((rd_T44 x0_1 (ji7)).f0))) (p := ⟨go13, ((ji10) : Int).toNat * 2 + 1, none⟩) (x := .int .i64 ((rd_T44 x0_1 (ji7)).f1)) (q := ⟨go13, ((ji7) : Int).toNat * 2 + 1, none⟩) hvb_))
          (try (have hfa0_ : w15.frozen? ⟨go13, ((ji7) : Int).toNat * 2, none⟩ = false := by have h_ := hf14_0; rw [World.frozen?_setCells] at h_; exact h_))
          (try (have hfa1_ : w15.frozen? ⟨go13, ((ji7) : Int).toNat * 2 + 1, none⟩ = false := by have h_ := hf14_1; rw [World.frozen?_setCells] at h_; exact h_))
          go_simp
          rfl
         refine hK.out _ _ ?_
         clear hK K
         refine pY 22 (some 37) api_Term_62_at52.b23 rfl rfl HT_.out (fun _ _ _ h => h) ?_
         refine last_ (i := 23) (N := none) api_Term_62_at52.b24 rfl rfl (one_of HT_.out (by kernel_rfl)) (by decide) (fun K hK => ?_)
         refine skip_ (w1 := ?_) (by rfl) rfl ?_ ?_
         rotate_left
         ·(try (obtain ⟨va_, hva_⟩ := cell?_setCell_some (w := w15) (p := ⟨go13, ((ji10) : Int).toNat * 2, none⟩) (x := .int .i64 ((rd_T44 x0_1 (ji7)).f0)) (q := ⟨go13, ((ji7) : Int).toNat * 2, none⟩) (by assumption)))
          (try (obtain ⟨vb_, hvb_⟩ := cell?_setCell_some (w := w15) (p := ⟨go13, ((ji10) : Int).toNat * 2, none⟩) (x := .int .i64 ((rd_T44 x0_1 (ji7)).f0)) (q := ⟨go13, ((ji7) : Int).toNat * 2 + 1, none⟩) (by assumption); obtain ⟨vc_, hvc_⟩ := cell?_setCell_some (w := w15.setCell ⟨go13, ((ji10) : Int).toNat * 2, none⟩ (.int .i64 ((rd_T44 x0_1 (ji7)).f0))) (p := ⟨go13, ((ji10) : Int).toNat * 2 + 1, none⟩) (x := .int .i64 ((rd_T44 x0_1 (ji7)).f1)) (q := ⟨go13, ((ji7) : Int).toNat * 2 + 1, none⟩) hvb_))
          (try (have hfa0_ : w15.frozen? ⟨go13, ((ji7) : Int).toNat * 2, none⟩ = false := by have h_ := hf14_0; rw [World.frozen?_setCells] at h_; exact h_))
          (try (have hfa1_ : w15.frozen? ⟨go13, ((ji7) : Int).toNat * 2 + 1, none⟩ = false := by have h_ := hf14_1; rw [World.frozen?_setCells] at h_; exact h_))
          go_simp
          rfl
         refine hK.out _ _ ?_
         clear hK K
         refine done_ (done_of HT_.out (by kernel_rfl)) ?_
         try go_wp2
         go_roundg k1
         case measure => have := HK1.out; omega
         case rel => exact ⟨(y104), (wrap64 (x10_1 + 1)), rS, H', ⟨by have := HK1.out; omega⟩, ⟨rK HQ18.out⟩, ⟨by repeat (first | (with_reducible first | exact HK.out | apply Kept.alloc | apply Kept.drewN | apply Kept.drew | refine Kept.setCell ?_ HMgo13.out _ | refine Kept.setCell ?_ HMgo13.out _ | refine Kept.setCell ?_ HMgo13.out _ | refine Kept.setCell ?_ HMgo13.out _) | exact HK.out)⟩, ⟨hB4 HB.out GB13.out GB13.out GB13.out GB13.out⟩⟩
        ·rw [if_neg c12] at H
         exact absurd H (by simp)
       ·rw [if_neg c11] at H
        exact absurd H (by simp)
      ·rw [if_neg c9] at H
       exact absurd H (by simp)
     ·rw [if_neg c8] at H
      exact absurd H (by simp)
    ·rw [if_neg c6] at H
     have c6b0 : decide (x10_1 < a3) = false := decide_eq_false c6
     clear c6
     obtain rfl := Option.some.inj H
     go_wp2
     first | go_end0 | ((try simp only [Exit.inBlock, Exit.then]); refine bodyPost_ret (results_none rfl _ _ _) rfl ?_)
     exact ⟨eW, by (with_reducible repeat (first | apply Kd.R_alloc | apply Kd.R_drewN | apply Kd.R_drew)); exact HO_0.out, hB0 HB.out, kP HK.out⟩
def api_Term_61_at52.l0 : Nat → List (S44) → Int → Int → Int → Option ((List (S44)))
  | 0, _, _, _, _ => none
  | k + 1, x0, x2, x10, x11 => if x10 = x11 then ((api_Term_62_at52.f k x0 (wrap64 (x2 - x10)) x2 x10).bind fun t101 => (some t101)) else (if x10 > x11 then ((api_Term_62_at52.f k x0 (wrap64 (x2 - x10)) x2 x11).bind fun t102 => (api_Term_61_at52.l0 k t102 x2 (wrap64 (x10 - x11)) x11)) else ((api_Term_62_at52.f k x0 (wrap64 (x2 - x10)) (wrap64 ((wrap64 (x2 + x11)) - x10)) x10).bind fun t103 => (api_Term_61_at52.l0 k t103 x2 x10 (wrap64 (x11 - x10)))))
def api_Term_61_at52.f (k : Nat) (l0 : List (S44)) (a1 : Int) (a2 : Int) (a3 : Int)  : Option ((List (S44))) := api_Term_61_at52.l0 k l0 a2 (wrap64 (a2 - a1)) (wrap64 (a3 - a2))
theorem api_Term_61_at52.mono_l : ∀ k, (∀ y0 y1 y2 y3, LeO (api_Term_61_at52.l0 k y0 y1 y2 y3) (api_Term_61_at52.l0 (k + 1) y0 y1 y2 y3))
  | 0 => fun _ _ _ _ r h => by simp [api_Term_61_at52.l0] at h
  | k + 1 => by
   have ih0 := api_Term_61_at52.mono_l k
   ·intro y0 y1 y2 y3
    unfold api_Term_61_at52.l0
    repeat' first
    | (with_reducible exact ih0 _ _ _ _)
    | (with_reducible exact api_Term_62_at52.mono _ _ _ _ _)
    | (with_reducible exact LeO.refl _)
    | (with_reducible exact LeO.none _)
    | (with_reducible refine LeO.ite ?_ ?_)
    | (with_reducible refine LeO.bind ?_ (fun _ => ?_))
    | exact ih0 _ _ _ _
    | exact api_Term_62_at52.mono _ _ _ _ _
    | exact LeO.none _
    | refine LeO.ite ?_ ?_
    | refine LeO.bind ?_ (fun _ => ?_)
theorem api_Term_61_at52.mono : ∀ a0 a1 a2 a3 k, LeO (api_Term_61_at52.f k a0 a1 a2 a3) (api_Term_61_at52.f (k + 1) a0 a1 a2 a3) := by
  intro a0 a1 a2 a3 k
  have ih0 := api_Term_61_at52.mono_l k
  unfold api_Term_61_at52.f
  repeat' first
    | (with_reducible exact ih0 _ _ _ _)
    | (with_reducible exact api_Term_62_at52.mono _ _ _ _ _)
    | (with_reducible exact LeO.refl _)
    | (with_reducible exact LeO.none _)
    | (with_reducible refine LeO.ite ?_ ?_)
    | (with_reducible refine LeO.bind ?_ (fun _ => ?_))
    | exact ih0 _ _ _ _
    | exact api_Term_62_at52.mono _ _ _ _ _
    | exact LeO.none _
    | refine LeO.ite ?_ ?_
    | refine LeO.bind ?_ (fun _ => ?_)
set_option maxHeartbeats 8000000 in
set_option maxRecDepth 100000 in
theorem api_Term_61_at52.calls (k : Nat) (P0_ : Nat → Prop) (u9000_ : Value) (l0 : List (S44)) (a1 : Int) (a2 : Int) (a3 : Int)  (r : List (S44)) (w0 w : World) (hB : Below w0.heap.size w0 w) (ho0 : Kd.R k44 44 w w0.heap.size P0_ u9000_ l0) (h : api_Term_61_at52.f k l0 a1 a2 a3 = some r) :
   Calls Try.prog 61 #[u9000_, .int .i64 a1, .int .i64 a2, .int .i64 a3, .func (.func 52) #[] #[]] w fun e w' => e = .returned (.tuple #[]) ∧ Kd.R k44 44 w' w0.heap.size (fun k_ => (P0_ k_ ∨ w.heap.size ≤ k_)) u9000_ r ∧ Below w0.heap.size w0 w' ∧ Kept w w' (fun k_ => P0_ k_) := by
  have HO0 := Aside0.mk (show Kd.R k44 44 w w0.heap.size (fun k_ => (P0_ k_ ∨ w.heap.size ≤ k_)) u9000_ l0 from Kd.R_mono ho0 (fun k_ hk => (.inl hk)))
  have HK := Aside0.mk (Kept.refl w (fun k_ => P0_ k_))
  have HW0 := Aside0.mk hB.size
  have HB := Aside0.mk hB
  clear hB
  have H : (api_Term_61_at52.l0 k l0 a2 (wrap64 (a2 - a1)) (wrap64 (a3 - a2))) = some r := h
  clear h
  have H' := Aside0.mk H
  clear H
  go_enter Try.func61, Try.ntmps61
  go_wp2
  go_loopg [10, 11] k (fun kq v10 v11 w' => ∃ (x0_1 : List (S44)) (x10_1 : Int) (x11_1 : Int), v10 = .int .i64 x10_1 ∧ v11 = .int .i64 x11_1 ∧ Aside0 (api_Term_61_at52.l0 kq x0_1 a2 x10_1 x11_1 = some r) ∧ Aside0 (kq ≤ k) ∧ Aside0 (Kd.R k44 44 w' w0.heap.size (fun k_ => (P0_ k_ ∨ w.heap.size ≤ k_)) u9000_ x0_1) ∧ Aside0 (Kept w w' (fun k_ => P0_ k_)) ∧ Aside0 (Below w0.heap.size w0 w'))
  case atStart => exact ⟨(l0), (wrap64 (a2 - a1)), (wrap64 (a3 - a2)), rS, rS, H', ⟨Nat.le_refl _⟩, ⟨rK HO0.out⟩, ⟨kP HK.out⟩, ⟨hB0 HB.out⟩⟩
  case round =>
   clear H'
   obtain ⟨x0_1, x10_1, x11_1, rfl, rfl, HA, HK1, HO_0, HK, HB⟩ := hrel
   cases gk with
   | zero => exact absurd HA.out (by simp [api_Term_61_at52.l0])
   | succ k1 =>
    have H := HA.out
    clear HA
    simp only [api_Term_61_at52.l0] at H
    by_cases c6 : x10_1 = x11_1
    ·rw [if_pos c6] at H
     have c6b0 : (x10_1 == x11_1) = true := beq_iff_eq.mpr c6
     have c6b1 : (x10_1 != x11_1) = false := bne_eq_false_iff_eq.mpr c6
     clear c6
     replace H := Option.bind_eq_some_iff.mp H
     obtain ⟨t101, A70, H⟩ := H
     replace H : (some t101) = some r := H
     have A7 := Aside0.mk A70
     clear A70
     obtain rfl := Option.some.inj H
     obtain ⟨Ao8, co8, eo8⟩ := Kd.R_slice HO_0.out
     subst eo8
     go_wp2_with (first | ((with_reducible refine gate_callee (f := 62) rfl ?_); refine goesL_ (some 57) rfl rfl Try.func62 (by kernel_rfl) rfl #[.slice Ao8 x0_1.length co8, .int .i64 (wrap64 (a2 - x10_1)), .int .i64 a2, .int .i64 x10_1, .func (.func 52) #[] #[]] rfl aM ?_; (with_reducible refine (api_Term_62_at52.calls k1 (fun k_ => some k_ = (.slice Ao8 x0_1.length co8 : Value).ownBlock) (.slice Ao8 x0_1.length co8) x0_1 (wrap64 (a2 - x10_1)) a2 x10_1  t101 w0 _ ?side1 ?side2 A7.out).mono ?_); (case side1 => repeat (first | (with_reducible first | exact HB.out | apply below_alloc | apply pw_below_drewN | apply below_drew1) | exact HB.out)); (case side2 => exact Kd.R_tight rfl HO_0.out); rintro e w9 ⟨rfl, hy0, hb, hkp⟩; refine ⟨_, rfl, ?_⟩; have n0_ := Aside0.mk (Kd.R_reok rfl hy0 (fun k_ e_ => HO_0.out.1 k_ e_)); have n1_ := Aside0.mk (Kept.then_ (S := (fun k_ => P0_ k_)) (kP HK.out) hkp (fun k_ hs_ => (fun e_ => (HO_0.out.1 k_ e_.symm)) hs_)); have n2_ := Aside0.mk (hb); clear HO_0 HK HB; have HO_0 := n0_; have HK := n1_; have HB := n2_; clear n0_ n1_ n2_; (try clear hb); (try clear hkp); (try clear hy0)))
     first | go_end0 | ((try simp only [Exit.inBlock, Exit.then]); refine bodyPost_ret (results_none rfl _ _ _) rfl ?_)
     exact ⟨eW, by (with_reducible repeat (first | apply Kd.R_alloc | apply Kd.R_drewN | apply Kd.R_drew)); exact HO_0.out, hB0 HB.out, kP HK.out⟩
    ·rw [if_neg c6] at H
     have c6b0 : (x10_1 == x11_1) = false := beq_eq_false_iff_ne.mpr c6
     have c6b1 : (x10_1 != x11_1) = true := bne_iff_ne.mpr c6
     by_cases c10 : x10_1 > x11_1
     ·rw [if_pos c10] at H
      have c10b0 : decide (x11_1 < x10_1) = true := decide_eq_true c10
      clear c10
      replace H := Option.bind_eq_some_iff.mp H
      obtain ⟨t102, A110, H⟩ := H
      replace H : (api_Term_61_at52.l0 k1 t102 a2 (wrap64 (x10_1 - x11_1)) x11_1) = some r := H
      have A11 := Aside0.mk A110
      clear A110
      have H' := Aside0.mk H
      clear H
      obtain ⟨Ao12, co12, eo12⟩ := Kd.R_slice HO_0.out
      subst eo12
      go_wp2_with (first | ((with_reducible refine gate_callee (f := 62) rfl ?_); refine goesL_ (some 31) rfl rfl Try.func62 (by kernel_rfl) rfl #[.slice Ao12 x0_1.length co12, .int .i64 (wrap64 (a2 - x10_1)), .int .i64 a2, .int .i64 x11_1, .func (.func 52) #[] #[]] rfl aM ?_; (with_reducible refine (api_Term_62_at52.calls k1 (fun k_ => some k_ = (.slice Ao12 x0_1.length co12 : Value).ownBlock) (.slice Ao12 x0_1.length co12) x0_1 (wrap64 (a2 - x10_1)) a2 x11_1  t102 w0 _ ?side1 ?side2 A11.out).mono ?_); (case side1 => repeat (first | (with_reducible first | exact HB.out | apply below_alloc | apply pw_below_drewN | apply below_drew1) | exact HB.out)); (case side2 => exact Kd.R_tight rfl HO_0.out); rintro e w13 ⟨rfl, hy0, hb, hkp⟩; refine ⟨_, rfl, ?_⟩; have n0_ := Aside0.mk (Kd.R_reok rfl hy0 (fun k_ e_ => HO_0.out.1 k_ e_)); have n1_ := Aside0.mk (Kept.then_ (S := (fun k_ => P0_ k_)) (kP HK.out) hkp (fun k_ hs_ => (fun e_ => (HO_0.out.1 k_ e_.symm)) hs_)); have n2_ := Aside0.mk (hb); clear HO_0 HK HB; have HO_0 := n0_; have HK := n1_; have HB := n2_; clear n0_ n1_ n2_; (try clear hb); (try clear hkp); (try clear hy0)))
      go_roundg k1
      case measure => have := HK1.out; omega
      case rel => exact ⟨(t102), (wrap64 (x10_1 - x11_1)), (x11_1), rS, rS, H', ⟨by have := HK1.out; omega⟩, ⟨rK HO_0.out⟩, ⟨kP HK.out⟩, ⟨hB0 HB.out⟩⟩
     ·rw [if_neg c10] at H
      have c10b0 : decide (x11_1 < x10_1) = false := decide_eq_false c10
      clear c10
      replace H := Option.bind_eq_some_iff.mp H
      obtain ⟨t103, A140, H⟩ := H
      replace H : (api_Term_61_at52.l0 k1 t103 a2 x10_1 (wrap64 (x11_1 - x10_1))) = some r := H
      have A14 := Aside0.mk A140
      clear A140
      have H' := Aside0.mk H
      clear H
      obtain ⟨Ao15, co15, eo15⟩ := Kd.R_slice HO_0.out
      subst eo15
      go_wp2_with (first | ((with_reducible refine gate_callee (f := 62) rfl ?_); refine goesL_ (some 46) rfl rfl Try.func62 (by kernel_rfl) rfl #[.slice Ao15 x0_1.length co15, .int .i64 (wrap64 (a2 - x10_1)), .int .i64 (wrap64 ((wrap64 (a2 + x11_1)) - x10_1)), .int .i64 x10_1, .func (.func 52) #[] #[]] rfl aM ?_; (with_reducible refine (api_Term_62_at52.calls k1 (fun k_ => some k_ = (.slice Ao15 x0_1.length co15 : Value).ownBlock) (.slice Ao15 x0_1.length co15) x0_1 (wrap64 (a2 - x10_1)) (wrap64 ((wrap64 (a2 + x11_1)) - x10_1)) x10_1  t103 w0 _ ?side1 ?side2 A14.out).mono ?_); (case side1 => repeat (first | (with_reducible first | exact HB.out | apply below_alloc | apply pw_below_drewN | apply below_drew1) | exact HB.out)); (case side2 => exact Kd.R_tight rfl HO_0.out); rintro e w16 ⟨rfl, hy0, hb, hkp⟩; refine ⟨_, rfl, ?_⟩; have n0_ := Aside0.mk (Kd.R_reok rfl hy0 (fun k_ e_ => HO_0.out.1 k_ e_)); have n1_ := Aside0.mk (Kept.then_ (S := (fun k_ => P0_ k_)) (kP HK.out) hkp (fun k_ hs_ => (fun e_ => (HO_0.out.1 k_ e_.symm)) hs_)); have n2_ := Aside0.mk (hb); clear HO_0 HK HB; have HO_0 := n0_; have HK := n1_; have HB := n2_; clear n0_ n1_ n2_; (try clear hb); (try clear hkp); (try clear hy0)))
      go_roundg k1
      case measure => have := HK1.out; omega
      case rel => exact ⟨(t103), (x10_1), (wrap64 (x11_1 - x10_1)), rS, rS, H', ⟨by have := HK1.out; omega⟩, ⟨rK HO_0.out⟩, ⟨kP HK.out⟩, ⟨hB0 HB.out⟩⟩
end Go.Proofs.Ytikpfbfeoifmkaa.X
end
