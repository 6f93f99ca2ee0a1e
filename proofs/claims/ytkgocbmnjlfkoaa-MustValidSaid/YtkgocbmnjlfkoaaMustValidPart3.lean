/- Part 3 of the walks and lemmas for the law that the last text proves. -/
import Derived.Test.YtkgocbmnjlfkoaaMustValidPart2
import Derived.BigQuiet
import Derived.Deep.CutRange
import Derived.Deep.Cut
import Derived.Maps.OwnOps
import Derived.Maps.Views
section
namespace Go.Proofs.Ytkgocbmnjlfkoaa.X
open Go.RowKit Go.Proofs.YtkgocbmnjlfkoaaW.PrintWords Go.Proofs.YtkgocbmnjlfkoaaW.PrintLast Go.Proofs.YtkgocbmnjlfkoaaW.PrintMore
attribute [local go_sem] max2_int min2_int max_two min_two max_three min_three max_four min_four
set_option linter.unusedVariables false
set_option linter.unusedSimpArgs false
def timeboundmake_Deck_Next.f (s0_0 : List Int) (s0_1 : Int) (a1 : Int) : Option (Int × Int) := if s0_1 ≥ (s0_0.length : Int) then (some (0, s0_1)) else (if a1 ≤ 1 then (some (0, s0_1)) else (if 0 ≤ (wrap64 ((wrap64 (s0_1 + 1)) - 1)) then (if (wrap64 ((wrap64 (s0_1 + 1)) - 1)) < (s0_0.length : Int) then ((timeboundmake_Mod.f (rd s0_0 (wrap64 ((wrap64 (s0_1 + 1)) - 1))) a1).bind fun t102 => (some (t102, wrap64 (s0_1 + 1)))) else (none)) else (none)))
set_option maxHeartbeats 80000000 in
set_option maxRecDepth 100000 in
theorem timeboundmake_Deck_Next.calls (g : Nat) (s0_0 : List Int) (s0_1 : Int) (a1 : Int) (r1 : Int) (r2 : Int) (w0 w : World) (hI : IsS72 w0 w g s0_0 s0_1) (hB : Below w0.heap.size w0 w) (h : timeboundmake_Deck_Next.f s0_0 s0_1 a1 = some (r1, r2)) :
   Calls Try.prog 18 #[.pointer (some ⟨g, 0, none⟩), .int .i64 a1] w fun e w' => e = .returned (.int .i64 r1) ∧ IsS72 w0 w' g s0_0 r2 ∧ Below w0.heap.size w0 w' ∧ KeepBut w w' g none := by
  have HI0 := Aside0.mk hI
  have HK := Aside0.mk (KeepBut.refl w g none)
  have HL := Aside0.mk hB.size
  clear hI
  have HW0 := Aside0.mk hB.size
  have HB := Aside0.mk hB
  clear hB
  have H : (if s0_1 ≥ (s0_0.length : Int) then (some (0, s0_1)) else (if a1 ≤ 1 then (some (0, s0_1)) else (if 0 ≤ (wrap64 ((wrap64 (s0_1 + 1)) - 1)) then (if (wrap64 ((wrap64 (s0_1 + 1)) - 1)) < (s0_0.length : Int) then ((timeboundmake_Mod.f (rd s0_0 (wrap64 ((wrap64 (s0_1 + 1)) - 1))) a1).bind fun t102 => (some (t102, wrap64 (s0_1 + 1)))) else (none)) else (none)))) = some (r1, r2) := h
  clear h
  by_cases c3 : s0_1 ≥ (s0_0.length : Int)
  ·rw [if_pos c3] at H
   have c3b0 : decide ((s0_0.length : Int) ≤ s0_1) = true := decide_eq_true c3
   clear c3
   simp only [Option.some.injEq, Prod.mk.injEq] at H
   obtain ⟨rfl, rfl⟩ := H
   obtain ⟨ASz4_0, cSz4_0, HGz4, hgz4, HSz4_0⟩ := HI0.out
   have hcz4_0 := cellS72_0 HGz4
   have hcz4_1 := cellS72_1 HGz4
   have hfz4_1 := blk_frozen HGz4 1
   clear HGz4 hgz4
   go_enter Try.func18, Try.ntmps18
   go_wp2
   repeat (go_quiet (fail); try go_wp2)
   go_ret
   exact ⟨eW, IsS72.k0 HI0.out, hB1 HB.out (IsS72.ge HI0.out), by repeat (first | (with_reducible first | exact HK.out | apply KeepBut.set_ | apply keep_drewN | apply keep_drew | apply keep_alloc) | exact HK.out)⟩
  ·rw [if_neg c3] at H
   have c3b0 : decide ((s0_0.length : Int) ≤ s0_1) = false := decide_eq_false c3
   clear c3
   by_cases c5 : a1 ≤ 1
   ·rw [if_pos c5] at H
    have c5b0 : decide (a1 ≤ 1) = true := decide_eq_true c5
    clear c5
    simp only [Option.some.injEq, Prod.mk.injEq] at H
    obtain ⟨rfl, rfl⟩ := H
    obtain ⟨ASz6_0, cSz6_0, HGz6, hgz6, HSz6_0⟩ := HI0.out
    have hcz6_0 := cellS72_0 HGz6
    have hcz6_1 := cellS72_1 HGz6
    have hfz6_1 := blk_frozen HGz6 1
    clear HGz6 hgz6
    go_enter Try.func18, Try.ntmps18
    go_wp2
    repeat (go_quiet (fail); try go_wp2)
    go_ret
    exact ⟨eW, IsS72.k0 HI0.out, hB1 HB.out (IsS72.ge HI0.out), by repeat (first | (with_reducible first | exact HK.out | apply KeepBut.set_ | apply keep_drewN | apply keep_drew | apply keep_alloc) | exact HK.out)⟩
   ·rw [if_neg c5] at H
    have c5b0 : decide (a1 ≤ 1) = false := decide_eq_false c5
    clear c5
    obtain ⟨ji7, hji7⟩ : ∃ j_ : Int, (wrap64 ((wrap64 (s0_1 + 1)) - 1)) = j_ := ⟨_, rfl⟩
    replace H : (if 0 ≤ (ji7) then (if (ji7) < (s0_0.length : Int) then ((timeboundmake_Mod.f (rd s0_0 (ji7)) a1).bind fun t102 => (some (t102, wrap64 (s0_1 + 1)))) else (none)) else (none)) = some (r1, r2) := by first | (rw [hji7] at H; exact H) | (simp only [hji7] at H ⊢; exact H)
    have hji7w : (IntKind.i64.wrap ((wrap64 (s0_1 + 1)) - 1)) = ji7 := (i64_w _).trans hji7
    by_cases c8 : 0 ≤ (ji7)
    ·rw [if_pos c8] at H
     have c8b0 : decide (0 ≤ (ji7)) = true := decide_eq_true c8
     clear c8
     by_cases c9 : (ji7) < (s0_0.length : Int)
     ·rw [if_pos c9] at H
      have c9b0 : decide ((ji7) < (s0_0.length : Int)) = true := decide_eq_true c9
      clear c9
      replace H := Option.bind_eq_some_iff.mp H
      obtain ⟨t102, A100, H⟩ := H
      replace H : (some (t102, wrap64 (s0_1 + 1))) = some (r1, r2) := H
      have A10 := Aside0.mk A100
      clear A100
      simp only [Option.some.injEq, Prod.mk.injEq] at H
      obtain ⟨rfl, rfl⟩ := H
      obtain ⟨ASz11_0, cSz11_0, HGz11, hgz11, HSz11_0⟩ := HI0.out
      have hcz11_0 := cellS72_0 HGz11
      have hcz11_1 := cellS72_1 HGz11
      have hfz11_1 := blk_frozen HGz11 1
      clear HGz11 hgz11
      have p101 : 0 ≤ ((ji7) : Int) := oD
      have q101 : (ji7) < (s0_0.length : Int) := oD
      obtain ⟨ad101, e101, hx101_0⟩ := Kd.at_int HSz11_0 (ji7) p101 q101
      cases e101
      have hn101_0 : ad101.block ≠ g := Nat.ne_of_lt (Nat.lt_of_lt_of_le (by have := World.block_lt_of_cell? _ _ hx101_0; first | rwa [add_block] at this | exact this) (IsS72.ge HI0.out))
      replace hx101_0 := pw_cell_below HB.out hx101_0
      replace hx101_0 := (cell_far (p := ⟨g, 1, none⟩) (by first | (rw [add_block]; exact hn101_0) | (show (Addr.add _ _).block ≠ _; rw [add_block]; exact hn101_0) | exact hn101_0) (.int .i64 (wrap64 (s0_1 + 1)))).trans hx101_0
      (try have hy101_0 := fun (n_ : Nat) => (show (((w.drewN n_).setCell ⟨g, 1, none⟩ (.int .i64 (wrap64 (s0_1 + 1))))).cell? _ = some _ from hx101_0))
      clear hn101_0
      replace p101 := eq_true p101
      replace q101 := eq_true q101
      go_enter Try.func18, Try.ntmps18
      go_wp2_with (first | (go_at_call 24; (with_reducible refine (timeboundmake_Mod.calls (rd s0_0 (ji7)) a1 t102 _ A10.out).mono ?_); rintro e w' ⟨rfl, ⟨nd, rfl⟩⟩; (try first | exact ⟨rfl, _, World.drewN_drewN _ _ _⟩ | exact ⟨rfl, _, Eq.trans (World.drewN_drewN _ _ _) (congrArg (World.drewN _) (Nat.add_assoc _ _ _))⟩)))
      repeat (go_quiet (first | (go_at_call 24; (with_reducible refine (timeboundmake_Mod.calls (rd s0_0 (ji7)) a1 t102 _ A10.out).mono ?_); rintro e w' ⟨rfl, ⟨nd, rfl⟩⟩; (try first | exact ⟨rfl, _, World.drewN_drewN _ _ _⟩ | exact ⟨rfl, _, Eq.trans (World.drewN_drewN _ _ _) (congrArg (World.drewN _) (Nat.add_assoc _ _ _))⟩))); try go_wp2_with (first | (go_at_call 24; (with_reducible refine (timeboundmake_Mod.calls (rd s0_0 (ji7)) a1 t102 _ A10.out).mono ?_); rintro e w' ⟨rfl, ⟨nd, rfl⟩⟩; (try first | exact ⟨rfl, _, World.drewN_drewN _ _ _⟩ | exact ⟨rfl, _, Eq.trans (World.drewN_drewN _ _ _) (congrArg (World.drewN _) (Nat.add_assoc _ _ _))⟩))))
      go_ret
      exact ⟨by first | rfl | (simp [errW_none, errW_some] <;> rfl) | (simp only [← hji7]; first | rfl | (simp [errW_none, errW_some] <;> rfl)) | (simp [*, errW_none, errW_some] <;> rfl), IsS72.k0 HI0.out, hB1 HB.out (IsS72.ge HI0.out), by repeat (first | (with_reducible first | exact HK.out | apply KeepBut.set_ | apply keep_drewN | apply keep_drew | apply keep_alloc) | exact HK.out)⟩
     ·rw [if_neg c9] at H
      exact absurd H (by simp)
    ·rw [if_neg c8] at H
     exact absurd H (by simp)
def timeboundmake2_Line.f (s0_0 : List Int) (s0_1 : Int) : Option (Int × Int) := (timeboundmake_Deck_Next.f s0_0 s0_1 8).bind fun bt101 => ((timeboundmake_Deck_Next.f s0_0 bt101.2 8).bind fun bt103 => ((timeboundmake_Deck_Next.f s0_0 bt103.2 30).bind fun bt105 => ((some (([bt101.1, bt103.1, bt105.1, 1048576] : List Int) : List Int)).bind fun y107 => ((timeboundmake_Deck_Next.f s0_0 bt105.2 4).bind fun bt110 => (if 0 ≤ bt110.1 then (if bt110.1 < (y107.length : Int) then (some (rd y107 bt110.1, bt110.2)) else (none)) else (none))))))
set_option maxHeartbeats 80000000 in
set_option maxRecDepth 100000 in
theorem timeboundmake2_Line.calls (g : Nat) (s0_0 : List Int) (s0_1 : Int) (r1 : Int) (r2 : Int) (w0 w : World) (hI : IsS72 w0 w g s0_0 s0_1) (hB : Below w0.heap.size w0 w) (h : timeboundmake2_Line.f s0_0 s0_1 = some (r1, r2)) :
   Calls Try.prog 28 #[.pointer (some ⟨g, 0, none⟩)] w fun e w' => e = .returned (.int .i64 r1) ∧ IsS72 w0 w' g s0_0 r2 ∧ Below w0.heap.size w0 w' ∧ KeepBut w w' g none := by
  have HI0 := Aside0.mk hI
  have HK := Aside0.mk (KeepBut.refl w g none)
  have HL := Aside0.mk hB.size
  clear hI
  have HW0 := Aside0.mk hB.size
  have HB := Aside0.mk hB
  clear hB
  have H : ((timeboundmake_Deck_Next.f s0_0 s0_1 8).bind fun bt101 => ((timeboundmake_Deck_Next.f s0_0 bt101.2 8).bind fun bt103 => ((timeboundmake_Deck_Next.f s0_0 bt103.2 30).bind fun bt105 => ((some (([bt101.1, bt103.1, bt105.1, 1048576] : List Int) : List Int)).bind fun y107 => ((timeboundmake_Deck_Next.f s0_0 bt105.2 4).bind fun bt110 => (if 0 ≤ bt110.1 then (if bt110.1 < (y107.length : Int) then (some (rd y107 bt110.1, bt110.2)) else (none)) else (none))))))) = some (r1, r2) := h
  clear h
  replace H := Option.bind_eq_some_iff.mp H
  obtain ⟨⟨t101, t102⟩, A20, H⟩ := H
  replace H : ((timeboundmake_Deck_Next.f s0_0 t102 8).bind fun bt103 => ((timeboundmake_Deck_Next.f s0_0 bt103.2 30).bind fun bt105 => ((some (([t101, bt103.1, bt105.1, 1048576] : List Int) : List Int)).bind fun y107 => ((timeboundmake_Deck_Next.f s0_0 bt105.2 4).bind fun bt110 => (if 0 ≤ bt110.1 then (if bt110.1 < (y107.length : Int) then (some (rd y107 bt110.1, bt110.2)) else (none)) else (none)))))) = some (r1, r2) := H
  have A2 := Aside0.mk A20
  clear A20
  replace H := Option.bind_eq_some_iff.mp H
  obtain ⟨⟨t103, t104⟩, A30, H⟩ := H
  replace H : ((timeboundmake_Deck_Next.f s0_0 t104 30).bind fun bt105 => ((some (([t101, t103, bt105.1, 1048576] : List Int) : List Int)).bind fun y107 => ((timeboundmake_Deck_Next.f s0_0 bt105.2 4).bind fun bt110 => (if 0 ≤ bt110.1 then (if bt110.1 < (y107.length : Int) then (some (rd y107 bt110.1, bt110.2)) else (none)) else (none))))) = some (r1, r2) := H
  have A3 := Aside0.mk A30
  clear A30
  replace H := Option.bind_eq_some_iff.mp H
  obtain ⟨⟨t105, t106⟩, A40, H⟩ := H
  replace H : ((some (([t101, t103, t105, 1048576] : List Int) : List Int)).bind fun y107 => ((timeboundmake_Deck_Next.f s0_0 t106 4).bind fun bt110 => (if 0 ≤ bt110.1 then (if bt110.1 < (y107.length : Int) then (some (rd y107 bt110.1, bt110.2)) else (none)) else (none)))) = some (r1, r2) := H
  have A4 := Aside0.mk A40
  clear A40
  obtain ⟨y107, hy107⟩ : ∃ y_ : List Int, y_ = (([t101, t103, t105, 1048576] : List Int)) := ⟨_, rfl⟩
  replace H : ((timeboundmake_Deck_Next.f s0_0 t106 4).bind fun bt110 => (if 0 ≤ bt110.1 then (if bt110.1 < (y107.length : Int) then (some (rd y107 bt110.1, bt110.2)) else (none)) else (none))) = some (r1, r2) := by first | (rw [hy107]; with_reducible exact H) | (have H2_ := (Option.bind_some _ _).symm.trans H; rw [hy107]; with_reducible exact H2_) | (have H2_ := (Option.bind_some _ _).symm.trans H; with_reducible exact H2_) | with_reducible exact H | (rw [hy107]; exact H) | exact H
  have Ny107 := Aside0.mk hy107
  clear hy107
  replace H := Option.bind_eq_some_iff.mp H
  obtain ⟨⟨t110, t111⟩, A50, H⟩ := H
  replace H : (if 0 ≤ t110 then (if t110 < (y107.length : Int) then (some (rd y107 t110, t111)) else (none)) else (none)) = some (r1, r2) := H
  have A5 := Aside0.mk A50
  clear A50
  by_cases c6 : 0 ≤ t110
  ·rw [if_pos c6] at H
   have c6b0 : decide (0 ≤ t110) = true := decide_eq_true c6
   clear c6
   by_cases c7 : t110 < (y107.length : Int)
   ·rw [if_pos c7] at H
    have c7b0 : decide (t110 < (y107.length : Int)) = true := decide_eq_true c7
    clear c7
    simp only [Option.some.injEq, Prod.mk.injEq] at H
    obtain ⟨rfl, rfl⟩ := H
    go_enter Try.func28, Try.ntmps28
    go_wp2_with (first | ((with_reducible refine gate_callee (f := 18) rfl ?_); refine goesL_ (some 4) rfl rfl Try.func18 (by kernel_rfl) rfl #[.pointer (some ⟨g, 0, none⟩), .int .i64 8] rfl aM ?_; (with_reducible refine (timeboundmake_Deck_Next.calls g s0_0 s0_1 8 t101 t102 w0 _ ?side1 ?side2 A2.out).mono ?_); (case side1 => repeat (first | (with_reducible first | exact HI0.out | apply IsS72.alloc | apply IsS72.drewN | apply IsS72.drew | apply IsS72.set_1) | exact HI0.out)); (case side2 => repeat (first | (with_reducible first | exact HB.out | apply below_alloc | apply pw_below_drewN | apply below_drew1 | refine below_set ?_ (IsS72.ge HI0.out)) | exact HB.out)); rintro e w8 ⟨rfl, hi, hb, hk⟩; refine ⟨_, rfl, ?_⟩; have n0_ := Aside0.mk (KeepBut.trans (by repeat (first | (with_reducible first | exact HK.out | apply KeepBut.set_ | apply keep_drewN | apply keep_drew | apply keep_alloc) | exact HK.out)) hk (.inl rfl)); have n1_ := Aside0.mk (hb); have n2_ := Aside0.mk (hi); clear HK HB HI0; have HK := n0_; have HB := n1_; have HI0 := n2_; clear n0_ n1_ n2_; (try clear hb); (try clear hk); (try clear hi)) | ((with_reducible refine gate_callee (f := 18) rfl ?_); refine goesL_ (some 6) rfl rfl Try.func18 (by kernel_rfl) rfl #[.pointer (some ⟨g, 0, none⟩), .int .i64 8] rfl aM ?_; (with_reducible refine (timeboundmake_Deck_Next.calls g s0_0 t102 8 t103 t104 w0 _ ?side1 ?side2 A3.out).mono ?_); (case side1 => repeat (first | (with_reducible first | exact HI0.out | apply IsS72.alloc | apply IsS72.drewN | apply IsS72.drew | apply IsS72.set_1) | exact HI0.out)); (case side2 => repeat (first | (with_reducible first | exact HB.out | apply below_alloc | apply pw_below_drewN | apply below_drew1 | refine below_set ?_ (IsS72.ge HI0.out)) | exact HB.out)); rintro e w9 ⟨rfl, hi, hb, hk⟩; refine ⟨_, rfl, ?_⟩; have n0_ := Aside0.mk (KeepBut.trans (by repeat (first | (with_reducible first | exact HK.out | apply KeepBut.set_ | apply keep_drewN | apply keep_drew | apply keep_alloc) | exact HK.out)) hk (.inl rfl)); have n1_ := Aside0.mk (hb); have n2_ := Aside0.mk (hi); clear HK HB HI0; have HK := n0_; have HB := n1_; have HI0 := n2_; clear n0_ n1_ n2_; (try clear hb); (try clear hk); (try clear hi)) | ((with_reducible refine gate_callee (f := 18) rfl ?_); refine goesL_ (some 8) rfl rfl Try.func18 (by kernel_rfl) rfl #[.pointer (some ⟨g, 0, none⟩), .int .i64 30] rfl aM ?_; (with_reducible refine (timeboundmake_Deck_Next.calls g s0_0 t104 30 t105 t106 w0 _ ?side1 ?side2 A4.out).mono ?_); (case side1 => repeat (first | (with_reducible first | exact HI0.out | apply IsS72.alloc | apply IsS72.drewN | apply IsS72.drew | apply IsS72.set_1) | exact HI0.out)); (case side2 => repeat (first | (with_reducible first | exact HB.out | apply below_alloc | apply pw_below_drewN | apply below_drew1 | refine below_set ?_ (IsS72.ge HI0.out)) | exact HB.out)); rintro e w10 ⟨rfl, hi, hb, hk⟩; refine ⟨_, rfl, ?_⟩; have n0_ := Aside0.mk (KeepBut.trans (by repeat (first | (with_reducible first | exact HK.out | apply KeepBut.set_ | apply keep_drewN | apply keep_drew | apply keep_alloc) | exact HK.out)) hk (.inl rfl)); have n1_ := Aside0.mk (hb); have n2_ := Aside0.mk (hi); clear HK HB HI0; have HK := n0_; have HB := n1_; have HI0 := n2_; clear n0_ n1_ n2_; (try clear hb); (try clear hk); (try clear hi)) | ((with_reducible refine gate_dst (N := 9) rfl ?_); refine Kd.R_lit (Kd.int .i64) _ 3 ?hg (N := 9) ?hd (xs := ([t101, t103, t105, 1048576] : List Int)) (inner := [.int .i64 t101, .int .i64 t103, .int .i64 t105, .int .i64 1048576]) (ok := fun _ => True) (okp := fun _ => True) ?hr ?hp (fun _ hk => hk) trivial (Below.refl _ _) (Nat.le_refl _) (by simp) ?_; (case hd => rfl); (case hg => rfl); (case hr => first | (go_simp; done) | (go_simp; rfl)); (case hp => exact (Reps.one (show Kd.M (Kd.int .i64) _ _ _ t101 [.int .i64 t101] from rfl) (Reps.one (show Kd.M (Kd.int .i64) _ _ _ t103 [.int .i64 t103] from rfl) (Reps.one (show Kd.M (Kd.int .i64) _ _ _ t105 [.int .i64 t105] from rfl) (Reps.one (show Kd.M (Kd.int .i64) _ _ _ 1048576 [.int .i64 1048576] from rfl) (Reps.none _ _)))))); intro v108 w11 ho12 hb hg_ hnew_; clear hg_ hnew_; (first | rw [← Ny107.out] at ho12 | (simp only [Int.reduceToNat] at ho12; rw [← Ny107.out] at ho12)); have n0_ := Aside0.mk (Kd.R_lower ho12 (keep_size (w := w) (g := g) (row := none) (by repeat (first | (with_reducible first | exact HK.out | apply KeepBut.set_ | apply keep_drewN | apply keep_drew | apply keep_alloc) | exact HK.out)))); have n1_ := Aside0.mk (IsS72.below (IsS72.k0 HI0.out) hb); have n2_ := Aside0.mk (KeepBut.trans (by repeat (first | (with_reducible first | exact HK.out | apply KeepBut.set_ | apply keep_drewN | apply keep_drew | apply keep_alloc) | exact HK.out)) (KeepBut.of_below hb g none) (.inl rfl)); have n3_ := Aside0.mk (below_step (hB1 HB.out (IsS72.ge HI0.out)) hb); clear HI0 HK HB; have HO109 := n0_; have HI0 := n1_; have HK := n2_; have HB := n3_; clear n0_ n1_ n2_ n3_; clear hb ho12) | ((with_reducible refine gate_callee (f := 18) rfl ?_); refine goesL_ (some 11) rfl rfl Try.func18 (by kernel_rfl) rfl #[.pointer (some ⟨g, 0, none⟩), .int .i64 4] rfl aM ?_; (with_reducible refine (timeboundmake_Deck_Next.calls g s0_0 t106 4 t110 t111 w0 _ ?side1 ?side2 A5.out).mono ?_); (case side1 => repeat (first | (with_reducible first | exact HI0.out | apply IsS72.alloc | apply IsS72.drewN | apply IsS72.drew | apply IsS72.set_1) | exact HI0.out)); (case side2 => repeat (first | (with_reducible first | exact HB.out | apply below_alloc | apply pw_below_drewN | apply below_drew1 | refine below_set ?_ (IsS72.ge HI0.out)) | exact HB.out)); rintro e w13 ⟨rfl, hi, hb, hk⟩; refine ⟨_, rfl, ?_⟩; have n0_ := Aside0.mk (Kd.R_mono (Kd.R_keep (IsS72.apart (show IsS72 w0 _ g s0_0 t106 from IsS72.k0 HI0.out) (rK HO109.out) (by decide)) hk (fun _ h => h.2)) (fun _ h => h.1)); have n1_ := Aside0.mk (KeepBut.trans (by repeat (first | (with_reducible first | exact HK.out | apply KeepBut.set_ | apply keep_drewN | apply keep_drew | apply keep_alloc) | exact HK.out)) hk (.inl rfl)); have n2_ := Aside0.mk (hb); have n3_ := Aside0.mk (hi); clear HO109 HK HB HI0; have HO109 := n0_; have HK := n1_; have HB := n2_; have HI0 := n3_; clear n0_ n1_ n2_ n3_; (try clear hb); (try clear hk); (try clear hi); obtain ⟨Ao14, co14, eo14⟩ := Kd.R_slice HO109.out; subst eo14; have p112 : 0 ≤ (t110 : Int) := oD; have q112 : t110 < (y107.length : Int) := oD; obtain ⟨ad112, e112, hx112_0⟩ := Kd.at_int (Kd.R_reads' HO109.out).2.2 t110 p112 q112; cases e112; replace p112 := eq_true p112; replace q112 := eq_true q112))
    go_ret
    exact ⟨eW, IsS72.k0 HI0.out, hB1 HB.out (IsS72.ge HI0.out), by repeat (first | (with_reducible first | exact HK.out | apply KeepBut.set_ | apply keep_drewN | apply keep_drew | apply keep_alloc) | exact HK.out)⟩
   ·rw [if_neg c7] at H
    exact absurd H (by simp)
  ·rw [if_neg c6] at H
   exact absurd H (by simp)
def timeboundmake2_Few.l0 : Nat → List Int → Int → List Int → Int → Option (List Int × Int)
  | 0, _, _, _, _ => none
  | k + 1, x3, x4, x1000, x1001 => if x4 > 0 then ((timeboundmake2_Line.f x1000 x1001).bind fun bt103 => (if x3.length < 17592186044416 then (timeboundmake2_Few.l0 k (x3 ++ [bt103.1]) (wrap64 (x4 - 1)) x1000 bt103.2) else (none))) else (some (x3, x1001))
def timeboundmake2_Few.f (k : Nat) (s0_0 : List Int) (s0_1 : Int) : Option (List Int × Int) := (timeboundmake_Deck_Next.f s0_0 s0_1 4).bind fun bt101 => (timeboundmake2_Few.l0 k ([] : List Int) bt101.1 s0_0 bt101.2)
set_option maxHeartbeats 80000000 in
set_option maxRecDepth 100000 in
theorem timeboundmake2_Few.calls (k : Nat) (g : Nat) (s0_0 : List Int) (s0_1 : Int) (r1 : List Int) (r2 : Int) (w0 w : World) (hI : IsS72 w0 w g s0_0 s0_1) (hB : Below w0.heap.size w0 w) (h : timeboundmake2_Few.f k s0_0 s0_1 = some (r1, r2)) :
   Calls Try.prog 38 #[.pointer (some ⟨g, 0, none⟩)] w fun e w' => ∃ v0_ : Value, e = .returned (v0_) ∧ Kd.R (Kd.int .i64) 3 w' w.heap.size (fun _ => True) v0_ r1 ∧ IsS72 w0 w' g s0_0 r2 ∧ Below w0.heap.size w0 w' ∧ KeepBut w w' g none := by
  have HI0 := Aside0.mk hI
  have HK := Aside0.mk (KeepBut.refl w g none)
  have HL := Aside0.mk hB.size
  clear hI
  have HW0 := Aside0.mk hB.size
  have HB := Aside0.mk hB
  clear hB
  have H : ((timeboundmake_Deck_Next.f s0_0 s0_1 4).bind fun bt101 => (timeboundmake2_Few.l0 k ([] : List Int) bt101.1 s0_0 bt101.2)) = some (r1, r2) := h
  clear h
  replace H := Option.bind_eq_some_iff.mp H
  obtain ⟨⟨t101, t102⟩, A20, H⟩ := H
  replace H : (timeboundmake2_Few.l0 k ([] : List Int) t101 s0_0 t102) = some (r1, r2) := H
  have A2 := Aside0.mk A20
  clear A20
  have H' := Aside0.mk H
  clear H
  go_enter Try.func38, Try.ntmps38
  go_wp2_with (first | ((with_reducible refine gate_callee (f := 18) rfl ?_); refine goesL_ (some 6) rfl rfl Try.func18 (by kernel_rfl) rfl #[.pointer (some ⟨g, 0, none⟩), .int .i64 4] rfl aM ?_; (with_reducible refine (timeboundmake_Deck_Next.calls g s0_0 s0_1 4 t101 t102 w0 _ ?side1 ?side2 A2.out).mono ?_); (case side1 => repeat (first | (with_reducible first | exact HI0.out | apply IsS72.alloc | apply IsS72.drewN | apply IsS72.drew | apply IsS72.set_1) | exact HI0.out)); (case side2 => repeat (first | (with_reducible first | exact HB.out | apply below_alloc | apply pw_below_drewN | apply below_drew1 | refine below_set ?_ (IsS72.ge HI0.out)) | exact HB.out)); rintro e w3 ⟨rfl, hi, hb, hk⟩; refine ⟨_, rfl, ?_⟩; have n0_ := Aside0.mk (KeepBut.trans (by repeat (first | (with_reducible first | exact HK.out | apply KeepBut.set_ | apply keep_drewN | apply keep_drew | apply keep_alloc) | exact HK.out)) hk (.inl rfl)); have n1_ := Aside0.mk (hb); have n2_ := Aside0.mk (hi); clear HK HB HI0; have HK := n0_; have HB := n1_; have HI0 := n2_; clear n0_ n1_ n2_; (try clear hb); (try clear hk); (try clear hi)))
  (try simp only [Act.put, List.setIfInBounds_toArray, List.set_cons_zero, List.set_cons_succ])
  go_loopg [3, 4] k (fun kq v3 v4 w' => ∃ (x3_1 : List Int) (x4_1 : Int) (x1001_1 : Int), v4 = .int .i64 x4_1 ∧ Aside0 (timeboundmake2_Few.l0 kq x3_1 x4_1 s0_0 x1001_1 = some (r1, r2)) ∧ Aside0 (kq ≤ k) ∧ Aside0 (Kd.R (Kd.int .i64) 3 w' w.heap.size (fun _ => True) v3 x3_1) ∧ Aside0 (IsS72 w0 w' g s0_0 x1001_1) ∧ Aside0 (KeepBut w w' g none) ∧ Aside0 (Below w0.heap.size w0 w'))
  case atStart => exact ⟨(([] : List Int)), (t101), (t102), rS, H', ⟨Nat.le_refl _⟩, ⟨by first | exact Kd.R_nil _ _ _ _ _ | exact Kd.N_nil _ _ _ _ _ | exact Kd.V_nil _ _ _ _ _ | exact Kd.Q_nil _ _ _ _ _ | exact Kd.S_nil _ _ _ _ _⟩, ⟨IsS72.k0 HI0.out⟩, ⟨by repeat (first | (with_reducible first | exact HK.out | apply KeepBut.set_ | apply keep_drewN | apply keep_drew | apply keep_alloc) | exact HK.out)⟩, ⟨hB1 HB.out (IsS72.ge HI0.out)⟩⟩
  case round =>
   clear H'
   obtain ⟨x3_1, x4_1, x1001_1, rfl, HA, HK1, HO_3, HI0, HK, HB⟩ := hrel
   cases gk with
   | zero => exact absurd HA.out (by simp [timeboundmake2_Few.l0])
   | succ k1 =>
    have H := HA.out
    clear HA
    simp only [timeboundmake2_Few.l0] at H
    by_cases c4 : x4_1 > 0
    ·rw [if_pos c4] at H
     have c4b0 : decide (0 < x4_1) = true := decide_eq_true c4
     clear c4
     replace H := Option.bind_eq_some_iff.mp H
     obtain ⟨⟨t103, t104⟩, A50, H⟩ := H
     replace H : (if x3_1.length < 17592186044416 then (timeboundmake2_Few.l0 k1 (x3_1 ++ [t103]) (wrap64 (x4_1 - 1)) s0_0 t104) else (none)) = some (r1, r2) := H
     have A5 := Aside0.mk A50
     clear A50
     by_cases c6 : x3_1.length < 17592186044416
     ·rw [if_pos c6] at H
      have LMc6 := Aside0.mk c6
      clear c6
      obtain ⟨y105, hy105⟩ : ∃ y_ : List Int, y_ = (x3_1 ++ [t103]) := ⟨_, rfl⟩
      replace H : (timeboundmake2_Few.l0 k1 y105 (wrap64 (x4_1 - 1)) s0_0 t104) = some (r1, r2) := by first | (rw [hy105]; with_reducible exact H) | (have H2_ := (Option.bind_some _ _).symm.trans H; rw [hy105]; with_reducible exact H2_) | (have H2_ := (Option.bind_some _ _).symm.trans H; with_reducible exact H2_) | with_reducible exact H | (rw [hy105]; exact H) | exact H
      have Ny105 := Aside0.mk hy105
      clear hy105
      have H' := Aside0.mk H
      clear H
      go_wp2_with (first | ((with_reducible refine gate_callee (f := 28) rfl ?_); refine goesL_ (some 13) rfl rfl Try.func28 (by kernel_rfl) rfl #[.pointer (some ⟨g, 0, none⟩)] rfl aM ?_; (with_reducible refine (timeboundmake2_Line.calls g s0_0 x1001_1 t103 t104 w0 _ ?side1 ?side2 A5.out).mono ?_); (case side1 => repeat (first | (with_reducible first | exact HI0.out | apply IsS72.alloc | apply IsS72.drewN | apply IsS72.drew | apply IsS72.set_1) | exact HI0.out)); (case side2 => repeat (first | (with_reducible first | exact HB.out | apply below_alloc | apply pw_below_drewN | apply below_drew1 | refine below_set ?_ (IsS72.ge HI0.out)) | exact HB.out)); rintro e w7 ⟨rfl, hi, hb, hk⟩; refine ⟨_, rfl, ?_⟩; have n0_ := Aside0.mk (Kd.R_mono (Kd.R_keep (IsS72.apart (show IsS72 w0 _ g s0_0 x1001_1 from IsS72.k0 HI0.out) (rK HO_3.out) (by decide)) hk (fun _ h => h.2)) (fun _ h => h.1)); have n1_ := Aside0.mk (KeepBut.trans (by repeat (first | (with_reducible first | exact HK.out | apply KeepBut.set_ | apply keep_drewN | apply keep_drew | apply keep_alloc) | exact HK.out)) hk (.inl rfl)); have n2_ := Aside0.mk (hb); have n3_ := Aside0.mk (hi); clear HO_3 HK HB HI0; have HO_3 := n0_; have HK := n1_; have HB := n2_; have HI0 := n3_; clear n0_ n1_ n2_ n3_; (try clear hb); (try clear hk); (try clear hi)) | ((with_reducible refine gate_builtin (b := .append) (xs := #[.tmp 11, .tmp 14]) rfl ?_); at_builtin; refine Kd.R_append (Kd.int .i64) w.heap.size rfl (.tmp 11) (.tmp 14) 22 3 (.int .i64 0) 8 rfl Try.underlying22 info3 rfl (by decide) (by omega) u3 x3_1 t103 [.int .i64 t103] (fun _ => True) (fun _ => False) rfl rfl ?aP (fun _ hk => hk.elim) ?aF ?aO (Below.refl _ _) ?aS ?aL ?_; (case aP => exact rfl); (case aF => exact (fun _ _ => trivial)); (case aO => exact (rK HO_3.out)); (case aS => exact (keep_size (w := w) (g := g) (row := none) (by repeat (first | (with_reducible first | exact HK.out | apply KeepBut.set_ | apply keep_drewN | apply keep_drew | apply keep_alloc) | exact HK.out)))); (case aL => have := LMc6.out; omega); intro v106 w8 ho hb hg hat; rw [← Ny105.out] at ho; have n0_ := Aside0.mk (IsS72.grown (IsS72.k0 HI0.out) hg (IsS72.own_ne HI0.out HO_3.out (by decide))); have n1_ := Aside0.mk (below_weaken (hB1 HB.out (IsS72.ge HI0.out)) HL.out hb); have n2_ := Aside0.mk (KeepBut.trans (by repeat (first | (with_reducible first | exact HK.out | apply KeepBut.set_ | apply keep_drewN | apply keep_drew | apply keep_alloc) | exact HK.out)) (KeepBut.of_grown hg g) (Kd.R_base2 HO_3.out)); have n3_ := Aside0.mk (ho); clear HI0 HB HK HO_3; have HI0 := n0_; have HB := n1_; have HK := n2_; have HO107 := n3_; clear n0_ n1_ n2_ n3_; clear ho hb hg hat))
      go_roundg k1
      case measure => have := HK1.out; omega
      case rel => exact ⟨(y105), (wrap64 (x4_1 - 1)), (t104), rS, H', ⟨by have := HK1.out; omega⟩, ⟨rK HO107.out⟩, ⟨IsS72.k0 HI0.out⟩, ⟨by repeat (first | (with_reducible first | exact HK.out | apply KeepBut.set_ | apply keep_drewN | apply keep_drew | apply keep_alloc) | exact HK.out)⟩, ⟨hB1 HB.out (IsS72.ge HI0.out)⟩⟩
     ·rw [if_neg c6] at H
      exact absurd H (by simp)
    ·rw [if_neg c4] at H
     have c4b0 : decide (0 < x4_1) = false := decide_eq_false c4
     clear c4
     simp only [Option.some.injEq, Prod.mk.injEq] at H
     obtain ⟨rfl, rfl⟩ := H
     go_wp2
     go_ret
     exact ⟨_, by first | rfl | (simp [errW_none, errW_some] <;> rfl) | (simp [*, errW_none, errW_some] <;> rfl), by (with_reducible repeat (first | apply Kd.R_alloc | apply Kd.R_drewN | apply Kd.R_drew)); exact HO_3.out, IsS72.k0 HI0.out, hB1 HB.out (IsS72.ge HI0.out), by repeat (first | (with_reducible first | exact HK.out | apply KeepBut.set_ | apply keep_drewN | apply keep_drew | apply keep_alloc) | exact HK.out)⟩
def timeboundmake_Cache.f (s0_0 : List Int) (s0_1 : Int) : Option (Int × Int × Int × Int) := (timeboundmake_Deck_Next.f s0_0 s0_1 5).bind fun bt102 => ((timeboundmake_Deck_Next.f s0_0 bt102.2 3).bind fun bt104 => ((timeboundmake_Deck_Next.f s0_0 bt104.2 4).bind fun bt106 => (some (bt102.1, wrap64 (1 + bt104.1), wrap64 (1 + bt106.1), bt106.2))))
set_option maxHeartbeats 80000000 in
set_option maxRecDepth 100000 in
theorem timeboundmake_Cache.calls (g : Nat) (s0_0 : List Int) (s0_1 : Int) (r1 : Int) (r2 : Int) (r3 : Int) (r4 : Int) (w0 w : World) (hI : IsS72 w0 w g s0_0 s0_1) (hB : Below w0.heap.size w0 w) (h : timeboundmake_Cache.f s0_0 s0_1 = some (r1, r2, r3, r4)) :
   Calls Try.prog 64 #[.pointer (some ⟨g, 0, none⟩)] w fun e w' => e = .returned (.agg #[.int .i64 r1, .int .i64 r2, .int .i64 r3]) ∧ IsS72 w0 w' g s0_0 r4 ∧ Below w0.heap.size w0 w' ∧ KeepBut w w' g none := by
  have hu26 := Try.underlying26
  have HI0 := Aside0.mk hI
  have HK := Aside0.mk (KeepBut.refl w g none)
  have HL := Aside0.mk hB.size
  clear hI
  have HW0 := Aside0.mk hB.size
  have HB := Aside0.mk hB
  clear hB
  have H : ((timeboundmake_Deck_Next.f s0_0 s0_1 5).bind fun bt102 => ((timeboundmake_Deck_Next.f s0_0 bt102.2 3).bind fun bt104 => ((timeboundmake_Deck_Next.f s0_0 bt104.2 4).bind fun bt106 => (some (bt102.1, wrap64 (1 + bt104.1), wrap64 (1 + bt106.1), bt106.2))))) = some (r1, r2, r3, r4) := h
  clear h
  replace H := Option.bind_eq_some_iff.mp H
  obtain ⟨⟨t102, t103⟩, A20, H⟩ := H
  replace H : ((timeboundmake_Deck_Next.f s0_0 t103 3).bind fun bt104 => ((timeboundmake_Deck_Next.f s0_0 bt104.2 4).bind fun bt106 => (some (t102, wrap64 (1 + bt104.1), wrap64 (1 + bt106.1), bt106.2)))) = some (r1, r2, r3, r4) := H
  have A2 := Aside0.mk A20
  clear A20
  replace H := Option.bind_eq_some_iff.mp H
  obtain ⟨⟨t104, t105⟩, A30, H⟩ := H
  replace H : ((timeboundmake_Deck_Next.f s0_0 t105 4).bind fun bt106 => (some (t102, wrap64 (1 + t104), wrap64 (1 + bt106.1), bt106.2))) = some (r1, r2, r3, r4) := H
  have A3 := Aside0.mk A30
  clear A30
  replace H := Option.bind_eq_some_iff.mp H
  obtain ⟨⟨t106, t107⟩, A40, H⟩ := H
  replace H : (some (t102, wrap64 (1 + t104), wrap64 (1 + t106), t107)) = some (r1, r2, r3, r4) := H
  have A4 := Aside0.mk A40
  clear A40
  simp only [Option.some.injEq, Prod.mk.injEq] at H
  obtain ⟨rfl, rfl, rfl, rfl⟩ := H
  go_enter Try.func64, Try.ntmps64
  go_wp2_with (first | ((with_reducible refine gate_dst (N := 2) rfl ?_); refine box_event ?hg (N := 2) ?hd (cs := #[.int .i64 0, .int .i64 0, .int .i64 0]) (t := 26) ?hr ?_; (case hd => rfl); (case hg => rfl); (case hr => first | (go_simp; done) | (go_simp; rfl)); intro gb101 hg w5 hbox hb; have n0_ := Aside0.mk (IsS72.below (IsS72.k0 HI0.out) hb); have n1_ := Aside0.mk (KeepBut.trans (by repeat (first | (with_reducible first | exact HK.out | apply KeepBut.set_ | apply keep_drewN | apply keep_drew | apply keep_alloc) | exact HK.out)) (KeepBut.of_below hb g none) (.inl rfl)); have n2_ := Aside0.mk (below_step (hB1 HB.out (IsS72.ge HI0.out)) hb); have n3_ := Aside0.mk (hbox); have n4_ := Aside0.mk ((by rw [hg]; exact (keep_size (w := w) (g := g) (row := none) (by repeat (first | (with_reducible first | exact HK.out | apply KeepBut.set_ | apply keep_drewN | apply keep_drew | apply keep_alloc) | exact HK.out))) : w.heap.size ≤ gb101)); have n5_ := Aside0.mk ((Nat.le_trans HW0.out (by rw [hg]; exact (keep_size (w := w) (g := g) (row := none) (by repeat (first | (with_reducible first | exact HK.out | apply KeepBut.set_ | apply keep_drewN | apply keep_drew | apply keep_alloc) | exact HK.out))) : w.heap.size ≤ gb101) : w0.heap.size ≤ gb101)); have n6_ := Aside0.mk ((by rw [hg]; exact Nat.ne_of_lt (IsS72.lt (show IsS72 w0 _ g s0_0 s0_1 from IsS72.k0 HI0.out)) : g ≠ gb101)); have n7_ := Aside0.mk ((by rw [hg]; exact Nat.ne_of_gt (IsS72.lt (show IsS72 w0 _ g s0_0 s0_1 from IsS72.k0 HI0.out)) : gb101 ≠ g)); clear HI0 HK HB; have HI0 := n0_; have HK := n1_; have HB := n2_; have BK101 := n3_; have GW101 := n4_; have GE101 := n5_; have NB0_101 := n6_; have NB101_0 := n7_; clear n0_ n1_ n2_ n3_ n4_ n5_ n6_ n7_; clear hb hbox hg) | ((with_reducible refine gate_callee (f := 18) rfl ?_); refine goesL_ (some 4) rfl rfl Try.func18 (by kernel_rfl) rfl #[.pointer (some ⟨g, 0, none⟩), .int .i64 5] rfl aM ?_; (with_reducible refine (timeboundmake_Deck_Next.calls g s0_0 s0_1 5 t102 t103 w0 _ ?side1 ?side2 A2.out).mono ?_); (case side1 => repeat (first | (with_reducible first | exact HI0.out | apply IsS72.alloc | apply IsS72.drewN | apply IsS72.drew | apply IsS72.set_1 | refine IsS72.far ?_ NB0_101.out _) | exact HI0.out)); (case side2 => repeat (first | (with_reducible first | exact HB.out | apply below_alloc | apply pw_below_drewN | apply below_drew1 | refine below_set ?_ (IsS72.ge HI0.out) | refine below_set ?_ GE101.out) | exact HB.out)); rintro e w6 ⟨rfl, hi, hb, hk⟩; refine ⟨_, rfl, ?_⟩; have n0_ := Aside0.mk (KeepBut.blk hk (g' := gb101) (bK BK101.out) NB101_0.out (by simp)); have n1_ := Aside0.mk (KeepBut.trans (by repeat (first | (with_reducible first | exact HK.out | apply KeepBut.set_ | apply keep_drewN | apply keep_drew | apply keep_alloc | refine keep_far ?_ GW101.out _) | exact HK.out)) hk (.inl rfl)); have n2_ := Aside0.mk (hb); have n3_ := Aside0.mk (hi); clear BK101 HK HB HI0; have BK101 := n0_; have HK := n1_; have HB := n2_; have HI0 := n3_; clear n0_ n1_ n2_ n3_; (try clear hb); (try clear hk); (try clear hi)) | ((with_reducible refine gate_callee (f := 18) rfl ?_); refine goesL_ (some 6) rfl rfl Try.func18 (by kernel_rfl) rfl #[.pointer (some ⟨g, 0, none⟩), .int .i64 3] rfl aM ?_; (with_reducible refine (timeboundmake_Deck_Next.calls g s0_0 t103 3 t104 t105 w0 _ ?side1 ?side2 A3.out).mono ?_); (case side1 => repeat (first | (with_reducible first | exact HI0.out | apply IsS72.alloc | apply IsS72.drewN | apply IsS72.drew | apply IsS72.set_1 | refine IsS72.far ?_ NB0_101.out _) | exact HI0.out)); (case side2 => repeat (first | (with_reducible first | exact HB.out | apply below_alloc | apply pw_below_drewN | apply below_drew1 | refine below_set ?_ (IsS72.ge HI0.out) | refine below_set ?_ GE101.out) | exact HB.out)); rintro e w7 ⟨rfl, hi, hb, hk⟩; refine ⟨_, rfl, ?_⟩; have n0_ := Aside0.mk (KeepBut.blk hk (g' := gb101) (bK BK101.out) NB101_0.out (by simp)); have n1_ := Aside0.mk (KeepBut.trans (by repeat (first | (with_reducible first | exact HK.out | apply KeepBut.set_ | apply keep_drewN | apply keep_drew | apply keep_alloc | refine keep_far ?_ GW101.out _) | exact HK.out)) hk (.inl rfl)); have n2_ := Aside0.mk (hb); have n3_ := Aside0.mk (hi); clear BK101 HK HB HI0; have BK101 := n0_; have HK := n1_; have HB := n2_; have HI0 := n3_; clear n0_ n1_ n2_ n3_; (try clear hb); (try clear hk); (try clear hi)) | ((with_reducible refine gate_callee (f := 18) rfl ?_); refine goesL_ (some 9) rfl rfl Try.func18 (by kernel_rfl) rfl #[.pointer (some ⟨g, 0, none⟩), .int .i64 4] rfl aM ?_; (with_reducible refine (timeboundmake_Deck_Next.calls g s0_0 t105 4 t106 t107 w0 _ ?side1 ?side2 A4.out).mono ?_); (case side1 => repeat (first | (with_reducible first | exact HI0.out | apply IsS72.alloc | apply IsS72.drewN | apply IsS72.drew | apply IsS72.set_1 | refine IsS72.far ?_ NB0_101.out _) | exact HI0.out)); (case side2 => repeat (first | (with_reducible first | exact HB.out | apply below_alloc | apply pw_below_drewN | apply below_drew1 | refine below_set ?_ (IsS72.ge HI0.out) | refine below_set ?_ GE101.out) | exact HB.out)); rintro e w8 ⟨rfl, hi, hb, hk⟩; refine ⟨_, rfl, ?_⟩; have n0_ := Aside0.mk (KeepBut.blk hk (g' := gb101) (bK BK101.out) NB101_0.out (by simp)); have n1_ := Aside0.mk (KeepBut.trans (by repeat (first | (with_reducible first | exact HK.out | apply KeepBut.set_ | apply keep_drewN | apply keep_drew | apply keep_alloc | refine keep_far ?_ GW101.out _) | exact HK.out)) hk (.inl rfl)); have n2_ := Aside0.mk (hb); have n3_ := Aside0.mk (hi); clear BK101 HK HB HI0; have BK101 := n0_; have HK := n1_; have HB := n2_; have HI0 := n3_; clear n0_ n1_ n2_ n3_; (try clear hb); (try clear hk); (try clear hi); have hnb9 := NB101_0.out; have hnc9 := NB0_101.out; obtain ⟨hcz10_0, hcz10_1, hcz10_2, hfz10_0, hfz10_1, hfz10_2⟩ := cz3 BK101.out))
  refine bodyPost_ret (results_cell_row rfl _ _ gb101 26 #[.int .i64 t102, .int .i64 (wrap64 (1 + t104)), .int .i64 (wrap64 (1 + t106))] (0, 0) _ rfl (bP0 BK101.out) Try.underlying26 rfl (by kernel_rfl)) rfl ?_
  exact ⟨eW, by repeat (first | (with_reducible first | exact HI0.out | apply IsS72.alloc | apply IsS72.drewN | apply IsS72.drew | apply IsS72.set_1 | refine IsS72.far ?_ NB0_101.out _) | exact HI0.out), hB2 HB.out (IsS72.ge HI0.out) GE101.out, by repeat (first | (with_reducible first | exact HK.out | apply KeepBut.set_ | apply keep_drewN | apply keep_drew | apply keep_alloc | refine keep_far ?_ GW101.out _) | exact HK.out)⟩
def timeboundmake2_Cache.f (s0_0 : List Int) (s0_1 : Int) : Option (Int × Int × Int × Int) := (timeboundmake_Cache.f s0_0 s0_1).bind fun bt102 => (some (bt102.1, bt102.2.1, bt102.2.2.1, bt102.2.2.2))
set_option maxHeartbeats 80000000 in
set_option maxRecDepth 100000 in
theorem timeboundmake2_Cache.calls (g : Nat) (s0_0 : List Int) (s0_1 : Int) (r1 : Int) (r2 : Int) (r3 : Int) (r4 : Int) (w0 w : World) (hI : IsS72 w0 w g s0_0 s0_1) (hB : Below w0.heap.size w0 w) (h : timeboundmake2_Cache.f s0_0 s0_1 = some (r1, r2, r3, r4)) :
   Calls Try.prog 15 #[.pointer (some ⟨g, 0, none⟩)] w fun e w' => e = .returned (.agg #[.int .i64 r1, .int .i64 r2, .int .i64 r3]) ∧ IsS72 w0 w' g s0_0 r4 ∧ Below w0.heap.size w0 w' ∧ KeepBut w w' g none := by
  have hu26 := Try.underlying26
  have HI0 := Aside0.mk hI
  have HK := Aside0.mk (KeepBut.refl w g none)
  have HL := Aside0.mk hB.size
  clear hI
  have HW0 := Aside0.mk hB.size
  have HB := Aside0.mk hB
  clear hB
  have H : ((timeboundmake_Cache.f s0_0 s0_1).bind fun bt102 => (some (bt102.1, bt102.2.1, bt102.2.2.1, bt102.2.2.2))) = some (r1, r2, r3, r4) := h
  clear h
  replace H := Option.bind_eq_some_iff.mp H
  obtain ⟨⟨t102, t103, t104, t105⟩, A20, H⟩ := H
  replace H : (some (t102, t103, t104, t105)) = some (r1, r2, r3, r4) := H
  have A2 := Aside0.mk A20
  clear A20
  simp only [Option.some.injEq, Prod.mk.injEq] at H
  obtain ⟨rfl, rfl, rfl, rfl⟩ := H
  go_enter Try.func15, Try.ntmps15
  go_wp2_with (first | ((with_reducible refine gate_dst (N := 2) rfl ?_); refine box_event ?hg (N := 2) ?hd (cs := #[.int .i64 0, .int .i64 0, .int .i64 0]) (t := 26) ?hr ?_; (case hd => rfl); (case hg => rfl); (case hr => first | (go_simp; done) | (go_simp; rfl)); intro gb101 hg w3 hbox hb; have n0_ := Aside0.mk (IsS72.below (IsS72.k0 HI0.out) hb); have n1_ := Aside0.mk (KeepBut.trans (by repeat (first | (with_reducible first | exact HK.out | apply KeepBut.set_ | apply keep_drewN | apply keep_drew | apply keep_alloc) | exact HK.out)) (KeepBut.of_below hb g none) (.inl rfl)); have n2_ := Aside0.mk (below_step (hB1 HB.out (IsS72.ge HI0.out)) hb); have n3_ := Aside0.mk (hbox); have n4_ := Aside0.mk ((by rw [hg]; exact (keep_size (w := w) (g := g) (row := none) (by repeat (first | (with_reducible first | exact HK.out | apply KeepBut.set_ | apply keep_drewN | apply keep_drew | apply keep_alloc) | exact HK.out))) : w.heap.size ≤ gb101)); have n5_ := Aside0.mk ((Nat.le_trans HW0.out (by rw [hg]; exact (keep_size (w := w) (g := g) (row := none) (by repeat (first | (with_reducible first | exact HK.out | apply KeepBut.set_ | apply keep_drewN | apply keep_drew | apply keep_alloc) | exact HK.out))) : w.heap.size ≤ gb101) : w0.heap.size ≤ gb101)); have n6_ := Aside0.mk ((by rw [hg]; exact Nat.ne_of_lt (IsS72.lt (show IsS72 w0 _ g s0_0 s0_1 from IsS72.k0 HI0.out)) : g ≠ gb101)); have n7_ := Aside0.mk ((by rw [hg]; exact Nat.ne_of_gt (IsS72.lt (show IsS72 w0 _ g s0_0 s0_1 from IsS72.k0 HI0.out)) : gb101 ≠ g)); clear HI0 HK HB; have HI0 := n0_; have HK := n1_; have HB := n2_; have BK101 := n3_; have GW101 := n4_; have GE101 := n5_; have NB0_101 := n6_; have NB101_0 := n7_; clear n0_ n1_ n2_ n3_ n4_ n5_ n6_ n7_; clear hb hbox hg) | ((with_reducible refine gate_callee (f := 64) rfl ?_); refine goesL_ (some 4) rfl rfl Try.func64 (by kernel_rfl) rfl #[.pointer (some ⟨g, 0, none⟩)] rfl aM ?_; (with_reducible refine (timeboundmake_Cache.calls g s0_0 s0_1 t102 t103 t104 t105 w0 _ ?side1 ?side2 A2.out).mono ?_); (case side1 => repeat (first | (with_reducible first | exact HI0.out | apply IsS72.alloc | apply IsS72.drewN | apply IsS72.drew | apply IsS72.set_1 | refine IsS72.far ?_ NB0_101.out _) | exact HI0.out)); (case side2 => repeat (first | (with_reducible first | exact HB.out | apply below_alloc | apply pw_below_drewN | apply below_drew1 | refine below_set ?_ (IsS72.ge HI0.out) | refine below_set ?_ GE101.out) | exact HB.out)); rintro e w4 ⟨rfl, hi, hb, hk⟩; refine ⟨_, rfl, ?_⟩; have n0_ := Aside0.mk (KeepBut.blk hk (g' := gb101) (bK BK101.out) NB101_0.out (by simp)); have n1_ := Aside0.mk (KeepBut.trans (by repeat (first | (with_reducible first | exact HK.out | apply KeepBut.set_ | apply keep_drewN | apply keep_drew | apply keep_alloc | refine keep_far ?_ GW101.out _) | exact HK.out)) hk (.inl rfl)); have n2_ := Aside0.mk (hb); have n3_ := Aside0.mk (hi); clear BK101 HK HB HI0; have BK101 := n0_; have HK := n1_; have HB := n2_; have HI0 := n3_; clear n0_ n1_ n2_ n3_; (try clear hb); (try clear hk); (try clear hi); have hnb5 := NB101_0.out; have hnc5 := NB0_101.out; obtain ⟨hcz6_0, hcz6_1, hcz6_2, hfz6_0, hfz6_1, hfz6_2⟩ := cz3 BK101.out))
  refine bodyPost_ret (results_cell_row rfl _ _ gb101 26 #[.int .i64 t102, .int .i64 t103, .int .i64 t104] (0, 0) _ rfl (bP0 BK101.out) Try.underlying26 rfl (by kernel_rfl)) rfl ?_
  exact ⟨eW, by repeat (first | (with_reducible first | exact HI0.out | apply IsS72.alloc | apply IsS72.drewN | apply IsS72.drew | apply IsS72.set_1 | refine IsS72.far ?_ NB0_101.out _) | exact HI0.out), hB2 HB.out (IsS72.ge HI0.out) GE101.out, by repeat (first | (with_reducible first | exact HK.out | apply KeepBut.set_ | apply keep_drewN | apply keep_drew | apply keep_alloc | refine keep_far ?_ GW101.out _) | exact HK.out)⟩
def timeboundref22_Check.f (a0_0 : Int) (a0_1 : Int) (a0_2 : Int) : Option (Int) := if a0_0 < 0 then (some 3) else (if a0_0 > 8 then (some 3) else (if a0_1 < 1 then (some 3) else (if a0_1 > 4 then (some 3) else (if a0_2 < 1 then (some 3) else (if a0_2 > 8 then (some 3) else (some 0))))))
set_option maxHeartbeats 80000000 in
set_option maxRecDepth 100000 in
theorem timeboundref22_Check.calls (a0_0 : Int) (a0_1 : Int) (a0_2 : Int) (r : Int) (w : World) (h : timeboundref22_Check.f a0_0 a0_1 a0_2 = some r) :
   Calls Try.prog 112 #[.agg #[.int .i64 a0_0, .int .i64 a0_1, .int .i64 a0_2]] w fun e w' => e = .returned (.int .i64 r) ∧ Below w.heap.size w w' := by
  have hu26 := Try.underlying26
  have HB := Aside0.mk (Below.refl w.heap.size w)
  have H : (if a0_0 < 0 then (some 3) else (if a0_0 > 8 then (some 3) else (if a0_1 < 1 then (some 3) else (if a0_1 > 4 then (some 3) else (if a0_2 < 1 then (some 3) else (if a0_2 > 8 then (some 3) else (some 0))))))) = some r := h
  clear h
  by_cases c2 : a0_0 < 0
  ·rw [if_pos c2] at H
   have c2b0 : decide (a0_0 < 0) = true := decide_eq_true c2
   clear c2
   obtain rfl := Option.some.inj H
   go_enter Try.func112, Try.ntmps112
   go_wp2_with (first | ((with_reducible refine gate_dst (N := 1) rfl ?_); refine box_event ?hg (N := 1) ?hd (cs := #[.int .i64 a0_0, .int .i64 a0_1, .int .i64 a0_2]) (t := 26) ?hr ?_; (case hd => rfl); (case hg => rfl); (case hr => first | (go_simp; done) | (go_simp; rfl)); intro gb101 hg w3 hbox hb; have n0_ := Aside0.mk (below_step (hB0 HB.out) hb); have n1_ := Aside0.mk (hbox); have n2_ := Aside0.mk ((by rw [hg]; exact (below_size (hB0 HB.out)) : w.heap.size ≤ gb101)); have n3_ := Aside0.mk ((by rw [hg]; exact (below_size (hB0 HB.out)) : w.heap.size ≤ gb101)); clear HB; have HB := n0_; have BK101 := n1_; have GW101 := n2_; have GE101 := n3_; clear n0_ n1_ n2_ n3_; clear hb hbox hg; obtain ⟨hcz4_0, hcz4_1, hcz4_2, hfz4_0, hfz4_1, hfz4_2⟩ := cz3 BK101.out))
   go_ret
   exact ⟨eW, hB1 HB.out GE101.out⟩
  ·rw [if_neg c2] at H
   have c2b0 : decide (a0_0 < 0) = false := decide_eq_false c2
   clear c2
   by_cases c5 : a0_0 > 8
   ·rw [if_pos c5] at H
    have c5b0 : decide (8 < a0_0) = true := decide_eq_true c5
    clear c5
    obtain rfl := Option.some.inj H
    go_enter Try.func112, Try.ntmps112
    go_wp2_with (first | ((with_reducible refine gate_dst (N := 1) rfl ?_); refine box_event ?hg (N := 1) ?hd (cs := #[.int .i64 a0_0, .int .i64 a0_1, .int .i64 a0_2]) (t := 26) ?hr ?_; (case hd => rfl); (case hg => rfl); (case hr => first | (go_simp; done) | (go_simp; rfl)); intro gb101 hg w6 hbox hb; have n0_ := Aside0.mk (below_step (hB0 HB.out) hb); have n1_ := Aside0.mk (hbox); have n2_ := Aside0.mk ((by rw [hg]; exact (below_size (hB0 HB.out)) : w.heap.size ≤ gb101)); have n3_ := Aside0.mk ((by rw [hg]; exact (below_size (hB0 HB.out)) : w.heap.size ≤ gb101)); clear HB; have HB := n0_; have BK101 := n1_; have GW101 := n2_; have GE101 := n3_; clear n0_ n1_ n2_ n3_; clear hb hbox hg; obtain ⟨hcz7_0, hcz7_1, hcz7_2, hfz7_0, hfz7_1, hfz7_2⟩ := cz3 BK101.out))
    go_ret
    exact ⟨eW, hB1 HB.out GE101.out⟩
   ·rw [if_neg c5] at H
    have c5b0 : decide (8 < a0_0) = false := decide_eq_false c5
    clear c5
    by_cases c8 : a0_1 < 1
    ·rw [if_pos c8] at H
     have c8b0 : decide (a0_1 < 1) = true := decide_eq_true c8
     clear c8
     obtain rfl := Option.some.inj H
     go_enter Try.func112, Try.ntmps112
     go_wp2_with (first | ((with_reducible refine gate_dst (N := 1) rfl ?_); refine box_event ?hg (N := 1) ?hd (cs := #[.int .i64 a0_0, .int .i64 a0_1, .int .i64 a0_2]) (t := 26) ?hr ?_; (case hd => rfl); (case hg => rfl); (case hr => first | (go_simp; done) | (go_simp; rfl)); intro gb101 hg w9 hbox hb; have n0_ := Aside0.mk (below_step (hB0 HB.out) hb); have n1_ := Aside0.mk (hbox); have n2_ := Aside0.mk ((by rw [hg]; exact (below_size (hB0 HB.out)) : w.heap.size ≤ gb101)); have n3_ := Aside0.mk ((by rw [hg]; exact (below_size (hB0 HB.out)) : w.heap.size ≤ gb101)); clear HB; have HB := n0_; have BK101 := n1_; have GW101 := n2_; have GE101 := n3_; clear n0_ n1_ n2_ n3_; clear hb hbox hg; obtain ⟨hcz10_0, hcz10_1, hcz10_2, hfz10_0, hfz10_1, hfz10_2⟩ := cz3 BK101.out))
     go_ret
     exact ⟨eW, hB1 HB.out GE101.out⟩
    ·rw [if_neg c8] at H
     have c8b0 : decide (a0_1 < 1) = false := decide_eq_false c8
     clear c8
     by_cases c11 : a0_1 > 4
     ·rw [if_pos c11] at H
      have c11b0 : decide (4 < a0_1) = true := decide_eq_true c11
      clear c11
      obtain rfl := Option.some.inj H
      go_enter Try.func112, Try.ntmps112
      go_wp2_with (first | ((with_reducible refine gate_dst (N := 1) rfl ?_); refine box_event ?hg (N := 1) ?hd (cs := #[.int .i64 a0_0, .int .i64 a0_1, .int .i64 a0_2]) (t := 26) ?hr ?_; (case hd => rfl); (case hg => rfl); (case hr => first | (go_simp; done) | (go_simp; rfl)); intro gb101 hg w12 hbox hb; have n0_ := Aside0.mk (below_step (hB0 HB.out) hb); have n1_ := Aside0.mk (hbox); have n2_ := Aside0.mk ((by rw [hg]; exact (below_size (hB0 HB.out)) : w.heap.size ≤ gb101)); have n3_ := Aside0.mk ((by rw [hg]; exact (below_size (hB0 HB.out)) : w.heap.size ≤ gb101)); clear HB; have HB := n0_; have BK101 := n1_; have GW101 := n2_; have GE101 := n3_; clear n0_ n1_ n2_ n3_; clear hb hbox hg; obtain ⟨hcz13_0, hcz13_1, hcz13_2, hfz13_0, hfz13_1, hfz13_2⟩ := cz3 BK101.out))
      go_ret
      exact ⟨eW, hB1 HB.out GE101.out⟩
     ·rw [if_neg c11] at H
      have c11b0 : decide (4 < a0_1) = false := decide_eq_false c11
      clear c11
      by_cases c14 : a0_2 < 1
      ·rw [if_pos c14] at H
       have c14b0 : decide (a0_2 < 1) = true := decide_eq_true c14
       clear c14
       obtain rfl := Option.some.inj H
       go_enter Try.func112, Try.ntmps112
       go_wp2_with (first | ((with_reducible refine gate_dst (N := 1) rfl ?_); refine box_event ?hg (N := 1) ?hd (cs := #[.int .i64 a0_0, .int .i64 a0_1, .int .i64 a0_2]) (t := 26) ?hr ?_; (case hd => rfl); (case hg => rfl); (case hr => first | (go_simp; done) | (go_simp; rfl)); intro gb101 hg w15 hbox hb; have n0_ := Aside0.mk (below_step (hB0 HB.out) hb); have n1_ := Aside0.mk (hbox); have n2_ := Aside0.mk ((by rw [hg]; exact (below_size (hB0 HB.out)) : w.heap.size ≤ gb101)); have n3_ := Aside0.mk ((by rw [hg]; exact (below_size (hB0 HB.out)) : w.heap.size ≤ gb101)); clear HB; have HB := n0_; have BK101 := n1_; have GW101 := n2_; have GE101 := n3_; clear n0_ n1_ n2_ n3_; clear hb hbox hg; obtain ⟨hcz16_0, hcz16_1, hcz16_2, hfz16_0, hfz16_1, hfz16_2⟩ := cz3 BK101.out))
       go_ret
       exact ⟨eW, hB1 HB.out GE101.out⟩
      ·rw [if_neg c14] at H
       have c14b0 : decide (a0_2 < 1) = false := decide_eq_false c14
       clear c14
       by_cases c17 : a0_2 > 8
       ·rw [if_pos c17] at H
        have c17b0 : decide (8 < a0_2) = true := decide_eq_true c17
        clear c17
        obtain rfl := Option.some.inj H
        go_enter Try.func112, Try.ntmps112
        go_wp2_with (first | ((with_reducible refine gate_dst (N := 1) rfl ?_); refine box_event ?hg (N := 1) ?hd (cs := #[.int .i64 a0_0, .int .i64 a0_1, .int .i64 a0_2]) (t := 26) ?hr ?_; (case hd => rfl); (case hg => rfl); (case hr => first | (go_simp; done) | (go_simp; rfl)); intro gb101 hg w18 hbox hb; have n0_ := Aside0.mk (below_step (hB0 HB.out) hb); have n1_ := Aside0.mk (hbox); have n2_ := Aside0.mk ((by rw [hg]; exact (below_size (hB0 HB.out)) : w.heap.size ≤ gb101)); have n3_ := Aside0.mk ((by rw [hg]; exact (below_size (hB0 HB.out)) : w.heap.size ≤ gb101)); clear HB; have HB := n0_; have BK101 := n1_; have GW101 := n2_; have GE101 := n3_; clear n0_ n1_ n2_ n3_; clear hb hbox hg; obtain ⟨hcz19_0, hcz19_1, hcz19_2, hfz19_0, hfz19_1, hfz19_2⟩ := cz3 BK101.out))
        go_ret
        exact ⟨eW, hB1 HB.out GE101.out⟩
       ·rw [if_neg c17] at H
        have c17b0 : decide (8 < a0_2) = false := decide_eq_false c17
        clear c17
        obtain rfl := Option.some.inj H
        go_enter Try.func112, Try.ntmps112
        go_wp2_with (first | ((with_reducible refine gate_dst (N := 1) rfl ?_); refine box_event ?hg (N := 1) ?hd (cs := #[.int .i64 a0_0, .int .i64 a0_1, .int .i64 a0_2]) (t := 26) ?hr ?_; (case hd => rfl); (case hg => rfl); (case hr => first | (go_simp; done) | (go_simp; rfl)); intro gb101 hg w20 hbox hb; have n0_ := Aside0.mk (below_step (hB0 HB.out) hb); have n1_ := Aside0.mk (hbox); have n2_ := Aside0.mk ((by rw [hg]; exact (below_size (hB0 HB.out)) : w.heap.size ≤ gb101)); have n3_ := Aside0.mk ((by rw [hg]; exact (below_size (hB0 HB.out)) : w.heap.size ≤ gb101)); clear HB; have HB := n0_; have BK101 := n1_; have GW101 := n2_; have GE101 := n3_; clear n0_ n1_ n2_ n3_; clear hb hbox hg; obtain ⟨hcz21_0, hcz21_1, hcz21_2, hfz21_0, hfz21_1, hfz21_2⟩ := cz3 BK101.out))
        go_ret
        exact ⟨eW, hB1 HB.out GE101.out⟩
mutual
def timeboundref22_Empty.l0 : Nat → Int → Int → Int → Int → List (List Int) → Option ((List (List Int)))
  | 0, _, _, _, _, _ => none
  | k + 1, x4, x102000, x102001, x102002, x104000 => if x4 < x102000 then ((timeboundref22_Check.f x102000 x102001 x102002).bind fun t104 => (timeboundref22_Empty.j1 k x4 (t104 == 0) x102000 x102001 x102002 x104000)) else (timeboundref22_Empty.j1 k x4 false x102000 x102001 x102002 x104000)
def timeboundref22_Empty.j1 : Nat → Int → Bool → Int → Int → Int → List (List Int) → Option ((List (List Int)))
  | 0, _, _, _, _, _, _ => none
  | k + 1, x4, x15, x102000, x102001, x102002, x104000 => if x15 = true then (timeboundref22_Empty.l1 k x4 ([] : List Int) 0 x102000 x102001 x102002 x104000) else (some x104000)
def timeboundref22_Empty.l1 : Nat → Int → List Int → Int → Int → Int → Int → List (List Int) → Option ((List (List Int)))
  | 0, _, _, _, _, _, _, _ => none
  | k + 1, x4, x5, x6, x102000, x102001, x102002, x104000 => if x6 < x102001 then (if x5.length < 17592186044416 then (timeboundref22_Empty.l1 k x4 (x5 ++ [(-1)]) (wrap64 (x6 + 1)) x102000 x102001 x102002 x104000) else (none)) else (if x104000.length < 5864062014805 then (timeboundref22_Empty.l0 k (wrap64 (x4 + 1)) x102000 x102001 x102002 (x104000 ++ [x5])) else (none))
end
def timeboundref22_Empty.f (k : Nat) (a0_0 : Int) (a0_1 : Int) (a0_2 : Int) : Option ((List (List Int))) := timeboundref22_Empty.l0 k 0 a0_0 a0_1 a0_2 ([] : List (List Int))
set_option maxHeartbeats 80000000 in
set_option maxRecDepth 100000 in
theorem timeboundref22_Empty.calls (k : Nat) (a0_0 : Int) (a0_1 : Int) (a0_2 : Int) (r : List (List Int)) (w : World) (h : timeboundref22_Empty.f k a0_0 a0_1 a0_2 = some r) :
   Calls Try.prog 104 #[.agg #[.int .i64 a0_0, .int .i64 a0_1, .int .i64 a0_2]] w fun e w' => ∃ v0_ : Value, e = .returned (.agg #[v0_]) ∧ Kd.S (Kd.slice 3 (Kd.int .i64)) 22 w' w.heap.size (fun _ => True) v0_ r ∧ Below w.heap.size w w' := by
  have hu26 := Try.underlying26
  have hu54 := Try.underlying54
  have HB := Aside0.mk (Below.refl w.heap.size w)
  have H : (timeboundref22_Empty.l0 k 0 a0_0 a0_1 a0_2 ([] : List (List Int))) = some r := h
  clear h
  have H' := Aside0.mk H
  clear H
  go_enter Try.func104, Try.ntmps104
  go_wp2_with (first | ((with_reducible refine gate_dst (N := 1) rfl ?_); refine box_event ?hg (N := 1) ?hd (cs := #[.int .i64 a0_0, .int .i64 a0_1, .int .i64 a0_2]) (t := 26) ?hr ?_; (case hd => rfl); (case hg => rfl); (case hr => first | (go_simp; done) | (go_simp; rfl)); intro gb101 hg w2 hbox hb; have n0_ := Aside0.mk (below_step (hB0 HB.out) hb); have n1_ := Aside0.mk (hbox); have n2_ := Aside0.mk ((by rw [hg]; exact (below_size (hB0 HB.out)) : w.heap.size ≤ gb101)); have n3_ := Aside0.mk ((by rw [hg]; exact (below_size (hB0 HB.out)) : w.heap.size ≤ gb101)); clear HB; have HB := n0_; have BK101 := n1_; have GW101 := n2_; have GE101 := n3_; clear n0_ n1_ n2_ n3_; clear hb hbox hg) | ((with_reducible refine gate_dst (N := 2) rfl ?_); refine box_event ?hg (N := 2) ?hd (cs := #[.slice none 0 0]) (t := 54) ?hr ?_; (case hd => rfl); (case hg => rfl); (case hr => first | (go_simp; done) | (go_simp; rfl)); intro gb102 hg w3 hbox hb; have n0_ := Aside0.mk (blk_below (g := gb101) (bK BK101.out) hb); have n1_ := Aside0.mk (below_step (hB1 HB.out GE101.out) hb); have n2_ := Aside0.mk (hbox); have n3_ := Aside0.mk ((by rw [hg]; exact (below_size (hB1 HB.out GE101.out)) : w.heap.size ≤ gb102)); have n4_ := Aside0.mk ((by rw [hg]; exact (below_size (hB1 HB.out GE101.out)) : w.heap.size ≤ gb102)); have n5_ := Aside0.mk ((by rw [hg]; exact Nat.ne_of_lt (blk_lt (g := gb101) (bK BK101.out)) : gb101 ≠ gb102)); have n6_ := Aside0.mk ((by rw [hg]; exact Nat.ne_of_gt (blk_lt (g := gb101) (bK BK101.out)) : gb102 ≠ gb101)); clear BK101 HB; have BK101 := n0_; have HB := n1_; have BK102 := n2_; have GW102 := n3_; have GE102 := n4_; have NB101_102 := n5_; have NB102_101 := n6_; clear n0_ n1_ n2_ n3_ n4_ n5_ n6_; clear hb hbox hg) | ((with_reducible refine gate_dst (N := 3) rfl ?_); refine box_event ?hg (N := 3) ?hd (cs := #[.slice none 0 0]) (t := 54) ?hr ?_; (case hd => rfl); (case hg => rfl); (case hr => first | (go_simp; done) | (go_simp; rfl)); intro gb103 hg w4 hbox hb; have n0_ := Aside0.mk (blk_below (g := gb101) (bK BK101.out) hb); have n1_ := Aside0.mk (blk_below (g := gb102) (bK BK102.out) hb); have n2_ := Aside0.mk (below_step (hB2 HB.out GE101.out GE102.out) hb); have n3_ := Aside0.mk (hbox); have n4_ := Aside0.mk ((by rw [hg]; exact (below_size (hB2 HB.out GE101.out GE102.out)) : w.heap.size ≤ gb103)); have n5_ := Aside0.mk ((by rw [hg]; exact (below_size (hB2 HB.out GE101.out GE102.out)) : w.heap.size ≤ gb103)); have n6_ := Aside0.mk ((by rw [hg]; exact Nat.ne_of_lt (blk_lt (g := gb101) (bK BK101.out)) : gb101 ≠ gb103)); have n7_ := Aside0.mk ((by rw [hg]; exact Nat.ne_of_gt (blk_lt (g := gb101) (bK BK101.out)) : gb103 ≠ gb101)); have n8_ := Aside0.mk ((by rw [hg]; exact Nat.ne_of_lt (blk_lt (g := gb102) (bK BK102.out)) : gb102 ≠ gb103)); have n9_ := Aside0.mk ((by rw [hg]; exact Nat.ne_of_gt (blk_lt (g := gb102) (bK BK102.out)) : gb103 ≠ gb102)); clear BK101 BK102 HB; have BK101 := n0_; have BK102 := n1_; have HB := n2_; have BK103 := n3_; have GW103 := n4_; have GE103 := n5_; have NB101_103 := n6_; have NB103_101 := n7_; have NB102_103 := n8_; have NB103_102 := n9_; clear n0_ n1_ n2_ n3_ n4_ n5_ n6_ n7_ n8_ n9_; clear hb hbox hg))
  (try simp only [Act.put, List.setIfInBounds_toArray, List.set_cons_zero, List.set_cons_succ])
  go_loopg [4] k (fun kq v4 w' => ∃ (x4_1 : Int) (x104000_1 : List (List Int)) (u104000 : Value), v4 = .int .i64 x4_1 ∧ Aside0 (timeboundref22_Empty.l0 kq x4_1 a0_0 a0_1 a0_2 x104000_1 = some r) ∧ Aside0 (kq ≤ k) ∧ Aside0 (Kd.S (Kd.slice 3 (Kd.int .i64)) 22 w' w.heap.size (fun _ => True) u104000 x104000_1) ∧ Aside0 (w'.heap[gb101]? = some (.cells #[.int .i64 a0_0, .int .i64 a0_1, .int .i64 a0_2] 26 (0, 0))) ∧ Aside0 (w'.heap[gb102]? = some (.cells #[(.slice none 0 0)] 54 (0, 0))) ∧ Aside0 (w'.heap[gb103]? = some (.cells #[u104000] 54 (0, 0))) ∧ Aside0 (Below w.heap.size w w'))
  case atStart => exact ⟨(0), (([] : List (List Int))), (.slice none 0 0), rS, H', ⟨Nat.le_refl _⟩, ⟨by first | exact Kd.S_nil _ _ _ _ _ | exact Kd.N_nil _ _ _ _ _ | exact Kd.V_nil _ _ _ _ _ | exact Kd.Q_nil _ _ _ _ _ | exact Kd.R_nil _ _ _ _ _⟩, ⟨bK BK101.out⟩, ⟨bK BK102.out⟩, ⟨bK BK103.out⟩, ⟨hB3 HB.out GE101.out GE102.out GE103.out⟩⟩
  case round =>
   clear H'
   obtain ⟨x4_1, x104000_1, u104000, rfl, HA, HK1, HO_104000, BK101, BK102, BK103, HB⟩ := hrel
   cases gk with
   | zero => exact absurd HA.out (by simp [timeboundref22_Empty.l0])
   | succ k1 =>
    have H := HA.out
    clear HA
    simp only [timeboundref22_Empty.l0] at H
    have HC5 := Aside0.mk H
    clear H
    go_upto_region 3 with (fail)
    go_cut [15] (fun v15 wc => ∃ (kq : Nat) (x15_4 : Bool), v15 = .bool x15_4 ∧ Aside0 (timeboundref22_Empty.j1 kq x4_1 x15_4 a0_0 a0_1 a0_2 x104000_1 = some r) ∧ Aside0 (kq ≤ k1) ∧ Aside0 (Kd.S (Kd.slice 3 (Kd.int .i64)) 22 wc w.heap.size (fun _ => True) u104000 x104000_1) ∧ Aside0 (wc.heap[gb101]? = some (.cells #[.int .i64 a0_0, .int .i64 a0_1, .int .i64 a0_2] 26 (0, 0))) ∧ Aside0 (wc.heap[gb102]? = some (.cells #[(.slice none 0 0)] 54 (0, 0))) ∧ Aside0 (wc.heap[gb103]? = some (.cells #[u104000] 54 (0, 0))) ∧ Aside0 (Below w.heap.size w wc))
    case first =>
     have H := HC5.out
     clear HC5
     by_cases c6 : x4_1 < a0_0
     ·rw [if_pos c6] at H
      have c6b0 : decide (x4_1 < a0_0) = true := decide_eq_true c6
      clear c6
      (first | rw [c6b0] | (simp only [i64_w, i32_w]; rw [c6b0]) | skip)
      replace H := Option.bind_eq_some_iff.mp H
      obtain ⟨t104, A70, H⟩ := H
      replace H : (timeboundref22_Empty.j1 k1 x4_1 (t104 == 0) a0_0 a0_1 a0_2 x104000_1) = some r := H
      have A7 := Aside0.mk A70
      clear A70
      have H' := Aside0.mk H
      clear H
      have hnb8 := NB101_102.out
      have hnc8 := NB102_101.out
      have hnb9 := NB101_103.out
      have hnc9 := NB103_101.out
      obtain ⟨hcz10_0, hcz10_1, hcz10_2, hfz10_0, hfz10_1, hfz10_2⟩ := cz3 BK101.out
      go_wp2_with (first | (go_at_call 112; (with_reducible refine (timeboundref22_Check.calls a0_0 a0_1 a0_2 t104 _ A7.out).mono ?_); rintro e w11 ⟨rfl, hb⟩; have n0_ := Aside0.mk (Kd.S_below (sK HO_104000.out) hb); have n1_ := Aside0.mk (blk_below (g := gb101) (bK BK101.out) hb); have n2_ := Aside0.mk (blk_below (g := gb102) (bK BK102.out) hb); have n3_ := Aside0.mk (blk_below (g := gb103) (bK BK103.out) hb); have n4_ := Aside0.mk (below_step (hB3 HB.out GE101.out GE102.out GE103.out) hb); clear HO_104000 BK101 BK102 BK103 HB; have HO_104000 := n0_; have BK101 := n1_; have BK102 := n2_; have BK103 := n3_; have HB := n4_; clear n0_ n1_ n2_ n3_ n4_; (try clear hb)))
      go_meet
      case rel => exact ⟨_, ((t104 == 0)), rS, H', ⟨by have := HK1.out; first | omega | exact Nat.le_refl _⟩, ⟨sK HO_104000.out⟩, ⟨bK BK101.out⟩, ⟨bK BK102.out⟩, ⟨bK BK103.out⟩, ⟨hB3 HB.out GE101.out GE102.out GE103.out⟩⟩
     ·rw [if_neg c6] at H
      have c6b0 : decide (x4_1 < a0_0) = false := decide_eq_false c6
      clear c6
      (first | rw [c6b0] | (simp only [i64_w, i32_w]; rw [c6b0]) | skip)
      have H' := Aside0.mk H
      clear H
      have hnb12 := NB101_102.out
      have hnc12 := NB102_101.out
      have hnb13 := NB101_103.out
      have hnc13 := NB103_101.out
      obtain ⟨hcz14_0, hcz14_1, hcz14_2, hfz14_0, hfz14_1, hfz14_2⟩ := cz3 BK101.out
      go_wp2
      go_meet
      case rel => exact ⟨_, (false), rS, H', ⟨by have := HK1.out; first | omega | exact Nat.le_refl _⟩, ⟨sK HO_104000.out⟩, ⟨bK BK101.out⟩, ⟨bK BK102.out⟩, ⟨bK BK103.out⟩, ⟨hB3 HB.out GE101.out GE102.out GE103.out⟩⟩
    case rest =>
     clear HC5
     obtain ⟨kq, x15_4, rfl, HA, HJ4, HO_104000, BK101, BK102, BK103, HB⟩ := hcut
     cases kq with
     | zero => exact absurd HA.out (by simp [timeboundref22_Empty.j1])
     | succ kj4 =>
      have H := HA.out
      clear HA
      simp only [timeboundref22_Empty.j1] at H
      by_cases c15 : x15_4 = true
      ·subst c15
       have H1 : (timeboundref22_Empty.l1 kj4 x4_1 ([] : List Int) 0 a0_0 a0_1 a0_2 x104000_1) = some r := by rw [if_pos rfl] at H; exact H
       clear H
       have H := H1
       clear H1
       have H' := Aside0.mk H
       clear H
       go_wp2
       go_loopg [5, 6] kj4 (fun kq v5 v6 w' => ∃ (x5_3 : List Int) (x6_3 : Int), v6 = .int .i64 x6_3 ∧ Aside0 (timeboundref22_Empty.l1 kq x4_1 x5_3 x6_3 a0_0 a0_1 a0_2 x104000_1 = some r) ∧ Aside0 (kq ≤ kj4) ∧ Aside0 (Kd.R (Kd.int .i64) 3 w' w.heap.size (fun _ => True) v5 x5_3) ∧ Aside0 (Kd.S (Kd.slice 3 (Kd.int .i64)) 22 w' w.heap.size (fun k_ => some k_ ≠ (v5 : Value).ownBlock) u104000 x104000_1) ∧ Aside0 (w'.heap[gb101]? = some (.cells #[.int .i64 a0_0, .int .i64 a0_1, .int .i64 a0_2] 26 (0, 0))) ∧ Aside0 (w'.heap[gb102]? = some (.cells #[(.slice none 0 0)] 54 (0, 0))) ∧ Aside0 (w'.heap[gb103]? = some (.cells #[u104000] 54 (0, 0))) ∧ Aside0 (Below w.heap.size w w'))
       case atStart => exact ⟨(([] : List Int)), (0), rS, H', ⟨Nat.le_refl _⟩, ⟨by first | exact Kd.R_nil _ _ _ _ _ | exact Kd.N_nil _ _ _ _ _ | exact Kd.V_nil _ _ _ _ _ | exact Kd.Q_nil _ _ _ _ _ | exact Kd.S_nil _ _ _ _ _⟩, ⟨by (with_reducible repeat (first | apply Kd.S_alloc | apply Kd.S_drewN | apply Kd.S_drew)); exact Kd.S_mono HO_104000.out (fun _ hk => (by simp [Value.ownBlock]))⟩, ⟨bK BK101.out⟩, ⟨bK BK102.out⟩, ⟨bK BK103.out⟩, ⟨hB3 HB.out GE101.out GE102.out GE103.out⟩⟩
       case round =>
        clear H'
        try clear c15
        obtain ⟨x5_3, x6_3, rfl, HA, HK3, HO_5, HO_104000, BK101, BK102, BK103, HB⟩ := hrel
        cases gk with
        | zero => exact absurd HA.out (by simp [timeboundref22_Empty.l1])
        | succ k3 =>
         have H := HA.out
         clear HA
         simp only [timeboundref22_Empty.l1] at H
         by_cases c16 : x6_3 < a0_1
         ·rw [if_pos c16] at H
          have c16b0 : decide (x6_3 < a0_1) = true := decide_eq_true c16
          clear c16
          by_cases c17 : x5_3.length < 17592186044416
          ·rw [if_pos c17] at H
           have LMc17 := Aside0.mk c17
           clear c17
           obtain ⟨y105, hy105⟩ : ∃ y_ : List Int, y_ = (x5_3 ++ [(-1)]) := ⟨_, rfl⟩
           replace H : (timeboundref22_Empty.l1 k3 x4_1 y105 (wrap64 (x6_3 + 1)) a0_0 a0_1 a0_2 x104000_1) = some r := by first | (rw [hy105]; with_reducible exact H) | (have H2_ := (Option.bind_some _ _).symm.trans H; rw [hy105]; with_reducible exact H2_) | (have H2_ := (Option.bind_some _ _).symm.trans H; with_reducible exact H2_) | with_reducible exact H | (rw [hy105]; exact H) | exact H
           have Ny105 := Aside0.mk hy105
           clear hy105
           have H' := Aside0.mk H
           clear H
           have hnb18 := NB101_102.out
           have hnc18 := NB102_101.out
           have hnb19 := NB101_103.out
           have hnc19 := NB103_101.out
           obtain ⟨hcz20_0, hcz20_1, hcz20_2, hfz20_0, hfz20_1, hfz20_2⟩ := cz3 BK101.out
           go_wp2_with (first | ((with_reducible refine gate_builtin (b := .append) (xs := #[.tmp 24, .tmp 25]) rfl ?_); at_builtin; refine Kd.R_append (Kd.int .i64) (w0 := w) w.heap.size rfl (.tmp 24) (.tmp 25) 22 3 (.int .i64 0) 8 rfl Try.underlying22 info3 rfl (by decide) (by omega) u5 x5_3 (-1) [.int .i64 (-1)] (fun _ => True) (fun _ => False) rfl rfl ?aP (fun _ hk => hk.elim) ?aF ?aO ?aB ?aS ?aL ?_; (case aP => exact rfl); (case aB => exact (hB3 HB.out GE101.out GE102.out GE103.out)); (case aF => exact (fun _ _ => trivial)); (case aO => exact (rK HO_5.out)); (case aS => exact (below_size (hB3 HB.out GE101.out GE102.out GE103.out))); (case aL => have := LMc17.out; omega); intro v106 w21 ho hb hg hat; rw [← Ny105.out] at ho; have n0_ := Aside0.mk (Kd.S_after (ok := (fun _ => True)) (by (with_reducible repeat (first | apply Kd.S_alloc | apply Kd.S_drewN | apply Kd.S_drew)); exact Kd.S_mono HO_104000.out (fun _ hk => ⟨trivial, hk⟩)) hg hat); have n1_ := Aside0.mk (blk_grown (g := gb101) (bK BK101.out) hg (Kd.R_ne HO_5.out BK101.out (by decide))); have n2_ := Aside0.mk (blk_grown (g := gb102) (bK BK102.out) hg (Kd.R_ne HO_5.out BK102.out (by decide))); have n3_ := Aside0.mk (blk_grown (g := gb103) (bK BK103.out) hg (Kd.R_ne HO_5.out BK103.out (by decide))); have n4_ := Aside0.mk (hb); have n5_ := Aside0.mk (ho); clear HO_104000 BK101 BK102 BK103 HB HO_5; have HO_104000 := n0_; have BK101 := n1_; have BK102 := n2_; have BK103 := n3_; have HB := n4_; have HO107 := n5_; clear n0_ n1_ n2_ n3_ n4_ n5_; clear ho hb hg hat))
           go_roundg k3
           case measure => have := HK1.out; have := HJ4.out; have := HK3.out; omega
           case rel => exact ⟨(y105), (wrap64 (x6_3 + 1)), rS, H', ⟨by have := HK1.out; have := HJ4.out; have := HK3.out; omega⟩, ⟨rK HO107.out⟩, ⟨by (with_reducible repeat (first | apply Kd.S_alloc | apply Kd.S_drewN | apply Kd.S_drew)); exact Kd.S_mono HO_104000.out (fun _ hk => hk.2)⟩, ⟨bK BK101.out⟩, ⟨bK BK102.out⟩, ⟨bK BK103.out⟩, ⟨hB3 HB.out GE101.out GE102.out GE103.out⟩⟩
          ·rw [if_neg c17] at H
           exact absurd H (by simp)
         ·rw [if_neg c16] at H
          have c16b0 : decide (x6_3 < a0_1) = false := decide_eq_false c16
          clear c16
          by_cases c22 : x104000_1.length < 5864062014805
          ·rw [if_pos c22] at H
           have LMc22 := Aside0.mk c22
           clear c22
           obtain ⟨y108, hy108⟩ : ∃ y_ : List (List Int), y_ = (x104000_1 ++ [x5_3]) := ⟨_, rfl⟩
           replace H : (timeboundref22_Empty.l0 k3 (wrap64 (x4_1 + 1)) a0_0 a0_1 a0_2 y108) = some r := by first | (rw [hy108]; with_reducible exact H) | (have H2_ := (Option.bind_some _ _).symm.trans H; rw [hy108]; with_reducible exact H2_) | (have H2_ := (Option.bind_some _ _).symm.trans H; with_reducible exact H2_) | with_reducible exact H | (rw [hy108]; exact H) | exact H
           have Ny108 := Aside0.mk hy108
           clear hy108
           have H' := Aside0.mk H
           clear H
           have hnb23 := NB101_102.out
           have hnc23 := NB102_101.out
           have hnb24 := NB101_103.out
           have hnc24 := NB103_101.out
           obtain ⟨hcz25_0, hcz25_1, hcz25_2, hfz25_0, hfz25_1, hfz25_2⟩ := cz3 BK101.out
           have hnb26 := NB103_102.out
           have hnc26 := NB102_103.out
           obtain ⟨hcz27_0, hfz27_0⟩ := cz1 BK103.out
           obtain ⟨Ao29, co29, eo29⟩ := Kd.R_slice HO_5.out
           subst eo29
           go_wp2_with (first | ((with_reducible refine gate_builtin (b := .append) (xs := #[.tmp 28, .tmp 30]) rfl ?_); at_builtin; refine Kd.S_append (Kd.slice 3 (Kd.int .i64)) (w0 := w) w.heap.size rfl (.tmp 28) (.tmp 30) 43 22 (.slice none 0 0) 24 rfl Try.underlying43 info22 rfl (by decide) (by omega) u104000 x104000_1 x5_3 [.slice Ao29 x5_3.length co29] (fun _ => True) (fun k_ => some k_ = (.slice Ao29 x5_3.length co29 : Value).ownBlock) rfl rfl ?aP (fun k_ hk_ => ((Kd.R_mono (ok' := fun k_ => ((fun _ => True)) k_ ∧ some k_ ≠ (u104000 : Value).ownBlock) (Kd.R_apart' (HO_5.out) (Kd.S_typed HO_104000.out) (by decide)) (fun k_ hk => ⟨trivial, hk.2⟩))).1 k_ hk_.symm) ?aF ?aO ?aB ?aS ?aL ?_; (case aP => exact Kd.M_row (Kd.R_mono (Kd.R_tight rfl (Kd.R_mono (ok' := fun k_ => ((fun _ => True)) k_ ∧ some k_ ≠ (u104000 : Value).ownBlock) (Kd.R_apart' (HO_5.out) (Kd.S_typed HO_104000.out) (by decide)) (fun k_ hk => ⟨trivial, hk.2⟩))) (fun _ h_ => h_))); (case aB => exact (hB3 HB.out GE101.out GE102.out GE103.out)); (case aF => exact (fun _ _ => trivial)); (case aO => exact (by (with_reducible repeat (first | apply Kd.S_alloc | apply Kd.S_drewN | apply Kd.S_drew)); exact Kd.S_mono HO_104000.out (fun k_ hk => ⟨trivial, fun e_ => hk e_⟩))); (case aS => exact (below_size (hB3 HB.out GE101.out GE102.out GE103.out))); (case aL => have := LMc22.out; omega); intro v109 w28 ho hb hg hat; rw [← Ny108.out] at ho; have n0_ := Aside0.mk (blk_grown (g := gb101) (bK BK101.out) hg (Kd.S_ne HO_104000.out BK101.out (by decide))); have n1_ := Aside0.mk (blk_grown (g := gb102) (bK BK102.out) hg (Kd.S_ne HO_104000.out BK102.out (by decide))); have n2_ := Aside0.mk (blk_grown (g := gb103) (bK BK103.out) hg (Kd.S_ne HO_104000.out BK103.out (by decide))); have n3_ := Aside0.mk (hb); have n4_ := Aside0.mk (ho); clear BK101 BK102 BK103 HB HO_104000 HO_5; have BK101 := n0_; have BK102 := n1_; have BK103 := n2_; have HB := n3_; have HO110 := n4_; clear n0_ n1_ n2_ n3_ n4_; clear ho hb hg hat; obtain ⟨Ao30, co30, eo30⟩ := Kd.S_slice HO110.out; subst eo30; obtain ⟨hcz31_0, hfz31_0⟩ := cz1 BK103.out))
           go_roundg k3
           case measure => have := HK1.out; have := HJ4.out; have := HK3.out; omega
           case rel => exact ⟨(wrap64 (x4_1 + 1)), (y108), (.slice Ao30 y108.length co30), rS, H', ⟨by have := HK1.out; have := HJ4.out; have := HK3.out; omega⟩, ⟨by (with_reducible repeat (first | apply Kd.S_alloc | apply Kd.S_drewN | apply Kd.S_drew)); exact Kd.S_mono (Kd.S_far (p := ⟨gb103, 0, none⟩) (Kd.S_types HO110.out BK103.out (by decide)) (fun _ hk => hk.2) (.slice Ao30 y108.length co30)) (fun _ hk => trivial)⟩, ⟨bP1 BK101.out NB101_103.out⟩, ⟨bP1 BK102.out NB102_103.out⟩, ⟨bP0 BK103.out⟩, ⟨hB3 HB.out GE101.out GE102.out GE103.out⟩⟩
          ·rw [if_neg c22] at H
           exact absurd H (by simp)
      ·replace c15 := Bool.eq_false_iff.mpr c15
       subst c15
       have H1 : (some x104000_1) = some r := by rw [if_neg (show ¬ (false = true) by decide)] at H; exact H
       clear H
       have H := H1
       clear H1
       obtain rfl := Option.some.inj H
       have hnb32 := NB103_101.out
       have hnc32 := NB101_103.out
       have hnb33 := NB103_102.out
       have hnc33 := NB102_103.out
       obtain ⟨hcz34_0, hfz34_0⟩ := cz1 BK103.out
       obtain ⟨Ao35, co35, eo35⟩ := Kd.S_slice HO_104000.out
       subst eo35
       have hnb36 := NB102_101.out
       have hnc36 := NB101_102.out
       obtain ⟨hcz37_0, hfz37_0⟩ := cz1 BK102.out
       go_wp2
       refine bodyPost_ret (results_cell_row rfl _ _ gb102 54 #[.slice Ao35 x104000_1.length co35] (0, 0) _ rfl (bP0 BK102.out) Try.underlying54 rfl (by kernel_rfl)) rfl ?_
       exact ⟨_, by first | rfl | (simp [errW_none, errW_some] <;> rfl) | (simp [*, errW_none, errW_some] <;> rfl), by (with_reducible repeat (first | apply Kd.S_alloc | apply Kd.S_drewN | apply Kd.S_drew)); exact Kd.S_mono (Kd.S_far (p := ⟨gb102, 0, none⟩) (Kd.S_types HO_104000.out BK102.out (by decide)) (fun _ hk => hk.2) (.slice Ao35 x104000_1.length co35)) (fun _ hk => trivial), hB3 HB.out GE101.out GE102.out GE103.out⟩
end Go.Proofs.Ytkgocbmnjlfkoaa.X
end
section
namespace Go.Proofs.Ytkgocbmnjlfkoaa.M
open Go.RowKit Go.Proofs.Ytkgocbmnjlfkoaa.X Go.Proofs.YtkgocbmnjlfkoaaW.PrintWords Go.Proofs.YtkgocbmnjlfkoaaW.PrintLast Go.Proofs.YtkgocbmnjlfkoaaW.PrintMore
set_option linter.unusedVariables false
set_option linter.unusedSimpArgs false
structure Deck (xs : List Int) (s : Int) : Prop where
  len : xs.length ≤ 17592186044416
  lo : 0 ≤ s
  hi : s ≤ xs.length
theorem mod_ (a n : Int) (h : 1 ≤ n) (h2 : n ≤ 1048577) : ∃ v, timeboundmake_Mod.f a n = some v ∧ 0 ≤ v ∧ v < n := by
  have h1 := Int.lt_tmod_of_pos a (b := n) (by omega)
  have h3 := Int.tmod_lt_of_pos a (b := n) (by omega)
  unfold timeboundmake_Mod.f
  rw [if_neg (by omega), w64 (by omega) (by omega)]
  exact ⟨_, rfl, Int.tmod_nonneg _ (by omega), Int.tmod_lt_of_pos _ (by omega)⟩
theorem next_ {xs : List Int} {s : Int} (h : Deck xs s) (n : Int) (h1 : n ≤ 1048577) : ∃ v s', timeboundmake_Deck_Next.f xs s n = some (v, s') ∧ 0 ≤ v ∧ (1 ≤ n → v < n) ∧ (n < 1 → v = 0) ∧ Deck xs s' := by
  obtain ⟨a, b, c⟩ := h
  unfold timeboundmake_Deck_Next.f
  by_cases h3 : s ≥ (xs.length : Int)
  · rw [if_pos h3]
    exact ⟨0, s, rfl, by omega, by omega, fun _ => rfl, a, b, c⟩
  · rw [if_neg h3]
    by_cases h4 : n ≤ 1
    · rw [if_pos h4]
      exact ⟨0, s, rfl, by omega, by omega, fun _ => rfl, a, b, c⟩
    · rw [if_neg h4, w64 (n := s + 1) (by omega) (by omega), w64 (n := s + 1 - 1) (by omega) (by omega), if_pos (by omega), if_pos (by omega)]
      obtain ⟨v, hv, k0, k1⟩ := mod_ (rd xs (s + 1 - 1)) n (by omega) h1
      rw [hv, Option.bind_some]
      exact ⟨v, s + 1, rfl, k0, fun _ => k1, fun h => absurd h (by omega), a, by omega, by omega⟩
theorem line_ {xs : List Int} {s : Int} (h : Deck xs s) : ∃ (n : Nat) (s' : Int), timeboundmake2_Line.f xs s = some ((n : Int), s') ∧ n ≤ 1048576 ∧ Deck xs s' := by
  obtain ⟨v1, s1, e1, a1, b1, _, h1⟩ := next_ h 8 (by omega)
  obtain ⟨v2, s2, e2, a2, b2, _, h2⟩ := next_ h1 8 (by omega)
  obtain ⟨v3, s3, e3, a3, b3, _, h3⟩ := next_ h2 30 (by omega)
  obtain ⟨v4, s4, e4, a4, b4, _, h4⟩ := next_ h3 4 (by omega)
  have b4' := b4 (by omega)
  have b1' := b1 (by omega)
  have b2' := b2 (by omega)
  have b3' := b3 (by omega)
  unfold timeboundmake2_Line.f
  simp only [e1, e2, e3, e4, Option.bind_some]
  rw [if_pos a4, if_pos (show v4 < (([v1, v2, v3, 1048576] : List Int).length : Int) from b4')]
  have hq : v4 = 0 ∨ v4 = 1 ∨ v4 = 2 ∨ v4 = 3 := by omega
  obtain ⟨n, hn, hr⟩ : ∃ n : Nat, rd [v1, v2, v3, 1048576] v4 = (n : Int) ∧ n ≤ 1048576 := by
    rcases hq with rfl | rfl | rfl | rfl
    · exact ⟨v1.toNat, by show v1 = _; omega, by omega⟩
    · exact ⟨v2.toNat, by show v2 = _; omega, by omega⟩
    · exact ⟨v3.toNat, by show v3 = _; omega, by omega⟩
    · exact ⟨1048576, rfl, by omega⟩
  exact ⟨n, s4, by rw [hn], hr, h4⟩
theorem few_l {xs : List Int} : ∀ (j : Nat) {s : Int} (l : List Int), Deck xs s → j + l.length ≤ 100 → LinesOk l → ∃ r s', timeboundmake2_Few.l0 (j + 1) l (j : Int) xs s = some (r, s') ∧ LinesOk r ∧ r.length ≤ l.length + j ∧ Deck xs s'
  | 0, s, l, h, _, hl => ⟨l, s, by rw [timeboundmake2_Few.l0, if_neg (by decide)], hl, by omega, h⟩
  | j + 1, s, l, h, hj, hl => by
    obtain ⟨n, s1, e1, hn, h1⟩ := line_ h
    have hl1 : LinesOk (l ++ [(n : Int)]) := fun y hy => by
      rcases List.mem_append.1 hy with h2 | h2
      · exact hl y h2
      · rw [List.mem_singleton.1 h2]; omega
    obtain ⟨r, s', e2, k1, k2, k3⟩ := few_l j (l ++ [(n : Int)]) h1 (by simp; omega) hl1
    refine ⟨r, s', ?_, k1, by simp at k2; omega, k3⟩
    rw [timeboundmake2_Few.l0, if_pos (by omega), e1, Option.bind_some, if_pos (by omega), w64 (by omega) (by omega), show ((j + 1 : Nat) : Int) - 1 = (j : Int) by omega]
    exact e2
theorem few_ {xs : List Int} {s : Int} (h : Deck xs s) : ∃ k r s', timeboundmake2_Few.f k xs s = some (r, s') ∧ LinesOk r ∧ r.length ≤ 3 ∧ Deck xs s' := by
  obtain ⟨v1, s1, e1, a1, b1, _, h1⟩ := next_ h 4 (by omega)
  have b1' := b1 (by omega)
  obtain ⟨j, rfl⟩ : ∃ j : Nat, v1 = (j : Int) := ⟨v1.toNat, by omega⟩
  obtain ⟨r, s', e2, k1, k2, k3⟩ := few_l j [] h1 (by simp; omega) (fun y hy => by cases hy)
  refine ⟨j + 1, r, s', ?_, k1, by simp at k2; omega, k3⟩
  unfold timeboundmake2_Few.f
  rw [e1, Option.bind_some]
  exact e2
theorem cache_ {xs : List Int} {s : Int} (h : Deck xs s) : ∃ (S W L : Nat) (s' : Int), timeboundmake2_Cache.f xs s = some ((S : Int), (W : Int), (L : Int), s') ∧ CacheOk S W L ∧ Deck xs s' := by
  obtain ⟨v1, s1, e1, a1, b1, _, h1⟩ := next_ h 5 (by omega)
  obtain ⟨v2, s2, e2, a2, b2, _, h2⟩ := next_ h1 3 (by omega)
  obtain ⟨v3, s3, e3, a3, b3, _, h3⟩ := next_ h2 4 (by omega)
  have b1' := b1 (by omega)
  have b2' := b2 (by omega)
  have b3' := b3 (by omega)
  refine ⟨v1.toNat, (1 + v2).toNat, (1 + v3).toNat, s3, ?_, ⟨by omega, by omega, by omega, by omega, by omega⟩, h3⟩
  unfold timeboundmake2_Cache.f timeboundmake_Cache.f
  simp only [e1, e2, e3, Option.bind_some]
  rw [w64 (by omega) (by omega), w64 (by omega) (by omega), Int.toNat_of_nonneg (by omega), Int.toNat_of_nonneg (by omega), Int.toNat_of_nonneg (by omega)]
theorem rchk_ {S W L : Nat} (h : CacheOk S W L) : timeboundref22_Check.f S W L = some 0 := by
  have h1 := h.s8; have h2 := h.w1; have h3 := h.w4; have h4 := h.l1; have h5 := h.l8
  unfold timeboundref22_Check.f
  rw [if_neg (by omega), if_neg (by omega), if_neg (by omega), if_neg (by omega), if_neg (by omega), if_neg (by omega)]
def empty0 (S W : Nat) : List (List Int) := List.replicate S (List.replicate W (-1))
theorem empty_l1 {S W L : Nat} (hW : W ≤ 4) : ∀ (j i : Nat) (x : Int) (k : Nat) (row : List Int) (acc : List (List Int)), i + j = W → row = List.replicate i (-1) → acc.length ≤ 8 →
    timeboundref22_Empty.l1 (k + j + 1) x row (i : Int) S W L acc = timeboundref22_Empty.l0 k (wrap64 (x + 1)) S W L (acc ++ [List.replicate W (-1)])
  | 0, i, x, k, row, acc, hi, hr, ha => by
    obtain rfl : i = W := by omega
    rw [timeboundref22_Empty.l1, if_neg (by omega), if_pos (by omega), hr]
  | j + 1, i, x, k, row, acc, hi, hr, ha => by
    have hl : row.length = i := by rw [hr]; simp
    rw [show k + (j + 1) + 1 = (k + j + 1) + 1 by omega, timeboundref22_Empty.l1, if_pos (by omega), if_pos (by omega), w64 (by omega) (by omega)]
    have := empty_l1 (S := S) (L := L) hW j (i + 1) x k (row ++ [-1]) acc (by omega) (by rw [hr, ← List.replicate_succ']) ha
    exact this
theorem empty_l0 {S W L : Nat} (h : CacheOk S W L) : ∀ (j i : Nat) (acc : List (List Int)), i + j = S → acc = List.replicate i (List.replicate W (-1)) → ∃ k, timeboundref22_Empty.l0 k (i : Int) S W L acc = some (empty0 S W)
  | 0, i, acc, hi, ha => by
    obtain rfl : i = S := by omega
    refine ⟨2, ?_⟩
    rw [timeboundref22_Empty.l0, if_neg (by omega), timeboundref22_Empty.j1, if_neg (by decide), ha]
    rfl
  | j + 1, i, acc, hi, ha => by
    have h8 := h.s8
    have hal : acc.length = i := by rw [ha]; simp
    obtain ⟨k, hk⟩ := empty_l0 h j (i + 1) (acc ++ [List.replicate W (-1)]) (by omega) (by rw [ha, ← List.replicate_succ'])
    refine ⟨(k + W + 1) + 2, ?_⟩
    rw [timeboundref22_Empty.l0, if_pos (by omega), rchk_ h, Option.bind_some, timeboundref22_Empty.j1, if_pos (by decide)]
    have := empty_l1 (S := S) (L := L) h.w4 W 0 i k [] acc (by omega) rfl (by omega)
    rw [show ((0 : Nat) : Int) = 0 from rfl] at this
    rw [this, w64 (by omega) (by omega)]
    exact hk
theorem empty_ {S W L : Nat} (h : CacheOk S W L) : ∃ k, timeboundref22_Empty.f k S W L = some (empty0 S W) := empty_l0 h S 0 [] (by omega) rfl
end Go.Proofs.Ytkgocbmnjlfkoaa.M
end
section
namespace Go.Proofs.Ytkgocbmnjlfkoaa.M
open Go.RowKit Go.Proofs.Ytkgocbmnjlfkoaa.X Go.Proofs.YtkgocbmnjlfkoaaW.PrintWords Go.Proofs.YtkgocbmnjlfkoaaW.PrintLast Go.Proofs.YtkgocbmnjlfkoaaW.PrintMore
set_option linter.unusedVariables false
set_option linter.unusedSimpArgs false
theorem S_T2 {w : World} {b : Nat} {ok : Nat → Prop} {v : Value} {l : List (List Int)} (h : Kd.S (Kd.slice 3 (Kd.int .i64)) 22 w b ok v l) : ∃ vs, T2 w b v vs l := by
  obtain ⟨f, h0, inner, ho, hr⟩ := h
  rw [List.length_zipIdx] at ho
  have hil : inner.length = l.length := by
    have := hr.1
    rw [List.length_zipIdx] at this
    rw [this]
    exact Nat.mul_one _
  have hat : ∀ i, i < l.length → ∃ u, inner.getD i undef = u ∧ T1 w b u (l.getD i []) ∧ ∀ k, u.ownBlock = some k → f k = i := fun i hi => by
    have h1 := hr.2 i (l[i], i) (Kd.zip_at (List.getElem?_eq_getElem hi))
    obtain ⟨u, h2, h3⟩ := h1
    refine ⟨u, ?_, ?_, fun k hk => (h3.1 k hk).2⟩
    · have h4 : (inner.drop i).take 1 = [u] := by
        have : (inner.drop (i * 1)).take 1 = [u] := h2
        rwa [Nat.mul_one] at this
      have h5 := congrArg List.head? h4
      rw [List.head?_take, List.head?_drop] at h5
      simp at h5
      rw [List.getD_eq_getElem?_getD, h5]
      rfl
    · rw [getD_lt hi]
      exact T1.ofR h3
  refine ⟨inner, by rw [hil]; exact ho, hil, fun i hi => ?_, fun i j hij hj => ?_⟩
  · obtain ⟨u, e, h1, _⟩ := hat i (by omega)
    rw [e]
    exact h1
  · obtain ⟨u, e, _, h1⟩ := hat i (by omega)
    obtain ⟨u', e', _, h2⟩ := hat j (by omega)
    rw [e, e']
    cases hk : u.ownBlock with
    | none => exact .inl rfl
    | some k =>
      refine .inr fun h3 => ?_
      have := h1 k hk
      have := h2 k h3.symm
      omega
theorem T1.set {w : World} {b g n cap i : Nat} {xs : List Int} (h : T1 w b (.slice (some ⟨g, 0, none⟩) n cap) xs) (y : Int) : T1 (w.setCell ⟨g, i, none⟩ (.int .i64 y)) b (.slice (some ⟨g, 0, none⟩) n cap) (xs.set i y) := by
  obtain rfl : n = xs.length := by
    rcases h.open_ with ⟨h1, _⟩ | ⟨_, _, _, h1, _⟩
    · cases h1
    · injection h1
  have h2 := (World.ownsRow.stored h i (.int .i64 y)).1
  show World.ownsRow _ b 3 1 _ (xs.set i y).length (nums .i64 (xs.set i y))
  rw [List.length_set, nums, List.map_set]
  exact h2
theorem T2.setRow {w w' : World} {b i gs n cap : Nat} {v : Value} {vs : List Value} {l : List (List Int)} {ys : List Int} (h : T2 w b v vs l) (hi : i < l.length) (hv : vs.getD i undef = .slice (some ⟨gs, 0, none⟩) n cap) (hT : T1 w' b (.slice (some ⟨gs, 0, none⟩) n cap) ys) (hf : Fr (fun k => k = gs) w w') : T2 w' b v vs (l.set i ys) := by
  have hl := h.len
  have hgs : w.heap[gs]? ≠ none ∧ ∃ c, w.heap[gs]? = some (.cells c 3 (0, 0)) := by
    have := h.el i (by omega)
    rw [hv] at this
    obtain ⟨c, hc⟩ := T1.typed this (k := gs) rfl
    exact ⟨by rw [hc]; simp, c, hc⟩
  refine ⟨own_move h.own (fun k hk => hf.block k (World.ownsRow.lt h.own k hk).2 (fun e => ?_)), by simpa using hl, fun j hj => ?_, h.apart⟩
  · obtain ⟨c, hc⟩ := own_typed h.own k hk
    obtain ⟨_, c2, h2⟩ := hgs
    rw [e, h2] at hc
    cases hc
  · rw [getD_set _ _ _ _ hi]
    by_cases e : i = j
    · subst e
      rw [if_pos rfl, hv]
      exact hT
    · rw [if_neg e]
      refine (h.el j hj).fr hf (fun k hk e2 => ?_)
      subst e2
      have hne : (vs.getD i undef).ownBlock = some k := by rw [hv]; rfl
      rcases Nat.lt_or_ge i j with h1 | h1
      · rcases h.apart i j h1 hj with h2 | h2
        · rw [hne] at h2; cases h2
        · exact h2 (hne.trans hk.symm)
      · rcases h.apart j i (by omega) (by omega) with h2 | h2
        · rw [hk] at h2; cases h2
        · exact h2 (hk.trans hne.symm)
def atN (x : List Int) (n : Int) : Nat → Nat
  | 0 => x.length - 1
  | k + 1 => if x.getD k 0 = n then k else atN x n k
def hitN (x : List Int) (n : Int) : Nat → Bool
  | 0 => false
  | k + 1 => if x.getD k 0 = n then true else hitN x n k
def atC (x : List Int) (n : Int) : Nat := atN x n x.length
def shJ (x : List Int) (a j : Nat) : List Int := (List.range x.length).map fun p => if j < p ∧ p ≤ a then x.getD (p - 1) 0 else x.getD p 0
def useC (x : List Int) (n : Int) : List Int := (shJ x (atC x n) 0).set 0 n
def useL (S L : Nat) (l : List (List Int)) (m : Nat) : List (List Int) := if S = 0 then l else l.set (m / L % S) (useC (l.getD (m / L % S) []) ((m / L : Nat) : Int))
theorem shJ_length (x : List Int) (a j : Nat) : (shJ x a j).length = x.length := by simp [shJ]
theorem shJ_at {x : List Int} {a j p : Nat} (h : p < x.length) : (shJ x a j).getD p 0 = if j < p ∧ p ≤ a then x.getD (p - 1) 0 else x.getD p 0 := by
  rw [getD_lt (by rw [shJ_length]; exact h)]
  simp [shJ]
theorem ext_getD {x y : List Int} (h : x.length = y.length) (k : ∀ p, p < x.length → x.getD p 0 = y.getD p 0) : x = y := by
  apply List.ext_getElem h
  intro i h1 h2
  have := k i h1
  rwa [getD_lt h1, getD_lt h2] at this
theorem shJ_start (x : List Int) (a : Nat) : shJ x a a = x := ext_getD (shJ_length _ _ _) fun p hp => by
  rw [shJ_length] at hp
  rw [shJ_at hp, if_neg (by omega)]
theorem shJ_step {x : List Int} {a j : Nat} (h : j + 1 ≤ a) (ha : a < x.length) : (shJ x a (j + 1)).set (j + 1) ((shJ x a (j + 1)).getD j 0) = shJ x a j := ext_getD (by rw [List.length_set, shJ_length, shJ_length]) fun p hp => by
  rw [List.length_set, shJ_length] at hp
  rw [getD_set _ _ _ _ (by rw [shJ_length]; omega), shJ_at (p := j) (by omega), shJ_at hp, shJ_at hp, if_neg (show ¬ (j + 1 < j ∧ j ≤ a) by omega)]
  by_cases e : j + 1 = p
  · subst e
    rw [if_pos rfl, if_pos (by omega)]
    rfl
  · rw [if_neg e]
    by_cases h3 : j < p ∧ p ≤ a
    · rw [if_pos h3, if_pos (by omega)]
    · rw [if_neg h3, if_neg (by omega)]
theorem atN_lt {x : List Int} (n : Int) (hx : 0 < x.length) : ∀ k, k ≤ x.length → atN x n k < x.length
  | 0, _ => by rw [atN]; omega
  | k + 1, h => by
    rw [atN]
    split
    · omega
    · exact atN_lt n hx k (by omega)
theorem useC_length (x : List Int) (n : Int) : (useC x n).length = x.length := by rw [useC, List.length_set, shJ_length]
theorem useL_length (S L : Nat) (l : List (List Int)) (m : Nat) : (useL S L l m).length = l.length := by
  unfold useL
  split
  · rfl
  · rw [List.length_set]
end Go.Proofs.Ytkgocbmnjlfkoaa.M
end
section
namespace Go.Proofs.Ytkgocbmnjlfkoaa.M
open Go.RowKit Go.Proofs.Ytkgocbmnjlfkoaa.X Go.Proofs.YtkgocbmnjlfkoaaW.PrintWords Go.Proofs.YtkgocbmnjlfkoaaW.PrintLast Go.Proofs.YtkgocbmnjlfkoaaW.PrintMore
set_option linter.unusedVariables false
set_option linter.unusedSimpArgs false
theorem T1.cell {w : World} {b g cap n i : Nat} {xs : List Int} (h : T1 w b (.slice (some ⟨g, 0, none⟩) n cap) xs) (hi : i < xs.length) : w.cell? ⟨g, i, none⟩ = some (.int .i64 (xs.getD i 0)) ∧ w.frozen? ⟨g, i, none⟩ = false := by
  rcases h.open_ with ⟨h0, _⟩ | ⟨g', cap', cur, h1, h2, h3, h4, h5, h6, h7⟩
  · cases h0
  · injection h1 with e1 e2 e3
    injection e1 with e1
    injection e1 with e1
    subst e1
    refine ⟨?_, blk_frozen h3 i⟩
    have h8 := congrArg (fun l => l[i]?) h7
    simp only [List.getElem?_take, if_pos hi, Array.getElem?_toList] at h8
    rw [blk_cell h3, Array.getElem?_eq_getElem (by omega)]
    rw [Array.getElem?_eq_getElem (by omega)] at h8
    rw [h8, getD_lt hi]
    simp [nums, hi]
set_option maxHeartbeats 4000000 in
theorem use41_calls {S W L : Nat} (h : CacheOk S W L) (v : Value) (vs : List Value) (l : List (List Int)) (b m : Nat) (w : World) (hT : T2 w b v vs l) (hb : b ≤ w.heap.size) (hl : l.length = S) (hlw : ∀ x ∈ l, x.length = W) (hm : m ≤ 1048576) :
    Calls Try.prog 41 #[.agg #[.int .i64 S, .int .i64 W, .int .i64 L], .agg #[v], .int .i64 m] w (fun e w' => (∃ r, e = .returned (.bool r)) ∧ T2 w' b v vs (useL S L l m) ∧ Fr (In2 v vs) w w') := by
  have hW1 := h.w1; have hW4 := h.w4; have hS8 := h.s8; have hL1 := h.l1; have hL8 := h.l8
  have HT := Aside0.mk hT
  have HB0 : Aside0 (Below w.heap.size w ((w.alloc (.cells #[.int .i64 S, .int .i64 W, .int .i64 L] 26)).alloc (.cells #[v] 54))) := ⟨((Below.refl _ _).alloc (Nat.le_refl _) _).alloc (by simp) _⟩
  by_cases hs : S = 0
  · subst hs
    have HU : Aside0 (useL 0 L l m = l) := ⟨if_pos rfl⟩
    clear hT hlw h
    have HL := Aside0.mk hl
    clear hl
    obtain ⟨A, c, rfl, _, _⟩ := HT.out.reads
    go_enter Try.func41, Try.ntmps41
    go_wp2
    go_ret
    exact ⟨⟨_, rfl⟩, by rw [HU.out]; exact HT.out.fr (S := fun _ => False) (Fr.ofBelow HB0.out) (fun _ _ h => h), Fr.ofBelow HB0.out⟩
  · obtain ⟨A, c, rfl, hc, hr⟩ := hT.reads
    have hns : m / L % S < l.length := by rw [hl]; exact Nat.mod_lt _ (Nat.pos_of_ne_zero hs)
    obtain ⟨ad, A0, c0, rfl, hcell0, hc0, hl0⟩ := C2.get hr hns
    have hlw0 := hlw _ (List.getElem_mem hns)
    have hq1 : Int.tdiv (m : Int) (L : Int) = ((m / L : Nat) : Int) := by rw [Int.tdiv_eq_ediv_of_nonneg (by omega)]; rfl
    have hq2 : (m : Int) / (L : Int) = ((m / L : Nat) : Int) := rfl
    have hq3 : ((m / L : Nat) : Int) % (S : Int) = ((m / L % S : Nat) : Int) := rfl
    have hq4 : Int.tmod ((m / L : Nat) : Int) (S : Int) = ((m / L % S : Nat) : Int) := by rw [Int.tmod_eq_emod_of_nonneg (Int.natCast_nonneg _)]; rfl
    have hdl : m / L ≤ 1048576 := Nat.le_trans (Nat.div_le_self _ _) hm
    have hcell := pw_cell_below HB0.out hcell0
    have HR0 := Aside0.mk hl0
    have HU : Aside0 (useL S L l m = l.set (m / L % S) (useC l[m / L % S] ((m / L : Nat) : Int))) := ⟨by rw [useL, if_neg hs, getD_lt hns]⟩
    have HL := Aside0.mk hl
    have HLW := Aside0.mk hlw0
    have hl9 : l.length < 9 := by omega
    have hx5 : l[m / L % S].length < 5 := by omega
    have hx0 : 0 < l[m / L % S].length := by omega
    have hg1 : ((S : Int) == 0) = false := beq_eq_false_iff_ne.2 (by omega)
    obtain ⟨gs, rfl, hvs⟩ : ∃ gs, A0 = some ⟨gs, 0, none⟩ ∧ vs.getD (m / L % S) undef = .slice (some ⟨gs, 0, none⟩) l[m / L % S].length c0 := by
      have hlen := hT.len
      rcases hT.open_ with ⟨h1, _⟩ | ⟨g, cap, cur, h1, _⟩
      · cases h1
      · injection h1 with e1 e2 e3
        injection e1 with e1
        subst e1
        have h2 := (hT.cell hns).1
        have h3 : w.cell? ⟨g, m / L % S, none⟩ = some (.slice A0 l[m / L % S].length c0) := by
          rw [show (⟨g, 0, none⟩ : Addr).add (m / L % S) = ⟨g, m / L % S, none⟩ by unfold Addr.add; split <;> simp [*]] at hcell0
          exact hcell0
        rw [h3] at h2
        injection h2 with h2
        have h4 := hT.el (m / L % S) (by omega)
        rw [← h2, getD_lt hns] at h4
        rcases h4.open_ with ⟨_, h5⟩ | ⟨gs, _, _, h5, _⟩
        · rw [h5] at hx0; exact absurd hx0 (by simp)
        · injection h5 with h5 _ _
          subst h5
          exact ⟨gs, rfl, h2.symm⟩
    have hx1 := hT.el (m / L % S) (by have := hT.len; omega)
    rw [hvs, getD_lt hns] at hx1
    have HX := Aside0.mk hx1
    have HVS := Aside0.mk hvs
    clear hl hlw hlw0 hl0 hr h hT hcell0 hx1 hvs HR0
    generalize l[m / L % S] = x at *
    generalize m / L % S = s at *
    generalize m / L = n at *
    go_enter Try.func41, Try.ntmps41
    go_wp2
    go_quiet (fail)
    have HBQ : Aside0 (Below w.heap.size w (((w.alloc (.cells #[.int .i64 S, .int .i64 W, .int .i64 L] 26)).alloc (.cells #[.slice (some ad) l.length c] 54)).drewN nq)) := ⟨pw_below_drewN HB0.out nq⟩
    clear hcell HB0
    generalize ((w.alloc (.cells #[.int .i64 S, .int .i64 W, .int .i64 L] 26)).alloc (.cells #[.slice (some ad) l.length c] 54)).drewN nq = W2 at *
    have HX2 : Aside0 (T1 W2 b (.slice (some ⟨gs, 0, none⟩) x.length c0) x) := ⟨HX.out.fr (S := fun _ => False) (Fr.ofBelow HBQ.out) (fun _ _ h => h)⟩
    have hat0 : ((x.length : Int) - 1) = ((atN x n 0 : Nat) : Int) := by rw [atN]; omega
    have HAT0 := Aside0.mk hat0
    clear hat0
    go_wp2
    go_loopw [9, 10, 11] (fun v9 v10 v11 wr => ∃ i : Nat, i ≤ x.length ∧ v9 = .int .i64 (atN x n i : Nat) ∧ v10 = .bool (hitN x n i) ∧ v11 = .int .i64 i ∧ W2 = wr) (fun _ _ v11 _ => x.length - (RowKit.intOf v11).toNat)
    case atStart => exact ⟨0, Nat.zero_le _, by rw [HAT0.out], rfl, rfl, rfl⟩
    case round =>
      clear HAT0
      obtain ⟨i, hi, rfl, rfl, rfl, rfl⟩ := hrel
      by_cases hlt : i < x.length
      · obtain ⟨hcx, hfx⟩ := HX2.out.cell hlt
        clear hfx
        by_cases he : x.getD i 0 = (n : Int)
        · have HA : Aside0 (atN x n (i + 1) = i ∧ hitN x n (i + 1) = true) := ⟨by rw [atN, if_pos he], by rw [hitN, if_pos he]⟩
          have g1 : (x.getD i 0 == (n : Int)) = true := beq_iff_eq.2 he
          clear he
          generalize x.getD i 0 = y at *
          go_wp2
          go_roundw
          case rel => exact ⟨i + 1, hlt, by rw [HA.out.1], by rw [HA.out.2], by go_num, trivial⟩
          case measure => simp [RowKit.intOf]; omega
        · have HA : Aside0 (atN x n (i + 1) = atN x n i ∧ hitN x n (i + 1) = hitN x n i) := ⟨by rw [atN, if_neg he], by rw [hitN, if_neg he]⟩
          have g1 : (x.getD i 0 == (n : Int)) = false := beq_eq_false_iff_ne.2 he
          clear he
          generalize x.getD i 0 = y at *
          go_wp2
          go_roundw
          case rel => exact ⟨i + 1, hlt, by rw [HA.out.1], by rw [HA.out.2], by go_num, trivial⟩
          case measure => simp [RowKit.intOf]; omega
      · obtain rfl : i = x.length := by omega
        have hal := atN_lt (n : Int) hx0 x.length (Nat.le_refl _)
        have HS0 : Aside0 (T1 W2 b (.slice (some ⟨gs, 0, none⟩) x.length c0) (shJ x (atN x n x.length) (atN x n x.length)) ∧ Fr (fun k => k = gs) W2 W2) := ⟨by rw [shJ_start]; exact HX2.out, Fr.refl _ _⟩
        have HUC : Aside0 (useC x n = (shJ x (atN x n x.length) 0).set 0 n) := ⟨rfl⟩
        generalize atN x n x.length = a at *
        generalize hitN x n x.length = hh at *
        go_wp2
        go_loopw [12] (fun v12 wr => ∃ j : Nat, j ≤ a ∧ v12 = .int .i64 j ∧ Aside0 (T1 wr b (.slice (some ⟨gs, 0, none⟩) x.length c0) (shJ x a j) ∧ Fr (fun k => k = gs) W2 wr)) (fun v12 _ => (RowKit.intOf v12).toNat)
        case atStart => exact ⟨a, Nat.le_refl _, rfl, HS0⟩
        case round =>
          clear HS0
          obtain ⟨j, hj, rfl, HJ⟩ := hrel
          by_cases hj0 : 0 < j
          · obtain ⟨j, rfl⟩ : ∃ k, j = k + 1 := ⟨j - 1, by omega⟩
            obtain ⟨c1, f1⟩ := HJ.out.1.cell (i := j) (by rw [shJ_length]; omega)
            obtain ⟨c2, f2⟩ := HJ.out.1.cell (i := j + 1) (by rw [shJ_length]; omega)
            have HN : Aside0 (T1 (wr.setCell ⟨gs, j + 1, none⟩ (.int .i64 ((shJ x a (j + 1)).getD j 0))) b (.slice (some ⟨gs, 0, none⟩) x.length c0) (shJ x a j) ∧ Fr (fun k => k = gs) W2 (wr.setCell ⟨gs, j + 1, none⟩ (.int .i64 ((shJ x a (j + 1)).getD j 0)))) := ⟨by rw [← shJ_step hj hal]; exact HJ.out.1.set _, HJ.out.2.trans (Fr.set _ rfl)⟩
            clear HJ f1
            generalize (shJ x a (j + 1)).getD j 0 = y at *
            generalize (shJ x a (j + 1)).getD (j + 1) 0 = z at *
            go_wp2
            go_roundw
            case rel => exact ⟨j, by omega, by go_num, HN⟩
            case measure => simp [RowKit.intOf]
          · obtain rfl : j = 0 := by omega
            obtain ⟨c2, f2⟩ := HJ.out.1.cell (i := 0) (by rw [shJ_length]; omega)
            generalize (shJ x a 0).getD 0 0 = z at *
            go_wp2
            go_ret
            have h1 : T1 (wr.setCell ⟨gs, 0, none⟩ (.int .i64 n)) b (.slice (some ⟨gs, 0, none⟩) x.length c0) (useC x n) := by rw [HUC.out]; exact HJ.out.1.set _
            have h2 : Fr (fun k => k = gs) W2 (wr.setCell ⟨gs, 0, none⟩ (.int .i64 n)) := HJ.out.2.trans (Fr.set _ rfl)
            have h3 : T2 W2 b (.slice (some ad) l.length c) vs l := HT.out.fr (S := fun _ => False) (Fr.ofBelow HBQ.out) (fun _ _ h => h)
            refine ⟨⟨_, rfl⟩, by rw [HU.out]; exact h3.setRow hns HVS.out h1 h2, (Fr.ofBelow HBQ.out).trans (h2.mono (fun k hk => .inr ⟨s, by rw [HT.out.len]; exact hns, ?_⟩))⟩
            rw [HVS.out, hk]
            rfl
end Go.Proofs.Ytkgocbmnjlfkoaa.M
end
section
namespace Go.Proofs.Ytkgocbmnjlfkoaa.M
open Go.RowKit
set_option linter.unusedVariables false
set_option linter.unusedSimpArgs false
structure RowC (S s W : Nat) (x : List Int) : Prop where
  len : x.length = W
  rng : ∀ p, p < W → x.getD p 0 = -1 ∨ (0 ≤ x.getD p 0 ∧ x.getD p 0 ≤ 1048576 ∧ x.getD p 0 % S = s)
  ne : ∀ p q, p < q → q < W → x.getD p 0 = x.getD q 0 → x.getD p 0 < 0
structure Con (S W : Nat) (l : List (List Int)) : Prop where
  len : l.length = S
  el : ∀ s, s < S → RowC S s W (l.getD s [])
theorem Con.row {S W : Nat} {l : List (List Int)} (h : Con S W l) : ∀ x ∈ l, x.length = W := fun x hx => by
  obtain ⟨i, hi, rfl⟩ := List.getElem_of_mem hx
  have := (h.el i (by rw [← h.len]; exact hi)).len
  rwa [getD_lt hi] at this
theorem atN_spec (x : List Int) (n : Int) : ∀ k, (atN x n k = x.length - 1 ∧ ∀ q, q < k → x.getD q 0 ≠ n) ∨ (x.getD (atN x n k) 0 = n ∧ atN x n k < k ∧ ∀ q, atN x n k < q → q < k → x.getD q 0 ≠ n)
  | 0 => .inl ⟨rfl, fun q h => absurd h (Nat.not_lt_zero _)⟩
  | k + 1 => by
    rw [atN]
    by_cases e : x.getD k 0 = n
    · rw [if_pos e]
      exact .inr ⟨e, by omega, fun q h1 h2 => absurd h1 (by omega)⟩
    · rw [if_neg e]
      rcases atN_spec x n k with ⟨h1, h2⟩ | ⟨h1, h2, h3⟩
      · refine .inl ⟨h1, fun q hq => ?_⟩
        by_cases e2 : q = k
        · subst e2; exact e
        · exact h2 q (by omega)
      · refine .inr ⟨h1, by omega, fun q hq hq2 => ?_⟩
        by_cases e2 : q = k
        · subst e2; exact e
        · exact h3 q hq (by omega)
def src (a p : Nat) : Nat := if p ≤ a then p - 1 else p
theorem useC_at {x : List Int} (n : Int) {p : Nat} (h : p < x.length) : (useC x n).getD p 0 = if p = 0 then n else x.getD (src (atC x n) p) 0 := by
  unfold useC src
  rw [getD_set _ _ _ _ (by rw [shJ_length]; omega), shJ_at h]
  by_cases e : p = 0
  · subst e
    rw [if_pos rfl, if_pos rfl]
  · rw [if_neg (Ne.symm e), if_neg e]
    by_cases h2 : p ≤ atC x n
    · rw [if_pos ⟨by omega, h2⟩, if_pos h2]
    · rw [if_neg (fun h => h2 h.2), if_neg h2]
theorem RowC.use {S s W : Nat} {x : List Int} (h : RowC S s W x) {n : Int} (h0 : 0 ≤ n) (h1 : n ≤ 1048576) (hn : n % S = s) : RowC S s W (useC x n) := by
  have hl := h.len
  have hat : ∀ p, p < W → 0 < p → src (atC x n) p < W := fun p hp hp0 => by unfold src; split <;> omega
  refine ⟨by rw [useC_length, hl], fun p hp => ?_, fun p q hpq hq => ?_⟩
  · rw [useC_at n (by omega)]
    by_cases e : p = 0
    · rw [if_pos e]
      exact .inr ⟨h0, h1, hn⟩
    · rw [if_neg e]
      exact h.rng _ (hat p hp (by omega))
  · rw [useC_at n (by omega), useC_at n (by omega), if_neg (show ¬ q = 0 by omega)]
    by_cases e : p = 0
    · rw [if_pos e]
      intro h2
      exfalso
      have hq2 := hat q hq (by omega)
      have hsp := atN_spec x n x.length
      rcases hsp with ⟨_, h3⟩ | ⟨h3, h4, h5⟩
      · exact h3 _ (by omega) h2.symm
      · have hne : src (atC x n) q ≠ atC x n := by unfold src; split <;> omega
        have h3' : x.getD (atC x n) 0 = n := h3
        have h4' : atC x n < x.length := h4
        rcases Nat.lt_or_gt_of_ne hne with h6 | h6
        · have := h.ne _ _ h6 (by omega) (by rw [← h2, h3'])
          omega
        · have := h.ne _ _ h6 (by omega) (by rw [← h2, h3'])
          omega
    · rw [if_neg e]
      intro h2
      exact h.ne _ _ (by unfold src; split <;> split <;> omega) (hat q hq (by omega)) h2
theorem Con.use {S W L : Nat} {l : List (List Int)} (h : Con S W l) {m : Nat} (hm : m ≤ 1048576) : Con S W (useL S L l m) := by
  refine ⟨by rw [useL_length, h.len], fun s hs => ?_⟩
  unfold useL
  rw [if_neg (by omega)]
  have hlt : m / L % S < S := Nat.mod_lt _ (by omega)
  rw [getD_set _ _ _ _ (by rw [h.len]; exact hlt)]
  by_cases e : m / L % S = s
  · rw [if_pos e]
    have := h.el s hs
    rw [e]
    have hd := Nat.div_le_self m L
    generalize m / L = n at *
    exact this.use (by omega) (by omega) (by rw [← e]; exact (Int.natCast_emod _ _).symm)
  · rw [if_neg e]
    exact h.el s hs
theorem Con.empty (S W : Nat) : Con S W (empty0 S W) := by
  refine ⟨by simp [empty0], fun s hs => ?_⟩
  have : (empty0 S W).getD s [] = List.replicate W (-1) := by
    rw [getD_lt (by simp [empty0]; exact hs)]
    simp [empty0]
  rw [this]
  have hg : ∀ p, p < W → (List.replicate W (-1 : Int)).getD p 0 = -1 := fun p hp => by
    rw [getD_lt (by simpa using hp)]
    simp
  refine ⟨by simp, fun p hp => .inl (hg p hp), fun p q hpq hq _ => ?_⟩
  rw [hg p (by omega)]
  decide
theorem mem_ofS {W : Nat} {x : List Int} {y : Int} {i : Nat} : y ∈ (ofS W x).getD i [] ↔ i < W ∧ 0 ≤ x.getD i 0 ∧ y = x.getD i 0 := by
  by_cases h : i < W
  · have : (ofS W x).getD i [] = if 0 ≤ x.getD i 0 then [x.getD i 0] else [] := by
      rw [getD_lt (by rw [ofS, ofR_length]; exact h)]
      simp [ofS, ofR, h]
    rw [this]
    by_cases h2 : 0 ≤ x.getD i 0
    · rw [if_pos h2, List.mem_singleton]
      exact ⟨fun e => ⟨h, h2, e⟩, fun e => e.2.2⟩
    · rw [if_neg h2]
      exact ⟨fun e => (by cases e), fun e => absurd e.2.1 h2⟩
  · have : (ofS W x).getD i [] = [] := by
      rw [List.getD_eq_getElem?_getD, List.getElem?_eq_none (by rw [ofS, ofR_length]; omega)]
      rfl
    rw [this]
    exact ⟨fun e => (by cases e), fun e => absurd e.1 h⟩
theorem RowC.of {S s W : Nat} {x : List Int} (h : RowC S s W x) : VS S s W (ofS W x) := by
  refine ⟨ofR_length _ _ _, fun i => ?_, fun i y hy => ?_, fun i j hij y hy hy2 => ?_⟩
  · by_cases hi : i < W
    · have : (ofS W x).getD i [] = if 0 ≤ x.getD i 0 then [x.getD i 0] else [] := by
        rw [getD_lt (by rw [ofS, ofR_length]; exact hi)]
        simp [ofS, ofR, hi]
      rw [this]
      split
      · exact List.pairwise_singleton _ _
      · exact List.Pairwise.nil
    · have : (ofS W x).getD i [] = [] := by
        rw [List.getD_eq_getElem?_getD, List.getElem?_eq_none (by rw [ofS, ofR_length]; omega)]
        rfl
      rw [this]
      exact List.Pairwise.nil
  · obtain ⟨h1, h2, rfl⟩ := mem_ofS.1 hy
    rcases h.rng i h1 with h3 | h3
    · omega
    · exact h3
  · obtain ⟨h1, h2, h3⟩ := mem_ofS.1 hy
    obtain ⟨h4, h5, h6⟩ := mem_ofS.1 hy2
    rcases Nat.lt_or_gt_of_ne hij with h7 | h7
    · have := h.ne i j h7 h4 (by rw [← h3, ← h6])
      omega
    · have := h.ne j i h7 h1 (by rw [← h3, ← h6])
      omega
theorem ofM_at {S W : Nat} (l : List (List Int)) {s : Nat} (hs : s < S) : (ofM S W l).getD s [] = ofS W (l.getD s []) := by
  unfold ofM
  rw [getD_lt (by rw [ofN_length]; exact hs)]
  simp [ofN, hs]
theorem Con.of {S W : Nat} {l : List (List Int)} (h : Con S W l) : Val S W (ofM S W l) := ⟨ofN_length _ _ _ _, fun s hs => by
  rw [ofM_at l hs]
  exact (h.el s hs).of⟩
end Go.Proofs.Ytkgocbmnjlfkoaa.M
end
section
namespace Go.Proofs.Ytkgocbmnjlfkoaa.M
open Go.RowKit Go.Proofs.Ytkgocbmnjlfkoaa.X Go.Proofs.YtkgocbmnjlfkoaaW.PrintWords Go.Proofs.YtkgocbmnjlfkoaaW.PrintLast Go.Proofs.YtkgocbmnjlfkoaaW.PrintMore
set_option linter.unusedVariables false
set_option linter.unusedSimpArgs false
def Dk (wD : World) (g : Nat) (xs : List Int) (w : World) : Prop := ∃ s, Deck xs s ∧ IsS72 wD w g xs s ∧ Below wD.heap.size wD w
section
variable {wD w w' : World} {g : Nat} {xs : List Int}
theorem Dk.below (h : Dk wD g xs w) (hb : Below w.heap.size w w') : Dk wD g xs w' := by
  obtain ⟨s, h1, h2, h3⟩ := h
  exact ⟨s, h1, h2.below hb, h3.trans (hb.mono h3.size)⟩
theorem Dk.ne (h : Dk wD g xs w) {k t : Nat} {cs : Array Value} {fr : Nat × Nat} (hk : w.heap[k]? = some (.cells cs t fr)) (ht : t ≠ 72) : k ≠ g := by
  obtain ⟨s, h1, h2, h3⟩ := h
  exact Ne.symm (h2.ne_blk hk ht)
theorem Dk.lt (h : Dk wD g xs w) : g < w.heap.size := by
  obtain ⟨s, h1, h2, h3⟩ := h
  exact h2.lt
theorem Dk.ge (h : Dk wD g xs w) : wD.heap.size ≤ g := by
  obtain ⟨s, h1, h2, h3⟩ := h
  exact h2.ge
theorem Dk.bel (h : Dk wD g xs w) : Below wD.heap.size wD w := by
  obtain ⟨s, h1, h2, h3⟩ := h
  exact h3
theorem Dk.blk (h : Dk wD g xs w) (hk : KeepBut w w' g none) {k t : Nat} {cs : Array Value} {fr : Nat × Nat} (hb : w.heap[k]? = some (.cells cs t fr)) (ht : t ≠ 72) : w'.heap[k]? = some (.cells cs t fr) :=
  (hk.2 k (blk_lt hb) (h.ne hb ht) (by simp)).trans hb
theorem T2.keepD {b : Nat} {v : Value} {vs : List Value} {l : List (List Int)} (hT : T2 w b v vs l) (h : Dk wD g xs w) (hk : KeepBut w w' g none) : T2 w' b v vs l := hT.keep fun k hi => by
  obtain ⟨c, e, h0, h1⟩ := In2.typed hT hi
  rw [h1]
  exact h.blk hk h1 (by rcases h0 with rfl | rfl <;> decide)
theorem T3.keepD {b : Nat} {v : Value} {vs : List Value} {us : List (List Value)} {x : List (List (List Int))} (hT : T3 w b v vs us x) (h : Dk wD g xs w) (hk : KeepBut w w' g none) : T3 w' b v vs us x := by
  have h2 : ∀ k, In3 v vs us k → w'.heap[k]? = w.heap[k]? := fun k hi => by
    rcases hi with hi | ⟨i, hi, h2⟩
    · obtain ⟨c, hc⟩ := own_typed hT.own k hi
      rw [hc]
      exact h.blk hk hc (by decide)
    · obtain ⟨c, e, h0, h1⟩ := In2.typed (hT.el i (by rw [← hT.len]; exact hi)) h2
      rw [h1]
      exact h.blk hk h1 (by rcases h0 with rfl | rfl <;> decide)
  exact hT.keep h2
theorem next_calls (h : Dk wD g xs w) (n : Int) (hn : n ≤ 1048577) : Calls Try.prog 18 #[.pointer (some ⟨g, 0, none⟩), .int .i64 n] w fun e w' => ∃ r : Nat, e = .returned (.int .i64 r) ∧ (1 ≤ n → (r : Int) < n) ∧ (n < 1 → r = 0) ∧ Dk wD g xs w' ∧ KeepBut w w' g none := by
  obtain ⟨s, h1, h2, h3⟩ := h
  obtain ⟨v, s', e1, k0, k1, k2, k3⟩ := next_ h1 n hn
  refine (timeboundmake_Deck_Next.calls g xs s n v s' wD w h2 h3 e1).mono ?_
  rintro e w' ⟨rfl, i1, i2, i3⟩
  exact ⟨v.toNat, by rw [Int.toNat_of_nonneg k0], by omega, by omega, ⟨s', k3, i1, i2⟩, i3⟩
theorem line_calls (h : Dk wD g xs w) : Calls Try.prog 28 #[.pointer (some ⟨g, 0, none⟩)] w fun e w' => ∃ n : Nat, e = .returned (.int .i64 n) ∧ n ≤ 1048576 ∧ Dk wD g xs w' ∧ KeepBut w w' g none := by
  obtain ⟨s, h1, h2, h3⟩ := h
  obtain ⟨n, s', e1, k0, k3⟩ := line_ h1
  refine (timeboundmake2_Line.calls g xs s n s' wD w h2 h3 e1).mono ?_
  rintro e w' ⟨rfl, i1, i2, i3⟩
  exact ⟨n, rfl, k0, ⟨s', k3, i1, i2⟩, i3⟩
theorem few_calls (h : Dk wD g xs w) : Calls Try.prog 38 #[.pointer (some ⟨g, 0, none⟩)] w fun e w' => ∃ A c r, e = .returned (.slice A (r : List Int).length c) ∧ r.length ≤ c ∧ C1 w' A r ∧ LinesOk r ∧ r.length ≤ 3 ∧ Dk wD g xs w' ∧ KeepBut w w' g none := by
  obtain ⟨s, h1, h2, h3⟩ := h
  obtain ⟨k, r, s', e1, k0, k1, k3⟩ := few_ h1
  refine (timeboundmake2_Few.calls k g xs s r s' wD w h2 h3 e1).mono ?_
  rintro e w' ⟨v, rfl, hR, i1, i2, i3⟩
  obtain ⟨A, c, rfl, j1, j2⟩ := Kd.R_reads hR
  exact ⟨A, c, r, rfl, j1, j2, k0, k1, ⟨s', k3, i1, i2⟩, i3⟩
theorem cache_calls (h : Dk wD g xs w) : Calls Try.prog 15 #[.pointer (some ⟨g, 0, none⟩)] w fun e w' => ∃ S W L : Nat, e = .returned (.agg #[.int .i64 S, .int .i64 W, .int .i64 L]) ∧ CacheOk S W L ∧ Dk wD g xs w' ∧ KeepBut w w' g none := by
  obtain ⟨s, h1, h2, h3⟩ := h
  obtain ⟨S, W, L, s', e1, k0, k3⟩ := cache_ h1
  refine (timeboundmake2_Cache.calls g xs s S W L s' wD w h2 h3 e1).mono ?_
  rintro e w' ⟨rfl, i1, i2, i3⟩
  exact ⟨S, W, L, rfl, k0, ⟨s', k3, i1, i2⟩, i3⟩
theorem new_calls (A : Option Addr) (c : Nat) (l : List Int) (w : World) (hr : C1 w A l) (hc : l.length ≤ c) (hl : l.length ≤ 17592186044416) : Calls Try.prog 14 #[.slice A l.length c] w fun e w' => ∃ g, e = .returned (.pointer (some ⟨g, 0, none⟩)) ∧ Dk w g l w' ∧ Below w.heap.size w w' := by
  refine (timeboundmake_New.calls A c l l 0 w w (Below.refl _ _) hr hc rfl).mono ?_
  rintro e w' ⟨g, rfl, i1, i2, i3⟩
  exact ⟨g, rfl, ⟨0, ⟨hl, by omega, by omega⟩, i1, i2⟩, i3⟩
theorem empty_calls {S W L : Nat} (h : CacheOk S W L) (w : World) : Calls Try.prog 104 #[.agg #[.int .i64 S, .int .i64 W, .int .i64 L]] w fun e w' => ∃ v vs, e = .returned (.agg #[v]) ∧ T2 w' w.heap.size v vs (empty0 S W) ∧ Below w.heap.size w w' := by
  obtain ⟨k, hk⟩ := empty_ h
  refine (timeboundref22_Empty.calls k S W L (empty0 S W) w hk).mono ?_
  rintro e w' ⟨v, rfl, hS, hb⟩
  obtain ⟨vs, hT⟩ := S_T2 hS
  exact ⟨v, vs, rfl, hT, hb⟩
end
end Go.Proofs.Ytkgocbmnjlfkoaa.M
end
section
namespace Go.Proofs.Ytkgocbmnjlfkoaa.M
open Go.RowKit Go.Proofs.Ytkgocbmnjlfkoaa.X Go.Proofs.YtkgocbmnjlfkoaaW.PrintWords Go.Proofs.YtkgocbmnjlfkoaaW.PrintLast Go.Proofs.YtkgocbmnjlfkoaaW.PrintMore
set_option linter.unusedVariables false
set_option linter.unusedSimpArgs false
theorem T2.setFar {w : World} {b : Nat} {v : Value} {vs : List Value} {l : List (List Int)} (h : T2 w b v vs l) {k t i : Nat} {c : Array Value} (hk : w.heap[k]? = some (.cells c t (0, 0))) (ht : t ≠ 22 ∧ t ≠ 3) (u : Value) : T2 (w.setCell ⟨k, i, none⟩ u) b v vs l :=
  h.fr (Fr.set (S := fun j => j = k) u rfl) (fun j hj e => by
    subst e
    obtain ⟨c1, e1, h0, h1⟩ := In2.typed h hj
    rw [hk] at h1
    injection h1 with h1
    injection h1 with _ h1
    rcases h0 with rfl | rfl
    · exact ht.1 h1
    · exact ht.2 h1)
theorem Dk.set {wD w : World} {g : Nat} {xs : List Int} (h : Dk wD g xs w) {k t i : Nat} {c : Array Value} (hk : w.heap[k]? = some (.cells c t (0, 0))) (ht : t ≠ 72) (hg : wD.heap.size ≤ k) (u : Value) : Dk wD g xs (w.setCell ⟨k, i, none⟩ u) := by
  have hn := h.ne hk ht
  obtain ⟨s, h1, h2, h3⟩ := h
  exact ⟨s, h1, h2.far (Ne.symm hn) u, h3.setCell hg u⟩
theorem KeepBut.setNew {w wr : World} {g k i : Nat} (h : KeepBut w wr g none) (hk : w.heap.size ≤ k) (u : Value) : KeepBut w (wr.setCell ⟨k, i, none⟩ u) g none :=
  ⟨by rw [size_setCell]; exact h.1, fun j hj hg hr => (Below.heap_setCell wr _ u j (by show j ≠ k; omega)).trans (h.2 j hj hg hr)⟩
def NewL (wD w : World) (g : Nat) (xs : List Int) (S W : Nat) (e : Ending) (w' : World) : Prop := ∃ v vs l, e = .returned (.agg #[v]) ∧ T2 w' w.heap.size v vs l ∧ Con S W l ∧ Dk wD g xs w' ∧ KeepBut w w' g none
structure LJ (wD w wr : World) (g : Nat) (xs : List Int) (v : Value) (l : List (List Int)) (bo : Nat) (c0 c1 c2 : Value) : Prop where
  deck : Dk wD g xs wr
  keep : KeepBut w wr g none
  sets : ∃ vs, T2 wr w.heap.size v vs l
  c : wr.heap[w.heap.size]? = some (.cells #[c0, c1, c2] 26 (0, 0))
  r : wr.heap[w.heap.size + 1]? = some (.cells #[.slice none 0 0] 54 (0, 0))
  o : wr.heap[bo]? = some (.cells #[v] 54 (0, 0))
section
variable {wD w wr w' : World} {g bo S W L : Nat} {xs : List Int} {v c0 c1 c2 : Value} {l : List (List Int)}
theorem LJ.next (h : LJ wD w wr g xs v l bo c0 c1 c2) (hd : Dk wD g xs w') (hk : KeepBut wr w' g none) : LJ wD w w' g xs v l bo c0 c1 c2 := by
  obtain ⟨vs, hT⟩ := h.sets
  exact ⟨hd, h.keep.trans hk (.inl rfl), ⟨vs, hT.keepD h.deck hk⟩, h.deck.blk hk h.c (by decide), h.deck.blk hk h.r (by decide), h.deck.blk hk h.o (by decide)⟩
theorem LJ.drew (h : LJ wD w wr g xs v l bo c0 c1 c2) : LJ wD w wr.drew g xs v l bo c0 c1 c2 := by
  obtain ⟨vs, hT⟩ := h.sets
  exact ⟨h.deck.below (Below.refl _ _).drew, h.keep, ⟨vs, hT.fr (S := fun _ => False) (Fr.drew _ _) (fun _ _ h => h)⟩, h.c, h.r, h.o⟩
theorem LJ.use (hC : CacheOk S W L) (h : LJ wD w wr g xs v l bo c0 c1 c2) (hl : Con S W l) (m : Nat) (hm : m ≤ 1048576) (hwD : Below wD.heap.size wD w) : Calls Try.prog 41 #[.agg #[.int .i64 S, .int .i64 W, .int .i64 L], .agg #[v], .int .i64 m] wr (fun e w' => (∃ r, e = .returned (.bool r)) ∧ LJ wD w w' g xs v (useL S L l m) bo c0 c1 c2) := by
  obtain ⟨vs, hT⟩ := h.sets
  refine (use41_calls hC v vs l w.heap.size m wr hT h.keep.1 hl.len hl.row hm).mono ?_
  rintro e w' ⟨h1, h2, h3⟩
  have hkb : ∀ {k t : Nat} {cs : Array Value}, wr.heap[k]? = some (.cells cs t (0, 0)) → t ≠ 22 ∧ t ≠ 3 → w'.heap[k]? = some (.cells cs t (0, 0)) := fun {k t cs} hk ht => (h3.block k (blk_lt hk) (fun hi => by
    obtain ⟨c1, e1, h0, h1⟩ := In2.typed hT hi
    rw [hk] at h1
    injection h1 with h1
    injection h1 with _ h1
    rcases h0 with rfl | rfl
    · exact ht.1 h1
    · exact ht.2 h1)).trans hk
  refine ⟨h1, ?_, ⟨Nat.le_trans h.keep.1 h3.size, fun j hj hg hr => ?_⟩, ⟨vs, h2⟩, hkb h.c (by decide), hkb h.r (by decide), hkb h.o (by decide)⟩
  · obtain ⟨s, d1, ⟨A0, k0, d2, d3, d4⟩, d5⟩ := h.deck
    exact ⟨s, d1, ⟨A0, k0, hkb d2 (by decide), d3, d4⟩, d5.trans (h3.below d5.size (fun k hk => by have := (hT.lt hk).1; have := hwD.size; omega))⟩
  · exact (h3.block j (by have := h.keep.1; omega) (fun hi => by have := (hT.lt hi).1; omega)).trans (h.keep.2 j hj hg hr)
end
set_option maxHeartbeats 4000000 in
theorem lines_calls {S W L g : Nat} {wD w : World} {xs : List Int} (h : CacheOk S W L) (hd : Dk wD g xs w) : Calls Try.prog 93 #[.pointer (some ⟨g, 0, none⟩), .agg #[.int .i64 S, .int .i64 W, .int .i64 L]] w (NewL wD w g xs S W) := by
  have hW1 := h.w1; have hW4 := h.w4; have hS8 := h.s8
  have HC := Aside0.mk h
  have HWD := Aside0.mk hd.bel
  have HB0 : Aside0 (Below w.heap.size w ((w.alloc (.cells #[.int .i64 S, .int .i64 W, .int .i64 L] 26)).alloc (.cells #[.slice none 0 0] 54))) := ⟨((Below.refl _ _).alloc (Nat.le_refl _) _).alloc (by simp) _⟩
  have hemp := Aside0.mk (empty_calls h ((w.alloc (.cells #[.int .i64 S, .int .i64 W, .int .i64 L] 26)).alloc (.cells #[.slice none 0 0] 54)))
  have HD := Aside0.mk hd
  have HCE := Aside0.mk (Con.empty S W)
  clear hd h
  go_enter Try.func93, Try.ntmps93
  go_wp2_with (first | (go_at_call 104; refine hemp.out.mono ?_; rintro e w1 ⟨v, vs, rfl, hT, hb⟩; obtain ⟨A1, k1, rfl, _, _⟩ := hT.reads; have HB1 := Aside0.mk (HB0.out.trans (hb.mono HB0.out.size)); obtain ⟨b1, b2⟩ := two_box hb; have HJ : Aside0 (LJ wD w (w1.alloc (.cells #[.slice A1 (empty0 S W).length k1] 54)) g xs (.slice A1 (empty0 S W).length k1) (empty0 S W) w1.heap.size (.int .i64 S) (.int .i64 W) (.int .i64 L)) := ⟨(HD.out.below HB1.out).below ((Below.refl _ _).alloc (Nat.le_refl _) _), KeepBut.of_below (HB1.out.alloc HB1.out.size _) g none, ⟨vs, (hT.lower HB0.out.size).fr (S := fun _ => False) (Fr.ofBelow ((Below.refl _ _).alloc (Nat.le_refl _) _)) (fun _ _ h => h)⟩, blk_alloc b1 _, blk_alloc b2 _, heap_new _ _⟩; clear b1 b2 hb hT HB1) | (go_at_call 18; refine (next_calls HJ.out.deck 12 (by decide)).mono ?_; rintro e w2 ⟨k, rfl, hk1, hk2, hd2, hkb⟩; have HJ2 := Aside0.mk (HJ.out.next hd2 hkb); have hkk : k < 12 := (by have := hk1 (by decide); omega); clear hk1 hk2 hd2 hkb HJ))
  generalize w1.heap.size = bo at *
  generalize (empty0 S W).length = n0 at *
  generalize empty0 S W = l0 at *
  clear hemp HD
  go_loopw [6] (fun v6 wr => ∃ k : Nat, k < 12 ∧ v6 = .int .i64 k ∧ Aside0 (∃ l, Con S W l ∧ LJ wD w wr g xs (.slice A1 n0 k1) l bo (.int .i64 S) (.int .i64 W) (.int .i64 L))) (fun v6 _ => (RowKit.intOf v6).toNat)
  case atStart => exact ⟨_, hkk, rfl, l0, HCE.out, HJ2.out⟩
  case round =>
    clear HJ2 HCE hkk
    obtain ⟨k, hk12, rfl, HE⟩ := hrel
    obtain ⟨l, hCl, hJ⟩ := HE.out
    have HCl := Aside0.mk hCl
    have HJ := Aside0.mk hJ
    clear hCl hJ HE
    obtain ⟨q0, q1, q2, f0, f1, f2⟩ := cz3 HJ.out.c
    clear f0 f1 f2
    by_cases hk0 : 0 < k
    · obtain ⟨k, rfl⟩ : ∃ j, k = j + 1 := ⟨k - 1, by omega⟩
      have g1 : decide ((0 : Int) < ((k + 1 : Nat) : Int)) = true := decide_eq_true (by omega)
      have g1' : decide ((0 : Int) < (k : Int) + 1) = true := decide_eq_true (by omega)
      by_cases hs0 : 0 < S
      · have g2 : decide ((0 : Int) < (S : Int)) = true := decide_eq_true (by omega)
        obtain ⟨q5, f5⟩ := cz1' HJ.out.o
        have hnext := Aside0.mk (next_calls HJ.out.drew.deck 120 (by decide))
        have HJr := Aside0.mk HJ.out.drew
        clear f5
        go_upto_region 5 with (fail)
        go_region_held3 (fun w' => w'.cell? ⟨w.heap.size, 0, none⟩ = some (.int .i64 S) ∧ w'.cell? ⟨w.heap.size, 1, none⟩ = some (.int .i64 W) ∧ w'.cell? ⟨w.heap.size, 2, none⟩ = some (.int .i64 L) ∧ w'.cell? ⟨bo, 0, none⟩ = some (.slice A1 n0 k1))
          (first | exact ⟨q0, q1, q2, q5⟩ | exact ⟨q0b, q1b, q2b, q5b⟩ | exact ⟨q0c, q1c, q2c, q5c⟩ | go_keep)
          (first | (go_at_call 18; refine hnext.out.mono ?_; rintro e w3 ⟨r, rfl, hr1, hr2, hd3, hkb⟩; have HJ3 := Aside0.mk (HJr.out.next hd3 hkb); obtain ⟨q0b, q1b, q2b, f0, f1, f2⟩ := cz3 HJ3.out.c; obtain ⟨q5b, f5⟩ := cz1' HJ3.out.o; have HR := Aside0.mk (hr1 (by decide)); clear f0 f1 f2 f5 hr1 hr2 hd3 hkb) | (go_at_call 41; refine (HJ3.out.use HC.out HCl.out r (by have := HR.out; omega) HWD.out).mono ?_; rintro e w4 ⟨⟨r4, rfl⟩, hj4⟩; have HJ4 := Aside0.mk hj4; obtain ⟨q0c, q1c, q2c, f0, f1, f2⟩ := cz3 hj4.c; obtain ⟨q5c, f5⟩ := cz1' hj4.o; clear f0 f1 f2 f5 hj4))
        all_goals
          have HE3 : Aside0 (∃ l, Con S W l ∧ LJ wD w w4 g xs (.slice A1 n0 k1) l bo (.int .i64 S) (.int .i64 W) (.int .i64 L)) := ⟨_, HCl.out.use (by have := HR.out; omega), HJ4.out⟩
          clear HJ4 HJ3 HJ HJr hnext q0 q1 q2 q5
          go_wp2
          go_roundw
          case rel => exact ⟨k, by omega, by go_num, HE3⟩
          case measure => simp [RowKit.intOf]
      · have g2 : decide ((0 : Int) < (S : Int)) = false := decide_eq_false (by omega)
        obtain ⟨q5, f5⟩ := cz1' HJ.out.o
        obtain ⟨q4, f4⟩ := cz1' HJ.out.r
        clear f5
        go_wp2
        refine bodyPost_ret (results_cell rfl _ _ (w.heap.size + 1) 54 #[.slice A1 n0 k1] (0, 0) _ rfl (blk_put (cs := #[.slice none 0 0]) HJ.out.r 0 _ rfl) Try.underlying54 rfl (by kernel_rfl)) rfl ?_
        obtain ⟨vs, hT⟩ := HJ.out.sets
        have hsz := HWD.out.size
        exact ⟨_, vs, l, rfl, hT.setFar HJ.out.r (by decide) _, HCl.out, HJ.out.deck.set HJ.out.r (by decide) (by omega) _, KeepBut.setNew HJ.out.keep (by omega) _⟩
    · obtain rfl : k = 0 := by omega
      obtain ⟨q5, f5⟩ := cz1' HJ.out.o
      obtain ⟨q4, f4⟩ := cz1' HJ.out.r
      clear f5
      go_wp2
      refine bodyPost_ret (results_cell rfl _ _ (w.heap.size + 1) 54 #[.slice A1 n0 k1] (0, 0) _ rfl (blk_put (cs := #[.slice none 0 0]) HJ.out.r 0 _ rfl) Try.underlying54 rfl (by kernel_rfl)) rfl ?_
      obtain ⟨vs, hT⟩ := HJ.out.sets
      have hsz := HWD.out.size
      exact ⟨_, vs, l, rfl, hT.setFar HJ.out.r (by decide) _, HCl.out, HJ.out.deck.set HJ.out.r (by decide) (by omega) _, KeepBut.setNew HJ.out.keep (by omega) _⟩
end Go.Proofs.Ytkgocbmnjlfkoaa.M
end
section
namespace Go.Proofs.Ytkgocbmnjlfkoaa.M
open Go.RowKit Go.Proofs.Ytkgocbmnjlfkoaa.X Go.Proofs.YtkgocbmnjlfkoaaW.PrintWords Go.Proofs.YtkgocbmnjlfkoaaW.PrintLast Go.Proofs.YtkgocbmnjlfkoaaW.PrintMore
set_option linter.unusedVariables false
set_option linter.unusedSimpArgs false
set_option maxHeartbeats 4000000 in
theorem lines79_calls {S W L g : Nat} {wD w : World} {xs : List Int} (h : CacheOk S W L) (hd : Dk wD g xs w) : Calls Try.prog 79 #[.pointer (some ⟨g, 0, none⟩), .agg #[.int .i64 S, .int .i64 W, .int .i64 L]] w (NewL wD w g xs S W) := by
  have HB0 : Aside0 (Below w.heap.size w ((w.alloc (.cells #[.int .i64 S, .int .i64 W, .int .i64 L] 26)).alloc (.cells #[.slice none 0 0] 54))) := ⟨((Below.refl _ _).alloc (Nat.le_refl _) _).alloc (by simp) _⟩
  have hd0 : Dk wD g xs ((w.alloc (.cells #[.int .i64 S, .int .i64 W, .int .i64 L] 26)).alloc (.cells #[.slice none 0 0] 54)) := hd.below HB0.out
  have hin := Aside0.mk (lines_calls h hd0)
  have HD0 := Aside0.mk hd0
  have HWD := Aside0.mk hd.bel
  clear hd hd0 h
  go_enter Try.func79, Try.ntmps79
  go_wp2_with (go_at_call 93; refine hin.out.mono ?_; rintro e w1 ⟨v, vs, l, rfl, hT, hcon, hd, hk⟩; obtain ⟨A1, k1, rfl, _, _⟩ := hT.reads; obtain ⟨b1, b2⟩ := two_box (w := w) (o1 := .cells #[.int .i64 S, .int .i64 W, .int .i64 L] 26) (o2 := .cells #[.slice none 0 0] 54) (Below.refl _ _); have hbx := HD0.out.blk hk b2 (by decide); obtain ⟨q4, f4⟩ := cz1' hbx; have HBX := Aside0.mk hbx; have HT := Aside0.mk hT; have HCON := Aside0.mk hcon; have HD := Aside0.mk hd; have HK := Aside0.mk (KeepBut.trans (KeepBut.of_below HB0.out g none) hk (.inl rfl)); clear b1 b2 hbx hT hcon hd hk)
  refine bodyPost_ret (results_cell rfl _ _ (w.heap.size + 1) 54 #[.slice A1 l.length k1] (0, 0) _ rfl (blk_put (cs := #[.slice none 0 0]) HBX.out 0 _ rfl) Try.underlying54 rfl (by kernel_rfl)) rfl ?_
  have hsz := HWD.out.size
  exact ⟨_, vs, l, rfl, (HT.out.lower HB0.out.size).setFar HBX.out (by decide) _, HCON.out, HD.out.set HBX.out (by decide) (by omega) _, KeepBut.setNew HK.out (by omega) _⟩
set_option maxHeartbeats 4000000 in
theorem contents_calls {S W L g : Nat} {wD w : World} {xs : List Int} (h : CacheOk S W L) (hd : Dk wD g xs w) : Calls Try.prog 36 #[.pointer (some ⟨g, 0, none⟩), .agg #[.int .i64 S, .int .i64 W, .int .i64 L]] w (NewL wD w g xs S W) := by
  have HB0 : Aside0 (Below w.heap.size w ((w.alloc (.cells #[.int .i64 S, .int .i64 W, .int .i64 L] 26)).alloc (.cells #[.slice none 0 0] 54))) := ⟨((Below.refl _ _).alloc (Nat.le_refl _) _).alloc (by simp) _⟩
  have hd0 : Dk wD g xs ((w.alloc (.cells #[.int .i64 S, .int .i64 W, .int .i64 L] 26)).alloc (.cells #[.slice none 0 0] 54)) := hd.below HB0.out
  have hin := Aside0.mk (lines79_calls h hd0)
  have HD0 := Aside0.mk hd0
  have HWD := Aside0.mk hd.bel
  clear hd hd0 h
  go_enter Try.func36, Try.ntmps36
  go_wp2_with (go_at_call 79; refine hin.out.mono ?_; rintro e w1 ⟨v, vs, l, rfl, hT, hcon, hd, hk⟩; obtain ⟨A1, k1, rfl, _, _⟩ := hT.reads; obtain ⟨b1, b2⟩ := two_box (w := w) (o1 := .cells #[.int .i64 S, .int .i64 W, .int .i64 L] 26) (o2 := .cells #[.slice none 0 0] 54) (Below.refl _ _); have hbx := HD0.out.blk hk b2 (by decide); obtain ⟨q4, f4⟩ := cz1' hbx; have HBX := Aside0.mk hbx; have HT := Aside0.mk hT; have HCON := Aside0.mk hcon; have HD := Aside0.mk hd; have HK := Aside0.mk (KeepBut.trans (KeepBut.of_below HB0.out g none) hk (.inl rfl)); clear b1 b2 hbx hT hcon hd hk)
  refine bodyPost_ret (results_cell rfl _ _ (w.heap.size + 1) 54 #[.slice A1 l.length k1] (0, 0) _ rfl (blk_put (cs := #[.slice none 0 0]) HBX.out 0 _ rfl) Try.underlying54 rfl (by kernel_rfl)) rfl ?_
  have hsz := HWD.out.size
  exact ⟨_, vs, l, rfl, (HT.out.lower HB0.out.size).setFar HBX.out (by decide) _, HCON.out, HD.out.set HBX.out (by decide) (by omega) _, KeepBut.setNew HK.out (by omega) _⟩
end Go.Proofs.Ytkgocbmnjlfkoaa.M
end
section
namespace Go.Proofs.Ytkgocbmnjlfkoaa.M
open Go.RowKit Go.Proofs.Ytkgocbmnjlfkoaa.X Go.Proofs.YtkgocbmnjlfkoaaW.PrintWords Go.Proofs.YtkgocbmnjlfkoaaW.PrintLast Go.Proofs.YtkgocbmnjlfkoaaW.PrintMore
set_option linter.unusedVariables false
set_option linter.unusedSimpArgs false
theorem T3.rd {w : World} {b n c : Nat} {A : Option Addr} {vs : List Value} {us : List (List Value)} {x : List (List (List Int))} (h : T3 w b (.slice A n c) vs us x) : n = x.length ∧ x.length ≤ c ∧ C3 w A x := by
  obtain ⟨A2, c2, e, h1, h2⟩ := h.reads
  injection e with e1 e2 e3
  subst e1; subst e2; subst e3
  exact ⟨rfl, h1, h2⟩
theorem T2.rd {w : World} {b n c : Nat} {A : Option Addr} {vs : List Value} {x : List (List Int)} (h : T2 w b (.slice A n c) vs x) : n = x.length ∧ x.length ≤ c ∧ C2 w A x := by
  obtain ⟨A2, c2, e, h1, h2⟩ := h.reads
  injection e with e1 e2 e3
  subst e1; subst e2; subst e3
  exact ⟨rfl, h1, h2⟩
def NewM (wD w : World) (g : Nat) (xs : List Int) (S W : Nat) (e : Ending) (w' : World) : Prop := ∃ v vs us X, e = .returned (.agg #[v]) ∧ T3 w' w.heap.size v vs us X ∧ Val S W X ∧ Dk wD g xs w' ∧ KeepBut w w' g none
structure MB (wD w wr : World) (g : Nat) (xs : List Int) (c0 c1 c2 : Value) : Prop where
  deck : Dk wD g xs wr
  keep : KeepBut w wr g none
  c : wr.heap[w.heap.size]? = some (.cells #[c0, c1, c2] 26 (0, 0))
  r : wr.heap[w.heap.size + 1]? = some (.cells #[.slice none 0 0] 39 (0, 0))
structure MJ (wD w wr : World) (g : Nat) (xs : List Int) (v : Value) (X : List (List (List Int))) (bo : Nat) (c0 c1 c2 : Value) : Prop where
  mb : MB wD w wr g xs c0 c1 c2
  sets : ∃ vs us, T3 wr w.heap.size v vs us X
  o : wr.heap[bo]? = some (.cells #[v] 39 (0, 0))
  ob : w.heap.size + 1 < bo
section
variable {wD w wr w' : World} {g bo : Nat} {xs : List Int} {v v' c0 c1 c2 : Value} {X X' : List (List (List Int))} {vs : List Value} {us : List (List Value)}
theorem MB.step (h : MB wD w wr g xs c0 c1 c2) (hd : Dk wD g xs w') (hk : KeepBut wr w' g none) : MB wD w w' g xs c0 c1 c2 :=
  ⟨hd, h.keep.trans hk (.inl rfl), h.deck.blk hk h.c (by decide), h.deck.blk hk h.r (by decide)⟩
theorem MB.below (h : MB wD w wr g xs c0 c1 c2) (hb : Below wr.heap.size wr w') : MB wD w w' g xs c0 c1 c2 := h.step (h.deck.below hb) (KeepBut.of_below hb g none)
theorem MB.drew (h : MB wD w wr g xs c0 c1 c2) : MB wD w wr.drew g xs c0 c1 c2 := h.below (Below.refl _ _).drew
theorem MB.alloc (h : MB wD w wr g xs c0 c1 c2) (o : Obj) : MB wD w (wr.alloc o) g xs c0 c1 c2 := h.below ((Below.refl _ _).alloc (Nat.le_refl _) _)
theorem MB.size (h : MB wD w wr g xs c0 c1 c2) : w.heap.size + 1 < wr.heap.size := blk_lt h.r
theorem MB.set (h : MB wD w wr g xs c0 c1 c2) (hwD : Below wD.heap.size wD w) {cs : Array Value} (ho : wr.heap[bo]? = some (.cells cs 39 (0, 0))) (hb : w.heap.size + 1 < bo) (u : Value) : MB wD w (wr.setCell ⟨bo, 0, none⟩ u) g xs c0 c1 c2 := by
  have := hwD.size
  exact ⟨h.deck.set ho (by decide) (by omega) u, KeepBut.setNew h.keep (by omega) u, blk_farm h.c (by omega), blk_farm h.r (by omega)⟩
theorem MB.born (h : MB wD w wr g xs c0 c1 c2) (hT : T3 wr w.heap.size v vs us X) : MJ wD w (wr.alloc (.cells #[v] 39)) g xs v X wr.heap.size c0 c1 c2 :=
  ⟨h.alloc _, ⟨vs, us, hT.below ((Below.refl _ _).alloc (Nat.le_refl _) _)⟩, heap_new _ _, h.size⟩
theorem MB.put (h : MB wD w wr g xs c0 c1 c2) (hwD : Below wD.heap.size wD w) {u : Value} (ho : wr.heap[bo]? = some (.cells #[u] 39 (0, 0))) (hb : w.heap.size + 1 < bo) (hT : T3 wr w.heap.size v vs us X) : MJ wD w (wr.setCell ⟨bo, 0, none⟩ v) g xs v X bo c0 c1 c2 :=
  ⟨h.set hwD ho hb v, ⟨vs, us, hT.setFar ho (by decide) v⟩, blk_put ho 0 v rfl, hb⟩
theorem MJ.step (h : MJ wD w wr g xs v X bo c0 c1 c2) (hd : Dk wD g xs w') (hk : KeepBut wr w' g none) : MJ wD w w' g xs v X bo c0 c1 c2 := by
  obtain ⟨vs, us, hT⟩ := h.sets
  exact ⟨h.mb.step hd hk, ⟨vs, us, hT.keepD h.mb.deck hk⟩, h.mb.deck.blk hk h.o (by decide), h.ob⟩
theorem MJ.below (h : MJ wD w wr g xs v X bo c0 c1 c2) (hb : Below wr.heap.size wr w') : MJ wD w w' g xs v X bo c0 c1 c2 := h.step (h.mb.deck.below hb) (KeepBut.of_below hb g none)
theorem MJ.drew (h : MJ wD w wr g xs v X bo c0 c1 c2) : MJ wD w wr.drew g xs v X bo c0 c1 c2 := h.below (Below.refl _ _).drew
theorem MJ.put (h : MJ wD w wr g xs v X bo c0 c1 c2) (hwD : Below wD.heap.size wD w) (hT : T3 wr w.heap.size v' vs us X') : MJ wD w (wr.setCell ⟨bo, 0, none⟩ v') g xs v' X' bo c0 c1 c2 := h.mb.put hwD h.o h.ob hT
end
set_option maxHeartbeats 4000000 in
theorem must22_calls {S W L g : Nat} {wD w : World} {xs : List Int} (h : CacheOk S W L) (hd : Dk wD g xs w) : Calls Try.prog 22 #[.pointer (some ⟨g, 0, none⟩), .agg #[.int .i64 S, .int .i64 W, .int .i64 L]] w (NewM wD w g xs S W) := by
  have hW1 := h.w1; have hW4 := h.w4; have hS8 := h.s8
  have HC := Aside0.mk h
  have HWD := Aside0.mk hd.bel
  have hcon := Aside0.mk (fun W1 (hd1 : Dk wD g xs W1) => contents_calls h hd1)
  have hb0 : Below w.heap.size w ((w.alloc (.cells #[.int .i64 S, .int .i64 W, .int .i64 L] 26)).alloc (.cells #[.slice none 0 0] 39)) := ((Below.refl _ _).alloc (Nat.le_refl _) _).alloc (by simp) _
  obtain ⟨b1, b2⟩ := two_box (w := w) (o1 := .cells #[.int .i64 S, .int .i64 W, .int .i64 L] 26) (o2 := .cells #[.slice none 0 0] 39) (Below.refl _ _)
  have HMB : Aside0 (MB wD w ((w.alloc (.cells #[.int .i64 S, .int .i64 W, .int .i64 L] 26)).alloc (.cells #[.slice none 0 0] 39)) g xs (.int .i64 S) (.int .i64 W) (.int .i64 L)) := ⟨hd.below hb0, KeepBut.of_below hb0 g none, b1, b2⟩
  clear hd h hb0 b1 b2
  go_enter Try.func22, Try.ntmps22
  go_upto_region 1 with (fail)
  generalize (w.alloc (.cells #[.int .i64 S, .int .i64 W, .int .i64 L] 26)).alloc (.cells #[.slice none 0 0] 39) = W0 at *
  obtain ⟨q0, q1, q2, f0, f1, f2⟩ := cz3 HMB.out.c
  clear f0 f1 f2
  go_cut [5] from 7 to 11 (fun v5 wx => ∃ bo, v5 = .pointer (some ⟨bo, 0, none⟩) ∧ Aside0 (∃ A c1 X, Val S W X ∧ MJ wD w wx g xs (.slice A X.length c1) X bo (.int .i64 S) (.int .i64 W) (.int .i64 L)))
  case first =>
    have hz := HMB.out.size
    have n0 : w.heap.size ≠ W0.heap.size := by omega
    go_region_held3 (fun w' => w'.cell? ⟨w.heap.size, 0, none⟩ = some (.int .i64 S) ∧ w'.cell? ⟨w.heap.size, 1, none⟩ = some (.int .i64 W) ∧ w'.cell? ⟨w.heap.size, 2, none⟩ = some (.int .i64 L))
      (first | exact ⟨q0, q1, q2⟩ | exact ⟨pw_cell_below ((Below.refl _ W0).alloc (Nat.le_refl _) _) q0, pw_cell_below ((Below.refl _ W0).alloc (Nat.le_refl _) _) q1, pw_cell_below ((Below.refl _ W0).alloc (Nat.le_refl _) _) q2⟩ | exact ⟨q0b, q1b, q2b⟩ | exact ⟨pw_cell_below ((Below.refl _ w1).alloc (Nat.le_refl _) _) q0b, pw_cell_below ((Below.refl _ w1).alloc (Nat.le_refl _) _) q1b, pw_cell_below ((Below.refl _ w1).alloc (Nat.le_refl _) _) q2b⟩ | exact ⟨q0c, q1c, q2c⟩ | exact ⟨pw_cell_below ((Below.refl _ w2).alloc (Nat.le_refl _) _) q0c, pw_cell_below ((Below.refl _ w2).alloc (Nat.le_refl _) _) q1c, pw_cell_below ((Below.refl _ w2).alloc (Nat.le_refl _) _) q2c⟩ | exact ⟨(cell_far (show (⟨w.heap.size, 0, none⟩ : Addr).block ≠ (⟨W0.heap.size, 0, none⟩ : Addr).block from n0) _).trans q0c, (cell_far (show (⟨w.heap.size, 1, none⟩ : Addr).block ≠ (⟨W0.heap.size, 0, none⟩ : Addr).block from n0) _).trans q1c, (cell_far (show (⟨w.heap.size, 2, none⟩ : Addr).block ≠ (⟨W0.heap.size, 0, none⟩ : Addr).block from n0) _).trans q2c⟩ | exact ⟨(cell_far (show (⟨w.heap.size, 0, none⟩ : Addr).block ≠ (⟨w1.heap.size, 0, none⟩ : Addr).block from (show w.heap.size ≠ w1.heap.size by have := HM1.out.size; omega)) _).trans q0c, (cell_far (show (⟨w.heap.size, 1, none⟩ : Addr).block ≠ (⟨w1.heap.size, 0, none⟩ : Addr).block from (show w.heap.size ≠ w1.heap.size by have := HM1.out.size; omega)) _).trans q1c, (cell_far (show (⟨w.heap.size, 2, none⟩ : Addr).block ≠ (⟨w1.heap.size, 0, none⟩ : Addr).block from (show w.heap.size ≠ w1.heap.size by have := HM1.out.size; omega)) _).trans q2c⟩ | go_keep)
      (first | (go_at_call 36; (first | refine (hcon.out W0.drew HMB.out.drew.deck).mono ?_ | refine (hcon.out (W0.alloc (.cells #[.slice none 0 0] 39)).drew (HMB.out.alloc _).drew.deck).mono ?_); rintro e w1 ⟨v, vs, l, rfl, hT, hcn, hd, hk⟩; obtain ⟨A1, k1, rfl, hk1, hr1⟩ := hT.reads; have HM1 : Aside0 (MB wD w w1 g xs (.int .i64 S) (.int .i64 W) (.int .i64 L)) := ⟨(by first | exact HMB.out.drew.step hd hk | exact (HMB.out.alloc _).drew.step hd hk)⟩; (try (have kb := (HMB.out.alloc (.cells #[.slice none 0 0] 39)).drew.deck.blk hk (heap_new W0 (.cells #[.slice none 0 0] 39)) (by decide); have KB := Aside0.mk kb; clear kb)); obtain ⟨q0b, q1b, q2b, f0, f1, f2⟩ := cz3 HM1.out.c; clear f0 f1 f2; have HCN := Aside0.mk hcn; have HR1 := Aside0.mk hr1; clear hcn hd hk hT hr1) | (go_at_call 48; (first | refine (rof_calls HC.out A1 k1 l w1 HCN.out.len HCN.out.row HR1.out hk1).mono ?_ | refine (rof_calls HC.out A1 k1 l (w1.alloc (.cells #[.slice none 0 0] 39)) HCN.out.len HCN.out.row (Kd.C_below HR1.out ((Below.refl _ _).alloc (Nat.le_refl _) _)) hk1).mono ?_); rintro e w2 ⟨v2, vs2, us2, rfl, hT2, hb2⟩; obtain ⟨A2, k2, rfl, _, _⟩ := hT2.reads; have HM2 : Aside0 (MB wD w w2 g xs (.int .i64 S) (.int .i64 W) (.int .i64 L)) := ⟨(by first | exact HM1.out.below hb2 | exact (HM1.out.alloc _).below hb2)⟩; (try (have kb2 := (hb2.block w1.heap.size (by show w1.heap.size < (w1.alloc _).heap.size; rw [World.size_alloc]; omega)).trans (heap_new w1 (.cells #[.slice none 0 0] 39)); have KB2 := Aside0.mk kb2; obtain ⟨kc2, kf2⟩ := cz1' kb2; clear kb2)); (try (have kb3 := (hb2.block W0.heap.size (blk_lt KB.out)).trans KB.out; have KB3 := Aside0.mk kb3; obtain ⟨kc3, kf3⟩ := cz1' kb3; clear kb3)); obtain ⟨q0c, q1c, q2c, f0, f1, f2⟩ := cz3 HM2.out.c; clear f0 f1 f2; have HT2 : Aside0 (T3 w2 w.heap.size (.slice A2 (ofM S W l).length k2) vs2 us2 (ofM S W l)) := ⟨hT2.lower (by have := HM1.out.keep.1; first | exact this | (rw [World.size_alloc]; omega))⟩; clear hT2 hb2))
    all_goals
      go_wp2_with fail
      go_meet
      case rel =>
        first
        | exact ⟨_, rfl, ⟨_, _, _, HCN.out.of, HM2.out.born HT2.out⟩⟩
        | exact ⟨_, rfl, ⟨_, _, _, HCN.out.of, HM2.out.put HWD.out KB2.out HM1.out.size HT2.out⟩⟩
        | exact ⟨_, rfl, ⟨_, _, _, HCN.out.of, HM2.out.put HWD.out KB3.out hz HT2.out⟩⟩
  case rest =>
    obtain ⟨bo, rfl, HE⟩ := hcut
    clear HMB q0 q1 q2 hcon
    go_upto_region 2 with (fail)
    go_upto_if 14 with (first | (go_at_call 18; refine (next_calls (wD := wD) (xs := xs) (show Dk wD g xs wc by obtain ⟨_, _, _, _, hj⟩ := HE.out; exact hj.mb.deck) 3 (by decide)).mono ?_; rintro e w1 ⟨r, rfl, hr1, hr2, hd, hk⟩; have HE1 : Aside0 (∃ A c1 X, Val S W X ∧ MJ wD w w1 g xs (.slice A X.length c1) X bo (.int .i64 S) (.int .i64 W) (.int .i64 L)) := ⟨by obtain ⟨A, c1, X, hV, hj⟩ := HE.out; exact ⟨A, c1, X, hV, hj.step hd hk⟩⟩; clear hr1 hr2 hd hk HE))
    go_cut [] from 12 to 16 (fun wx => Aside0 (∃ A c1 X, Val S W X ∧ MJ wD w wx g xs (.slice A X.length c1) X bo (.int .i64 S) (.int .i64 W) (.int .i64 L)))
    case first =>
      obtain ⟨A, c1, X, hV, hj⟩ := HE1.out
      have HJ := Aside0.mk hj
      have HV := Aside0.mk hV
      clear hj hV
      obtain ⟨q0, q1, q2, f0, f1, f2⟩ := cz3 HJ.out.mb.c
      obtain ⟨q5, f5⟩ := cz1' HJ.out.o
      clear f0 f1 f2
      by_cases hr0 : r = 0
      · subst hr0
        go_wp2_with (first | (go_at_call 47; refine (rtop_calls HC.out w1).mono ?_; rintro e w2 ⟨v2, vs2, us2, rfl, hT2, hb2⟩; obtain ⟨A2, k2, rfl, hk2, hr2⟩ := hT2.reads; have HJ2 := Aside0.mk (HJ.out.below hb2); have HT2 := Aside0.mk (hT2.lower HJ.out.mb.keep.1); obtain ⟨q5c, f5c⟩ := cz1' HJ2.out.o; clear hT2 hb2 hr2 q0 q1 q2 q5 f5))
        go_meet
        case rel => exact ⟨A2, k2, top S W, Val.top S W, HJ2.out.put HWD.out HT2.out⟩
      · have g1 : ((r : Int) == 0) = false := beq_eq_false_iff_ne.2 (by omega)
        go_wp2_with (fail)
        go_meet
        case rel => exact ⟨A, c1, X, HV.out, HJ.out⟩
    case rest =>
      have HE2 := hcut
      clear hcut HE1
      go_wp2_with (first | (go_at_call 18; refine (next_calls (wD := wD) (xs := xs) (by obtain ⟨_, _, _, _, hj⟩ := HE2.out; exact hj.mb.deck) 8 (by decide)).mono ?_; rintro e w3 ⟨k, rfl, hr1, hr2, hd, hk⟩; have HE3 : Aside0 (∃ A c1 X, Val S W X ∧ MJ wD w w3 g xs (.slice A X.length c1) X bo (.int .i64 S) (.int .i64 W) (.int .i64 L)) := ⟨by obtain ⟨A, c1, X, hV, hj⟩ := HE2.out; exact ⟨A, c1, X, hV, hj.step hd hk⟩⟩; have hk8 : k < 8 := (by have := hr1 (by decide); omega); clear hr1 hr2 hd hk HE2))
      go_loopw [6] (fun v6 wr => ∃ k : Nat, k < 8 ∧ v6 = .int .i64 k ∧ Aside0 (∃ A c1 X, Val S W X ∧ MJ wD w wr g xs (.slice A X.length c1) X bo (.int .i64 S) (.int .i64 W) (.int .i64 L))) (fun v6 _ => (RowKit.intOf v6).toNat)
      case atStart => exact ⟨k, hk8, rfl, HE3⟩
      case round =>
        clear HE3 hk8
        obtain ⟨k, hk8, rfl, HE⟩ := hrel
        obtain ⟨A, c1, X, hV, hj⟩ := HE.out
        by_cases hk0 : 0 < k
        · obtain ⟨k, rfl⟩ : ∃ j, k = j + 1 := ⟨k - 1, by omega⟩
          have g1 : decide ((0 : Int) < ((k + 1 : Nat) : Int)) = true := decide_eq_true (by omega)
          have g1' : decide ((0 : Int) < (k : Int) + 1) = true := decide_eq_true (by omega)
          have HJ0 := Aside0.mk hj
          have HV := Aside0.mk hV
          clear hj hV HE
          go_upto_region 9 with (first | (go_at_call 18; refine (next_calls HJ0.out.mb.deck 4 (by decide)).mono ?_; rintro e w9 ⟨r, rfl, hr1, hr2, hd, hk⟩; have HJ := Aside0.mk (HJ0.out.step hd hk); clear hr1 hr2 hd hk HJ0))
          have hob := HJ.out.ob
          have hn0 : w.heap.size ≠ bo := by omega
          obtain ⟨q0, q1, q2, f0, f1, f2⟩ := cz3 HJ.out.mb.c
          obtain ⟨q5, f5⟩ := cz1' HJ.out.o
          clear f0 f1 f2
          by_cases hr0 : r = 0
          · subst hr0
            go_upto_region 10 with (fail)
            refine HeldTill.begin_ (S := fun w' => w'.cell? ⟨w.heap.size, 0, none⟩ = some (.int .i64 S) ∧ w'.cell? ⟨w.heap.size, 1, none⟩ = some (.int .i64 W) ∧ w'.cell? ⟨w.heap.size, 2, none⟩ = some (.int .i64 L) ∧ w'.cell? ⟨bo, 0, none⟩ = some (.slice A X.length c1)) (F := fun j => j != 8) (by kernel_rfl) ?_
            have hS0 : (fun w' => w'.cell? ⟨w.heap.size, 0, none⟩ = some (.int .i64 S) ∧ w'.cell? ⟨w.heap.size, 1, none⟩ = some (.int .i64 W) ∧ w'.cell? ⟨w.heap.size, 2, none⟩ = some (.int .i64 L) ∧ w'.cell? ⟨bo, 0, none⟩ = some (.slice A X.length c1)) w9.drew := ⟨q0, q1, q2, q5⟩
            refine HeldTill.take (i := 0) (n := 8) (v := ?_) rfl (by kernel_rfl) (by kernel_rfl) (by kernel_rfl) (by kernel_rfl) (fun _ _ _ h => h) (Or.inl ⟨by rfl, ?_⟩) hS0 ?_
            rotate_left
            · intro w hSw; (try dsimp only at hSw); go_simp; (try with_reducible rfl)
            simp only [Act.put, List.setIfInBounds_toArray, List.set_cons_zero, List.set_cons_succ, List.getElem_toArray, List.getElem_cons_zero, List.getElem_cons_succ]
            refine HeldTill.take (i := 1) (n := 7) (v := ?_) rfl (by kernel_rfl) (by kernel_rfl) (by kernel_rfl) (by kernel_rfl) (fun _ _ _ h => h) (Or.inl ⟨by rfl, ?_⟩) hS0 ?_
            rotate_left
            · intro w hSw; (try dsimp only at hSw); go_simp; (try with_reducible rfl)
            simp only [Act.put, List.setIfInBounds_toArray, List.set_cons_zero, List.set_cons_succ, List.getElem_toArray, List.getElem_cons_zero, List.getElem_cons_succ]
            refine HeldTill.take (i := 2) (n := 6) (v := ?_) rfl (by kernel_rfl) (by kernel_rfl) (by kernel_rfl) (by kernel_rfl) (fun _ _ _ h => h) (Or.inl ⟨by rfl, ?_⟩) hS0 ?_
            rotate_left
            · intro w hSw; (try dsimp only at hSw); go_simp; (try with_reducible rfl)
            simp only [Act.put, List.setIfInBounds_toArray, List.set_cons_zero, List.set_cons_succ, List.getElem_toArray, List.getElem_cons_zero, List.getElem_cons_succ]
            refine HeldTill.take (i := 3) (n := 5) (v := ?_) rfl (by kernel_rfl) (by kernel_rfl) (by kernel_rfl) (by kernel_rfl) (fun _ _ _ h => h) (Or.inl ⟨by rfl, ?_⟩) hS0 ?_
            rotate_left
            · intro w hSw; (try dsimp only at hSw); go_simp; (try with_reducible rfl)
            simp only [Act.put, List.setIfInBounds_toArray, List.set_cons_zero, List.set_cons_succ, List.getElem_toArray, List.getElem_cons_zero, List.getElem_cons_succ]
            refine HeldTill.take (i := 4) (n := 4) (v := ?_) rfl (by kernel_rfl) (by kernel_rfl) (by kernel_rfl) (by kernel_rfl) (fun _ _ _ h => h) (Or.inl ⟨by rfl, ?_⟩) hS0 ?_
            rotate_left
            · intro w hSw; (try dsimp only at hSw); go_simp; (try with_reducible rfl)
            simp only [Act.put, List.setIfInBounds_toArray, List.set_cons_zero, List.set_cons_succ, List.getElem_toArray, List.getElem_cons_zero, List.getElem_cons_succ]
            refine HeldTill.next (j := 5) (n := 3) (by kernel_rfl) rfl ?_
            go_wp2_with (go_at_call 28; refine (line_calls HJ.out.drew.mb.deck).mono ?_; rintro e w1 ⟨n, rfl, hn, hd, hk⟩; have HJ1 := Aside0.mk (HJ.out.drew.step hd hk); obtain ⟨q0b, q1b, q2b, f0, f1, f2⟩ := cz3 HJ1.out.mb.c; obtain ⟨q5b, f5b⟩ := cz1' HJ1.out.o; clear f0 f1 f2; have HR1 : Aside0 (X.length ≤ c1 ∧ C3 w1 A X) := ⟨by obtain ⟨_, _, hT⟩ := HJ1.out.sets; exact hT.rd.2⟩; have HVn := Aside0.mk (HV.out.touch (n := n) hn); clear hn hd hk)
            refine ⟨fun _ => ⟨q0b, q1b, q2b, q5b⟩, ?_⟩
            refine HeldTill.next (j := 6) (n := 2) (by kernel_rfl) rfl ?_
            go_wp2_with (go_at_call 44; refine (rtouch_calls HC.out A c1 X n w1 HV.out.fit HR1.out.2 HR1.out.1).mono ?_; rintro e w2 ⟨v2, vs2, us2, rfl, hT2, hb2⟩; obtain ⟨A2, k2, rfl, hk2, hr2⟩ := hT2.reads; have HJ2 := Aside0.mk (HJ1.out.below hb2); obtain ⟨q0c, q1c, q2c, f0, f1, f2⟩ := cz3 HJ2.out.mb.c; obtain ⟨q5c, f5c⟩ := cz1' HJ2.out.o; clear f0 f1 f2; have HR2 : Aside0 (X.length ≤ c1 ∧ C3 w2 A X) := ⟨by obtain ⟨_, _, hT⟩ := HJ2.out.sets; exact hT.rd.2⟩; have HT2 := Aside0.mk (hT2.lower HJ1.out.mb.keep.1); have HR2' := Aside0.mk hr2; clear hT2 hb2 hr2)
            refine ⟨fun _ => ⟨q0c, q1c, q2c, q5c⟩, ?_⟩
            refine HeldTill.next (j := 7) (n := 1) (by kernel_rfl) rfl ?_
            go_wp2_with (go_at_call 31; refine (rjoin_calls HC.out A A2 c1 k2 X (touchM S W X n) w2 HV.out.fit HVn.out.fit HR2.out.2 HR2.out.1 HR2'.out hk2).mono ?_; rintro e w3 ⟨v3, vs3, us3, rfl, hT3, hb3⟩; obtain ⟨A3, k3, rfl, hk3, hr3⟩ := hT3.reads; have HJ3 := Aside0.mk (HJ2.out.below hb3); obtain ⟨q0d, q1d, q2d, f0, f1, f2⟩ := cz3 HJ3.out.mb.c; obtain ⟨q5d, f5d⟩ := cz1' HJ3.out.o; clear f0 f1 f2; have HT3 := Aside0.mk (hT3.lower HJ2.out.mb.keep.1); clear hT3 hb3 hr3)
            refine ⟨fun _ => ⟨q0d, q1d, q2d, q5d⟩, ?_⟩
            refine HeldTill.next (j := 8) (n := 0) (by kernel_rfl) rfl ?_
            go_wp2
            refine ⟨fun h => absurd h (by decide), (by kernel_rfl), ?_⟩
            all_goals
              have HN : Aside0 (∃ A' c' X', Val S W X' ∧ MJ wD w (w3.setCell ⟨bo, 0, none⟩ (.slice A3 (joinM S W X (touchM S W X n)).length k3)) g xs (.slice A' X'.length c') X' bo (.int .i64 S) (.int .i64 W) (.int .i64 L)) := ⟨A3, k3, joinM S W X (touchM S W X n), HV.out.join _, HJ3.out.put HWD.out HT3.out⟩
              go_wp2
              go_roundw
              case rel => exact ⟨k, by omega, by go_num, HN⟩
              case measure => simp [RowKit.intOf]
          · have g2 : ((r : Int) == 0) = false := beq_eq_false_iff_ne.2 (by omega)
            by_cases hr1 : r = 1
            · subst hr1
              go_upto_region 12 with (fail)
              refine HeldTill.begin_ (S := fun w' => w'.cell? ⟨w.heap.size, 0, none⟩ = some (.int .i64 S) ∧ w'.cell? ⟨w.heap.size, 1, none⟩ = some (.int .i64 W) ∧ w'.cell? ⟨w.heap.size, 2, none⟩ = some (.int .i64 L) ∧ w'.cell? ⟨bo, 0, none⟩ = some (.slice A X.length c1)) (F := fun j => j != 5) (by kernel_rfl) ?_
              have hS0 : (fun w' => w'.cell? ⟨w.heap.size, 0, none⟩ = some (.int .i64 S) ∧ w'.cell? ⟨w.heap.size, 1, none⟩ = some (.int .i64 W) ∧ w'.cell? ⟨w.heap.size, 2, none⟩ = some (.int .i64 L) ∧ w'.cell? ⟨bo, 0, none⟩ = some (.slice A X.length c1)) w9.drew := ⟨q0, q1, q2, q5⟩
              refine HeldTill.take (i := 0) (n := 5) (v := ?_) rfl (by kernel_rfl) (by kernel_rfl) (by kernel_rfl) (by kernel_rfl) (fun _ _ _ h => h) (Or.inl ⟨by rfl, ?_⟩) hS0 ?_
              rotate_left
              · intro w hSw; (try dsimp only at hSw); go_simp; (try with_reducible rfl)
              simp only [Act.put, List.setIfInBounds_toArray, List.set_cons_zero, List.set_cons_succ, List.getElem_toArray, List.getElem_cons_zero, List.getElem_cons_succ]
              refine HeldTill.take (i := 1) (n := 4) (v := ?_) rfl (by kernel_rfl) (by kernel_rfl) (by kernel_rfl) (by kernel_rfl) (fun _ _ _ h => h) (Or.inl ⟨by rfl, ?_⟩) hS0 ?_
              rotate_left
              · intro w hSw; (try dsimp only at hSw); go_simp; (try with_reducible rfl)
              simp only [Act.put, List.setIfInBounds_toArray, List.set_cons_zero, List.set_cons_succ, List.getElem_toArray, List.getElem_cons_zero, List.getElem_cons_succ]
              refine HeldTill.take (i := 2) (n := 3) (v := ?_) rfl (by kernel_rfl) (by kernel_rfl) (by kernel_rfl) (by kernel_rfl) (fun _ _ _ h => h) (Or.inl ⟨by rfl, ?_⟩) hS0 ?_
              rotate_left
              · intro w hSw; (try dsimp only at hSw); go_simp; (try with_reducible rfl)
              simp only [Act.put, List.setIfInBounds_toArray, List.set_cons_zero, List.set_cons_succ, List.getElem_toArray, List.getElem_cons_zero, List.getElem_cons_succ]
              refine HeldTill.next (j := 3) (n := 2) (by kernel_rfl) rfl ?_
              go_wp2_with (go_at_call 38; refine (few_calls HJ.out.drew.mb.deck).mono ?_; rintro e w1 ⟨Af, cf, lf, rfl, hcf, hrf, hlf, hlf3, hd, hk⟩; have HJ1 := Aside0.mk (HJ.out.drew.step hd hk); obtain ⟨q0b, q1b, q2b, f0, f1, f2⟩ := cz3 HJ1.out.mb.c; obtain ⟨q5b, f5b⟩ := cz1' HJ1.out.o; clear f0 f1 f2; have HR1 : Aside0 (X.length ≤ c1 ∧ C3 w1 A X) := ⟨by obtain ⟨_, _, hT⟩ := HJ1.out.sets; exact hT.rd.2⟩; have HRf := Aside0.mk hrf; have HLf := Aside0.mk hlf; have hlf4 : lf.length < 1099511627776 := (by omega); clear hrf hlf hlf3 hd hk)
              refine ⟨fun _ => ⟨q0b, q1b, q2b, q5b⟩, ?_⟩
              refine HeldTill.next (j := 4) (n := 1) (by kernel_rfl) rfl ?_
              go_wp2_with (go_at_call 46; refine (reither_calls HC.out A Af c1 cf X lf w1 HV.out HLf.out HR1.out.2 HR1.out.1 HRf.out hcf hlf4).mono ?_; rintro e w2 ⟨v2, vs2, us2, rfl, hT2, hb2⟩; obtain ⟨A2, k2, rfl, hk2, hr2⟩ := hT2.reads; have HJ2 := Aside0.mk (HJ1.out.below hb2); obtain ⟨q0c, q1c, q2c, f0, f1, f2⟩ := cz3 HJ2.out.mb.c; obtain ⟨q5c, f5c⟩ := cz1' HJ2.out.o; clear f0 f1 f2; have HT2 := Aside0.mk (hT2.lower HJ1.out.mb.keep.1); clear hT2 hb2 hr2)
              refine ⟨fun _ => ⟨q0c, q1c, q2c, q5c⟩, ?_⟩
              refine HeldTill.next (j := 5) (n := 0) (by kernel_rfl) rfl ?_
              go_wp2
              refine ⟨fun h => absurd h (by decide), (by kernel_rfl), ?_⟩
              all_goals
                have HN : Aside0 (∃ A' c' X', Val S W X' ∧ MJ wD w (w2.setCell ⟨bo, 0, none⟩ (.slice A2 (eitherM S W X lf).length k2)) g xs (.slice A' X'.length c') X' bo (.int .i64 S) (.int .i64 W) (.int .i64 L)) := ⟨A2, k2, eitherM S W X lf, HV.out.either HLf.out, HJ2.out.put HWD.out HT2.out⟩
                go_wp2
                go_roundw
                case rel => exact ⟨k, by omega, by go_num, HN⟩
                case measure => simp [RowKit.intOf]
            · have g3 : ((r : Int) == 1) = false := beq_eq_false_iff_ne.2 (by omega)
              go_upto_region 8 with (fail)
              refine HeldTill.begin_ (S := fun w' => w'.cell? ⟨w.heap.size, 0, none⟩ = some (.int .i64 S) ∧ w'.cell? ⟨w.heap.size, 1, none⟩ = some (.int .i64 W) ∧ w'.cell? ⟨w.heap.size, 2, none⟩ = some (.int .i64 L) ∧ w'.cell? ⟨bo, 0, none⟩ = some (.slice A X.length c1)) (F := fun j => j != 5) (by kernel_rfl) ?_
              have hS0 : (fun w' => w'.cell? ⟨w.heap.size, 0, none⟩ = some (.int .i64 S) ∧ w'.cell? ⟨w.heap.size, 1, none⟩ = some (.int .i64 W) ∧ w'.cell? ⟨w.heap.size, 2, none⟩ = some (.int .i64 L) ∧ w'.cell? ⟨bo, 0, none⟩ = some (.slice A X.length c1)) w9.drew := ⟨q0, q1, q2, q5⟩
              refine HeldTill.take (i := 0) (n := 5) (v := ?_) rfl (by kernel_rfl) (by kernel_rfl) (by kernel_rfl) (by kernel_rfl) (fun _ _ _ h => h) (Or.inl ⟨by rfl, ?_⟩) hS0 ?_
              rotate_left
              · intro w hSw; (try dsimp only at hSw); go_simp; (try with_reducible rfl)
              simp only [Act.put, List.setIfInBounds_toArray, List.set_cons_zero, List.set_cons_succ, List.getElem_toArray, List.getElem_cons_zero, List.getElem_cons_succ]
              refine HeldTill.take (i := 1) (n := 4) (v := ?_) rfl (by kernel_rfl) (by kernel_rfl) (by kernel_rfl) (by kernel_rfl) (fun _ _ _ h => h) (Or.inl ⟨by rfl, ?_⟩) hS0 ?_
              rotate_left
              · intro w hSw; (try dsimp only at hSw); go_simp; (try with_reducible rfl)
              simp only [Act.put, List.setIfInBounds_toArray, List.set_cons_zero, List.set_cons_succ, List.getElem_toArray, List.getElem_cons_zero, List.getElem_cons_succ]
              refine HeldTill.take (i := 2) (n := 3) (v := ?_) rfl (by kernel_rfl) (by kernel_rfl) (by kernel_rfl) (by kernel_rfl) (fun _ _ _ h => h) (Or.inl ⟨by rfl, ?_⟩) hS0 ?_
              rotate_left
              · intro w hSw; (try dsimp only at hSw); go_simp; (try with_reducible rfl)
              simp only [Act.put, List.setIfInBounds_toArray, List.set_cons_zero, List.set_cons_succ, List.getElem_toArray, List.getElem_cons_zero, List.getElem_cons_succ]
              refine HeldTill.next (j := 3) (n := 2) (by kernel_rfl) rfl ?_
              go_wp2_with (go_at_call 28; refine (line_calls HJ.out.drew.mb.deck).mono ?_; rintro e w1 ⟨n, rfl, hn, hd, hk⟩; have HJ1 := Aside0.mk (HJ.out.drew.step hd hk); obtain ⟨q0b, q1b, q2b, f0, f1, f2⟩ := cz3 HJ1.out.mb.c; obtain ⟨q5b, f5b⟩ := cz1' HJ1.out.o; clear f0 f1 f2; have HR1 : Aside0 (X.length ≤ c1 ∧ C3 w1 A X) := ⟨by obtain ⟨_, _, hT⟩ := HJ1.out.sets; exact hT.rd.2⟩; have HVn := Aside0.mk (HV.out.touch (n := n) hn); clear hn hd hk)
              refine ⟨fun _ => ⟨q0b, q1b, q2b, q5b⟩, ?_⟩
              refine HeldTill.next (j := 4) (n := 1) (by kernel_rfl) rfl ?_
              go_wp2_with (go_at_call 44; refine (rtouch_calls HC.out A c1 X n w1 HV.out.fit HR1.out.2 HR1.out.1).mono ?_; rintro e w2 ⟨v2, vs2, us2, rfl, hT2, hb2⟩; obtain ⟨A2, k2, rfl, hk2, hr2⟩ := hT2.reads; have HJ2 := Aside0.mk (HJ1.out.below hb2); obtain ⟨q0c, q1c, q2c, f0, f1, f2⟩ := cz3 HJ2.out.mb.c; obtain ⟨q5c, f5c⟩ := cz1' HJ2.out.o; clear f0 f1 f2; have HR2 : Aside0 (X.length ≤ c1 ∧ C3 w2 A X) := ⟨by obtain ⟨_, _, hT⟩ := HJ2.out.sets; exact hT.rd.2⟩; have HT2 := Aside0.mk (hT2.lower HJ1.out.mb.keep.1); have HR2' := Aside0.mk hr2; clear hT2 hb2 hr2)
              refine ⟨fun _ => ⟨q0c, q1c, q2c, q5c⟩, ?_⟩
              refine HeldTill.next (j := 5) (n := 0) (by kernel_rfl) rfl ?_
              go_wp2
              refine ⟨fun h => absurd h (by decide), (by kernel_rfl), ?_⟩
              all_goals
                have HN : Aside0 (∃ A' c' X', Val S W X' ∧ MJ wD w (w2.setCell ⟨bo, 0, none⟩ (.slice A2 (touchM S W X n).length k2)) g xs (.slice A' X'.length c') X' bo (.int .i64 S) (.int .i64 W) (.int .i64 L)) := ⟨A2, k2, touchM S W X n, HVn.out, HJ2.out.put HWD.out HT2.out⟩
                go_wp2
                go_roundw
                case rel => exact ⟨k, by omega, by go_num, HN⟩
                case measure => simp [RowKit.intOf]
        · obtain rfl : k = 0 := by omega
          have HJ := Aside0.mk hj
          have HV := Aside0.mk hV
          clear hj hV HE
          obtain ⟨q5, f5⟩ := cz1' HJ.out.o
          obtain ⟨q4, f4⟩ := cz1' HJ.out.mb.r
          clear f5
          go_wp2
          refine bodyPost_ret (results_cell rfl _ _ (w.heap.size + 1) 39 #[.slice A X.length c1] (0, 0) _ rfl (blk_put (cs := #[.slice none 0 0]) HJ.out.mb.r 0 _ rfl) Try.underlying39 rfl (by kernel_rfl)) rfl ?_
          obtain ⟨vs, us, hT⟩ := HJ.out.sets
          have hsz := HWD.out.size
          exact ⟨_, vs, us, X, rfl, hT.setFar HJ.out.mb.r (by decide) _, HV.out, HJ.out.mb.deck.set HJ.out.mb.r (by decide) (by omega) _, KeepBut.setNew HJ.out.mb.keep (by omega) _⟩
end Go.Proofs.Ytkgocbmnjlfkoaa.M
end
section
namespace Go.Proofs.Ytkgocbmnjlfkoaa.M
open Go.RowKit Go.Maps Go.Proofs.Ytkgocbmnjlfkoaa.X Go.Proofs.YtkgocbmnjlfkoaaW.PrintWords Go.Proofs.YtkgocbmnjlfkoaaW.PrintLast Go.Proofs.YtkgocbmnjlfkoaaW.PrintMore
set_option linter.unusedVariables false
set_option linter.unusedSimpArgs false
def seenD (ys : List Int) : DataW Unit := ys.foldl (fun D y => D.put (.int .i64 y) (.lit (.bool true))) (.map [])
theorem keyed3 : Keyed Try.prog 3 := int_keyed Try.underlying3
theorem zero4 (w : World) : (zeroValue 4).run Try.prog w = .ok (.bool false) w := by kernel_rfl
theorem und92 : Try.prog.underlying 92 = some (.map 3 4) := by kernel_rfl
def Seen (w : World) (b n : Nat) (ys : List Int) : Prop := World.ownsMap w Try.prog 3 (plainElem Try.prog 4) b n (seenD ys)
theorem seenD_snoc (ys : List Int) (y : Int) : seenD (ys ++ [y]) = (seenD ys).put (.int .i64 y) (.lit (.bool true)) := by
  unfold seenD
  rw [List.foldl_append]
  rfl
theorem isMap_put {D : DataW Unit} (h : IsMap D) (k : Lit) (d : DataW Unit) : IsMap (D.put k d) := by
  obtain ⟨es, rfl⟩ := h
  exact ⟨_, rfl⟩
theorem seenD_at (y : Int) : ∀ (ys : List Int) {D : DataW Unit}, IsMap D → (ys.foldl (fun D y => D.put (.int .i64 y) (.lit (.bool true))) D).atKey (.int .i64 y) (.lit (.bool false)) = if y ∈ ys then .lit (.bool true) else D.atKey (.int .i64 y) (.lit (.bool false))
  | [], D, h => by simp
  | z :: ys, D, h => by
    rw [List.foldl_cons, seenD_at y ys (isMap_put h _ _)]
    by_cases h1 : y ∈ ys
    · rw [if_pos h1, if_pos (List.mem_cons_of_mem _ h1)]
    · rw [if_neg h1]
      by_cases e : y = z
      · subst e
        rw [if_pos List.mem_cons_self, atKey_put_same h (by trivial)]
      · rw [if_neg (fun hm => by
          rcases List.mem_cons.1 hm with h2 | h2
          · exact e h2
          · exact h1 h2), atKey_put_other (by intro h2; injection h2 with _ h2; exact e h2)]
theorem pe_bool_inv {P : Program} {e : TypeId} (he : P.underlying e = some .bool) {v : Value} {z : DataW Unit × List MemPlace} (h : plainElem P e v = some z) : ∃ b, v = .bool b ∧ z = (.lit (.bool b), []) := by
  unfold plainElem at h
  rw [he] at h
  cases v <;> simp at h
  exact ⟨_, rfl, h.symm⟩
theorem Seen.look {w : World} {b n : Nat} {ys : List Int} (h : Seen w b n ys) {y : Int} (hy : (Lit.int .i64 y).wf = true) : (Instr.lookup 92 (.map (some b)) (.int .i64 y) false).run Try.prog w = .ok (.bool (decide (y ∈ ys))) w := by
  obtain ⟨v, ps, hrun, hv⟩ := World.ownsMap.lookup h keyed3 und92 (zero4 w) (plainElem_bool Try.underlying4 false) (keyOf_int_mk Try.underlying3 hy)
  refine hrun.trans ?_
  have h1 := seenD_at y ys (D := .map []) isMap_empty
  have h2 : (seenD ys).atKey (.int .i64 y) (.lit (.bool false)) = .lit (.bool (decide (y ∈ ys))) := by
    unfold seenD
    rw [h1]
    by_cases h3 : y ∈ ys
    · rw [if_pos h3, decide_eq_true h3]
    · rw [if_neg h3, decide_eq_false h3]
      rfl
  rw [h2] at hv
  obtain ⟨c, rfl, hc⟩ := pe_bool_inv Try.underlying4 hv
  have h5 : decide (y ∈ ys) = c := Lit.bool.inj (DataW.lit.inj (Prod.mk.inj hc).1)
  exact congrArg (fun q => Result.ok (Value.bool q) w) h5.symm
theorem Seen.put {w : World} {b n : Nat} {ys : List Int} (h : Seen w b n ys) (hn : n < maxLen) {y : Int} (hy : (Lit.int .i64 y).wf = true) : ∃ w', (Instr.mapUpdate 92 (.map (some b)) (.int .i64 y) (.bool true)).run Try.prog w = .ok () w' ∧ Seen w' b (n + 1) (ys ++ [y]) ∧ w.grownBy w' (some b) := by
  obtain ⟨w', h1, h2, h3⟩ := World.ownsMap.update h keyed3 und92 hn (keyOf_int_mk Try.underlying3 hy) (plainElem_bool Try.underlying4 true)
  exact ⟨w', h1, by unfold Seen; rw [seenD_snoc]; exact h2, h3⟩
theorem Seen.made (w : World) : Seen (w.alloc (.map #[] 0)) w.heap.size 0 [] := World.ownsMap_made _ _ _ _
theorem Seen.move {w w' : World} {b n : Nat} {ys : List Int} (h : Seen w b n ys) (hb : w'.heap[b]? = w.heap[b]?) : Seen w' b n ys := by
  obtain ⟨es, clock, h1, h2, h3, h4⟩ := h
  exact ⟨es, clock, hb.trans h1, h2, h3, h4⟩
theorem Seen.lt {w : World} {b n : Nat} {ys : List Int} (h : Seen w b n ys) : b < w.heap.size := by
  obtain ⟨es, clock, h1, h2, h3, h4⟩ := h
  rcases Nat.lt_or_ge b w.heap.size with h5 | h5
  · exact h5
  · rw [Array.getElem?_eq_none h5] at h1; cases h1
end Go.Proofs.Ytkgocbmnjlfkoaa.M
end
section
namespace Go.Proofs.Ytkgocbmnjlfkoaa.M
open Go.RowKit Go.Proofs.Ytkgocbmnjlfkoaa.X Go.Proofs.YtkgocbmnjlfkoaaW.PrintWords Go.Proofs.YtkgocbmnjlfkoaaW.PrintLast Go.Proofs.YtkgocbmnjlfkoaaW.PrintMore
set_option linter.unusedVariables false
set_option linter.unusedSimpArgs false
def seenL (r : List (List Int)) (a : Nat) : List Int := (r.take a).flatten
theorem seenL_succ {r : List (List Int)} {a : Nat} (h : a < r.length) : seenL r (a + 1) = seenL r a ++ r[a].take r[a].length := by
  unfold seenL
  rw [List.take_succ_eq_append_getElem h, List.flatten_append, List.take_length]
  simp
theorem mem_seenL {r : List (List Int)} {a : Nat} {y : Int} (h : y ∈ seenL r a) : ∃ j, j < a ∧ y ∈ r.getD j [] := by
  unfold seenL at h
  obtain ⟨l, h1, h2⟩ := List.mem_flatten.1 h
  obtain ⟨j, hj, rfl⟩ := List.getElem_of_mem h1
  rw [List.length_take] at hj
  refine ⟨j, by omega, ?_⟩
  rw [getD_lt (by omega)]
  rwa [List.getElem_take] at h2
structure LL (w wr : World) (n : Nat) (ys : List Int) (c0 c1 c2 : Value) : Prop where
  seen : Seen wr (w.heap.size + 1) n ys
  below : Below w.heap.size w wr
  c : wr.heap[w.heap.size]? = some (.cells #[c0, c1, c2] 26 (0, 0))
theorem LL.step {w wr w' : World} {n : Nat} {ys : List Int} {c0 c1 c2 : Value} (h : LL w wr n ys c0 c1 c2) (hb : Below wr.heap.size wr w') : LL w w' n ys c0 c1 c2 :=
  ⟨h.seen.move (hb.block _ h.seen.lt), h.below.trans (hb.mono h.below.size), (hb.block _ (blk_lt h.c)).trans h.c⟩
theorem LL.put {w wr w' : World} {n n' : Nat} {ys ys' : List Int} {c0 c1 c2 : Value} (h : LL w wr n ys c0 c1 c2) (hs : Seen w' (w.heap.size + 1) n' ys') (hg : wr.grownBy w' (some (w.heap.size + 1))) : LL w w' n' ys' c0 c1 c2 :=
  ⟨hs, h.below.trans ⟨hg.os, hg.tape, hg.output, hg.size, fun k hk => hg.block k (by have := h.below.size; omega) (by intro e; injection e with e; omega)⟩, (hg.block _ (blk_lt h.c) (by intro e; injection e with e; omega)).trans h.c⟩
theorem wf_line {m : Nat} (h : m ≤ 1048576) : (Lit.int .i64 (m : Int)).wf = true := by
  simp [Lit.wf, IntKind.min, IntKind.max, IntKind.signed, IntKind.bits]
  omega
set_option maxHeartbeats 4000000 in
theorem lists_calls {S W L : Nat} (h : CacheOk S W L) (A : Option Addr) (c s : Nat) (r : List (List Int)) (w : World) (hV : VS S s W r) (hs : s < S) (hr : C2 w A r) (hc : r.length ≤ c) :
    Calls Try.prog 91 #[.agg #[.int .i64 S, .int .i64 W, .int .i64 L], .int .i64 s, .slice A r.length c] w fun e w' => e = .returned (.bool true) ∧ Below w.heap.size w w' := by
  have hW4 := h.w4; have hS8 := h.s8
  have hrl : r.length < 5 := by rw [hV.len]; omega
  have HG := Aside0.mk hV.good
  have HV := Aside0.mk hV
  have HR := Aside0.mk hr
  have hset := Aside0.mk (fun (m : Nat) W1 => cache_Set.calls 2 S W L m _ W1 (set_ h m))
  have HL0 : Aside0 (LL w ((w.alloc (.cells #[.int .i64 S, .int .i64 W, .int .i64 L] 26)).alloc (.map #[] 0)) (cnt r 0) (seenL r 0) (.int .i64 S) (.int .i64 W) (.int .i64 L)) := ⟨by
    have := Seen.made (w.alloc (.cells #[.int .i64 S, .int .i64 W, .int .i64 L] 26))
    rw [World.size_alloc] at this
    exact this, ((Below.refl _ _).alloc (Nat.le_refl _) _).alloc (by simp) _, blk_alloc (heap_new _ _) _⟩
  clear hr hV h
  have hmm := @run_makeMap Try.prog
  go_enter Try.func91, Try.ntmps91
  go_wp2
  clear hmm
  go_loopw [15] (fun v15 wr => ∃ a : Nat, a ≤ r.length ∧ v15 = .int .i64 a ∧ Aside0 (LL w wr (cnt r a) (seenL r a) (.int .i64 S) (.int .i64 W) (.int .i64 L))) (fun v15 _ => r.length - (RowKit.intOf v15).toNat)
  case atStart => exact ⟨0, Nat.zero_le _, rfl, HL0⟩
  case round =>
    clear HL0
    obtain ⟨a, ha, rfl, HE⟩ := hrel
    by_cases hlt : a < r.length
    · obtain ⟨ad, A0, c0, rfl, hcell0w, hc0, hl0⟩ := C2.get HR.out hlt
      have hcell0 := pw_cell_below HE.out.below hcell0w
      have HE0 : Aside0 (LL w wr (cnt r a + 0) (seenL r a ++ r[a].take 0) (.int .i64 S) (.int .i64 W) (.int .i64 L)) := ⟨by simpa using HE.out⟩
      have HF : Aside0 (cnt r (a + 1) = cnt r a + r[a].length ∧ seenL r (a + 1) = seenL r a ++ r[a].take r[a].length) := ⟨by rw [cnt, getD_lt hlt], seenL_succ hlt⟩
      have hgl := HG.out _ (List.getElem_mem hlt)
      have hcl := cnt_le HG.out a
      have hcb : cnt r a ≤ 5 * 1048577 := Nat.le_trans hcl (Nat.mul_le_mul_right _ (by omega))
      have hll : r[a].length ≤ 1048577 := hgl.2
      have HP : Aside0 (∀ i (hi : i < r[a].length), (0 ≤ r[a][i] ∧ r[a][i] ≤ 1048576 ∧ r[a][i] % S = s) ∧ r[a][i] ∉ seenL r a ++ r[a].take i ∧ ∀ j (hj : j < r[a].length), j < i → r[a][j] < r[a][i]) := ⟨fun i hi => by
        have hm : r[a][i] ∈ r.getD a [] := by rw [getD_lt hlt]; exact List.getElem_mem hi
        have hasc := HV.out.asc a
        rw [getD_lt hlt] at hasc
        have hpw : ∀ j (hj : j < r[a].length), j < i → r[a][j] < r[a][i] := fun j hj hji => List.pairwise_iff_getElem.1 hasc j i hj hi hji
        refine ⟨HV.out.rng a _ hm, fun hmem => ?_, hpw⟩
        rcases List.mem_append.1 hmem with h1 | h1
        · obtain ⟨j, hj, h2⟩ := mem_seenL h1
          exact HV.out.uniq j a (by omega) _ h2 hm
        · obtain ⟨j, hj, e⟩ := List.getElem_of_mem h1
          rw [List.length_take] at hj
          rw [List.getElem_take] at e
          have := hpw j (by omega) (by omega)
          omega⟩
      have HCL := Aside0.mk (show C1 w A0 r[a] from hl0)
      have HBW := Aside0.mk HE.out.below
      clear hl0 HE hgl hcl hcell0w
      generalize seenL r a = yy at *
      generalize cnt r a = nn at *
      generalize r[a] = l at *
      obtain ⟨wo, rfl⟩ : ∃ wo : World, wo = wr := ⟨_, rfl⟩
      go_wp2
      go_loopw [21] (fun v21 wr => ∃ i : Nat, i ≤ l.length ∧ v21 = .int .i64 i ∧ Aside0 (LL w wr (nn + i) (yy ++ l.take i) (.int .i64 S) (.int .i64 W) (.int .i64 L))) (fun v21 _ => l.length - (RowKit.intOf v21).toNat)
      case atStart => exact ⟨0, Nat.zero_le _, rfl, HE0⟩
      case round =>
        clear HE0 hcell0
        obtain ⟨i, hi, rfl, HE⟩ := hrel
        by_cases hil : i < l.length
        · obtain ⟨ad1, rfl, hcell⟩ := C1.get (Kd.C_below HCL.out HE.out.below) hil
          obtain ⟨⟨h1, h2, h3⟩, h4, h5⟩ := HP.out i hil
          have HT : Aside0 (yy ++ l.take (i + 1) = (yy ++ l.take i) ++ [l[i]]) := ⟨by rw [List.take_succ_eq_append_getElem hil, List.append_assoc]⟩
          obtain ⟨q0, q1, q2, f0, f1, f2⟩ := cz3 HE.out.c
          obtain ⟨m, hm⟩ : ∃ m : Nat, l[i] = (m : Int) := ⟨l[i].toNat, by omega⟩
          have H4 := Aside0.mk h4
          have h3' : m % S = s := by rw [hm] at h3; omega
          have HSET : Aside0 (∀ W1, Calls Try.prog 87 #[.agg #[.int .i64 S, .int .i64 W, .int .i64 L], .int .i64 m] W1 fun e w' => e = .returned (.int .i64 s) ∧ Below W1.heap.size W1 w') := ⟨fun W1 => by have := hset.out m W1; rw [if_neg (by omega), h3'] at this; exact this⟩
          have g1 : decide ((m : Int) < 0) = false := decide_eq_false (by omega)
          have g2 : decide ((1048576 : Int) < (m : Int)) = false := decide_eq_false (by omega)
          have hm9 : m ≤ 1048576 := by omega
          have HWF := Aside0.mk (wf_line hm9)
          have hnm : nn + i < maxLen := by unfold maxLen; omega
          by_cases hi0 : i = 0
          · subst hi0
            rw [hm] at hcell H4 HT
            rw [Addr.add_zero'] at hcell
            clear h1 h2 h3 h4 h5 hm f0 f1 f2 h3'
            go_wp2_with (first | (go_at_call 87; refine (HSET.out _).mono ?_; rintro e w1 ⟨rfl, hb⟩; have HL1 := Aside0.mk (HE.out.step hb); have hlk := HL1.out.seen.look HWF.out; rw [decide_eq_false H4.out] at hlk; obtain ⟨w2, hup, hs2, hg2⟩ := HL1.out.seen.put hnm HWF.out; have HL2 := Aside0.mk (HL1.out.put hs2 hg2); clear hs2 hg2 hb q0 q1 q2))
            go_roundw
            case rel => exact ⟨0 + 1, hil, by go_num, ⟨by rw [HT.out]; exact HL2.out⟩⟩
            case measure => simp [RowKit.intOf]; omega
          · obtain ⟨j, rfl⟩ : ∃ j, i = j + 1 := ⟨i - 1, by omega⟩
            have h6 := h5 j (by omega) (by omega)
            obtain ⟨ad2, e2, hcellp⟩ := C1.get (Kd.C_below HCL.out HE.out.below) (show j < l.length by omega)
            injection e2 with e2
            subst e2
            rw [hm] at hcell H4 HT h6
            have g3 : decide ((m : Int) ≤ l[j]) = false := decide_eq_false (by omega)
            have g4 : decide ((0 : Int) < (j : Int) + 1) = true := decide_eq_true (by omega)
            have g5 : decide ((0 : Int) < ((j + 1 : Nat) : Int)) = true := decide_eq_true (by omega)
            have hcell2 : wr.cell? ⟨ad1.block, ad1.off + (j + 1), none⟩ = some (.int .i64 m) := hcell
            clear h1 h2 h3 h4 h5 h6 hm f0 f1 f2 h3' hi0 hcell
            generalize l[j] = z at *
            go_wp2_with (first | (go_at_call 87; refine (HSET.out _).mono ?_; rintro e w1 ⟨rfl, hb⟩; have HL1 := Aside0.mk (HE.out.step hb); have hlk := HL1.out.seen.look HWF.out; rw [decide_eq_false H4.out] at hlk; obtain ⟨w2, hup, hs2, hg2⟩ := HL1.out.seen.put hnm HWF.out; have HL2 := Aside0.mk (HL1.out.put hs2 hg2); have hcp2 := pw_cell_below hb hcellp; clear hs2 hg2 hb q0 q1 q2))
            go_roundw
            case rel => exact ⟨j + 1 + 1, hil, by go_num, ⟨by rw [HT.out]; exact HL2.out⟩⟩
            case measure => simp [RowKit.intOf]; omega
        · obtain rfl : i = l.length := by omega
          have HE3 : Aside0 (LL w wr (cnt r (a + 1)) (seenL r (a + 1)) (.int .i64 S) (.int .i64 W) (.int .i64 L)) := ⟨by rw [HF.out.1, HF.out.2]; exact HE.out⟩
          clear HE
          go_wp2
          go_roundw
          case rel => exact ⟨a + 1, hlt, by go_num, HE3⟩
          case measure => simp [RowKit.intOf]; omega
    · obtain rfl : a = r.length := by omega
      go_wp2
      go_ret
      exact ⟨rfl, HE.out.below⟩
end Go.Proofs.Ytkgocbmnjlfkoaa.M
end
section
namespace Go.Proofs.Ytkgocbmnjlfkoaa.M
open Go.RowKit Go.Proofs.Ytkgocbmnjlfkoaa.X Go.Proofs.YtkgocbmnjlfkoaaW.PrintWords Go.Proofs.YtkgocbmnjlfkoaaW.PrintLast Go.Proofs.YtkgocbmnjlfkoaaW.PrintMore
set_option linter.unusedVariables false
set_option linter.unusedSimpArgs false
set_option maxHeartbeats 4000000 in
theorem valid71_calls {S W L : Nat} (h : CacheOk S W L) (A : Option Addr) (c : Nat) (x : List (List (List Int))) (w : World) (hV : Val S W x) (hr : C3 w A x) (hc : x.length ≤ c) :
    Calls Try.prog 71 #[.agg #[.int .i64 S, .int .i64 W, .int .i64 L], .slice A x.length c] w fun e w' => e = .returned (.bool true) ∧ Below w.heap.size w w' := by
  have hW4 := h.w4; have hS8 := h.s8
  have hchk := Aside0.mk (check_calls h (w.alloc (.cells #[.int .i64 S, .int .i64 W, .int .i64 L] 26)))
  have HB0 : Aside0 (Below w.heap.size w (w.alloc (.cells #[.int .i64 S, .int .i64 W, .int .i64 L] 26))) := ⟨(Below.refl _ _).alloc (Nat.le_refl _) _⟩
  have hli := Aside0.mk (fun A c s r W1 hV hs hr hc => lists_calls h A c s r W1 hV hs hr hc)
  have hxl := hV.len
  have g1 : ((x.length : Int) != (S : Int)) = false := by rw [hxl]; simp
  have hx9 : x.length < 9 := by omega
  have HX := Aside0.mk hxl
  have HV := Aside0.mk hV
  have HR := Aside0.mk hr
  clear hr hV h hxl
  go_enter Try.func71, Try.ntmps71
  go_wp2_with (first | (go_at_call 85; refine hchk.out.mono ?_; rintro e w1 ⟨rfl, hb⟩; have HB1 := Aside0.mk (HB0.out.trans (hb.mono HB0.out.size)); have HC := Aside0.mk (box_after hb); obtain ⟨q0, q1, q2, f0, f1, f2⟩ := cz3 HC.out; clear f0 f1 f2 hb))
  clear q0 q1 q2 g1 hchk
  go_loopw [19] (fun v19 wr => ∃ s : Nat, s ≤ x.length ∧ v19 = .int .i64 s ∧ Aside0 (Below w.heap.size w wr ∧ wr.heap[w.heap.size]? = some (.cells #[.int .i64 S, .int .i64 W, .int .i64 L] 26 (0, 0)))) (fun v19 _ => x.length - (RowKit.intOf v19).toNat)
  case atStart => exact ⟨0, Nat.zero_le _, rfl, ⟨HB1.out, HC.out⟩⟩
  case round =>
    clear HB1 HC
    obtain ⟨s, hs, rfl, HE⟩ := hrel
    by_cases hlt : s < x.length
    · obtain ⟨ad, A0, c0, rfl, hcell0w, hc0, hl0⟩ := C3.get HR.out hlt
      have hcell := pw_cell_below HE.out.1 hcell0w
      have hVS : VS S s W x[s] := by have := HV.out.el s (by rw [← HX.out]; exact hlt); rwa [getD_lt hlt] at this
      have hcall := Aside0.mk (hli.out A0 c0 s x[s] wr hVS (by rw [← HX.out]; exact hlt) (Kd.C_below hl0 HE.out.1) hc0)
      have g1 : ((x[s].length : Int) != (W : Int)) = false := by rw [hVS.len]; simp
      obtain ⟨q0, q1, q2, f0, f1, f2⟩ := cz3 HE.out.2
      clear f0 f1 f2 hl0 hcell0w hVS
      generalize x[s] = r at *
      go_wp2_with (first | (go_at_call 91; refine hcall.out.mono ?_; rintro e w1 ⟨rfl, hb⟩; have HE2 := Aside0.mk (And.intro (HE.out.1.trans (hb.mono HE.out.1.size)) ((hb.block _ (blk_lt HE.out.2)).trans HE.out.2)); clear hb))
      go_roundw
      case rel => exact ⟨s + 1, hlt, by go_num, HE2⟩
      case measure => simp [RowKit.intOf]; omega
    · obtain rfl : s = x.length := by omega
      go_wp2
      go_ret
      exact ⟨rfl, HE.out.1⟩
set_option maxHeartbeats 4000000 in
theorem mvalid_calls {S W L : Nat} (h : CacheOk S W L) (A : Option Addr) (c : Nat) (x : List (List (List Int))) (w : World) (hV : Val S W x) (hr : C3 w A x) (hc : x.length ≤ c) :
    Calls Try.prog 25 #[.agg #[.int .i64 S, .int .i64 W, .int .i64 L], .agg #[.slice A x.length c]] w fun e w' => e = .returned (.bool true) ∧ Below w.heap.size w w' := by
  have HB0 : Aside0 (Below w.heap.size w ((w.alloc (.cells #[.int .i64 S, .int .i64 W, .int .i64 L] 26)).alloc (.cells #[.slice A x.length c] 39))) := ⟨((Below.refl _ _).alloc (Nat.le_refl _) _).alloc (by simp) _⟩
  have hin := Aside0.mk (valid71_calls h A c x _ hV (Kd.C_below hr HB0.out) hc)
  clear hr hV h
  go_enter Try.func25, Try.ntmps25
  go_wp2_with (first | (go_at_call 71; refine hin.out.mono ?_; rintro e w1 ⟨rfl, hb⟩; have HB1 := Aside0.mk (HB0.out.trans (hb.mono HB0.out.size)); clear hb))
  go_ret
  exact ⟨rfl, HB1.out⟩
end Go.Proofs.Ytkgocbmnjlfkoaa.M
end
section
namespace Go.Proofs.Ytkgocbmnjlfkoaa.M
open Go.RowKit Go.Proofs.Ytkgocbmnjlfkoaa.X Go.Proofs.YtkgocbmnjlfkoaaW.PrintWords Go.Proofs.YtkgocbmnjlfkoaaW.PrintLast Go.Proofs.YtkgocbmnjlfkoaaW.PrintMore
set_option linter.unusedVariables false
set_option linter.unusedSimpArgs false
def exX : List (List (List Int)) := touchM 1 2 (touchM 1 2 (top 1 2) 4) 6
theorem exX_val : Val 1 2 exX := ((Val.top 1 2).touch (by decide)).touch (by decide)
theorem exC : CacheOk 1 2 1 := ⟨by decide, by decide, by decide, by decide, by decide⟩
theorem ex6 : ageM 1 2 exX 6 = 0 := by decide
theorem ex4 : ageM 1 2 exX 4 = 1 := by decide
theorem ex8 : ageM 1 2 exX 8 = 2 := by decide
structure AW (w wr : World) : Prop where
  below : Below w.heap.size w wr
  c : wr.heap[w.heap.size]? = some (.cells #[.int .i64 1, .int .i64 2, .int .i64 1] 26 (0, 0))
theorem AW.step {w wr w' : World} (h : AW w wr) (hb : Below wr.heap.size wr w') : AW w w' := ⟨h.below.trans (hb.mono h.below.size), (hb.block _ (blk_lt h.c)).trans h.c⟩
theorem AW.alloc {w wr : World} (h : AW w wr) (o : Obj) : AW w (wr.alloc o) := h.step ((Below.refl _ _).alloc (Nat.le_refl _) _)
structure AX (w wr : World) (bo : Nat) (A : Option Addr) (k : Nat) (x : List (List (List Int))) : Prop where
  aw : AW w wr
  o : wr.heap[bo]? = some (.cells #[.slice A x.length k] 39 (0, 0))
  len : x.length ≤ k
  reads : C3 wr A x
theorem AX.step {w wr w' : World} {bo k : Nat} {A : Option Addr} {x : List (List (List Int))} (h : AX w wr bo A k x) (hb : Below wr.heap.size wr w') : AX w w' bo A k x := ⟨h.aw.step hb, (hb.block _ (blk_lt h.o)).trans h.o, h.len, Kd.C_below h.reads hb⟩
theorem AW.born {w wr : World} {b k : Nat} {A : Option Addr} {x : List (List (List Int))} {vs : List Value} {us : List (List Value)} (h : AW w wr) (hT : T3 wr b (.slice A x.length k) vs us x) : AX w (wr.alloc (.cells #[.slice A x.length k] 39)) wr.heap.size A k x :=
  ⟨h.alloc _, heap_new _ _, hT.rd.2.1, Kd.C_below hT.rd.2.2 ((Below.refl _ _).alloc (Nat.le_refl _) _)⟩
theorem AW.put {w wr : World} {b k bo : Nat} {A : Option Addr} {x : List (List (List Int))} {u : Value} {vs : List Value} {us : List (List Value)} (h : AW w wr) (ho : wr.heap[bo]? = some (.cells #[u] 39 (0, 0))) (hb : w.heap.size < bo) (hT : T3 wr b (.slice A x.length k) vs us x) : AX w (wr.setCell ⟨bo, 0, none⟩ (.slice A x.length k)) bo A k x :=
  ⟨⟨h.below.setCell (by show w.heap.size ≤ bo; omega) _, blk_farm h.c (by omega)⟩, blk_put ho 0 _ rfl, hT.rd.2.1, (hT.setFar ho (by decide) _).rd.2.2⟩
set_option maxHeartbeats 4000000 in
set_option maxHeartbeats 1000000 in
theorem awake27_calls (w : World) : Calls Try.prog 27 #[] w fun e w' => e = .returned (.bool true) ∧ Below w.heap.size w w' := by
  have htop := Aside0.mk (fun W1 => (show Calls Try.prog 35 #[.agg #[.int .i64 1, .int .i64 2, .int .i64 1]] W1 (New3S W1 (top 1 2)) from mtop_calls exC W1))
  have ht4 := Aside0.mk (fun A k W1 (hr : C3 W1 A (top 1 2)) (hk : (top 1 2).length ≤ k) => (show Calls Try.prog 29 #[.agg #[.int .i64 1, .int .i64 2, .int .i64 1], .agg #[.slice A (top 1 2).length k], .int .i64 4] W1 (New3S W1 (touchM 1 2 (top 1 2) 4)) from touch_calls exC A k (top 1 2) 4 W1 (Val.top 1 2).fit hr hk))
  have ht6 := Aside0.mk (fun A k W1 (hr : C3 W1 A (touchM 1 2 (top 1 2) 4)) (hk : (touchM 1 2 (top 1 2) 4).length ≤ k) => (show Calls Try.prog 29 #[.agg #[.int .i64 1, .int .i64 2, .int .i64 1], .agg #[.slice A (touchM 1 2 (top 1 2) 4).length k], .int .i64 6] W1 (New3S W1 exX) from touch_calls exC A k (touchM 1 2 (top 1 2) 4) 6 W1 ((Val.top 1 2).touch (by decide)).fit hr hk))
  have h6 := Aside0.mk (fun A k W1 (hr : C3 W1 A exX) (hk : exX.length ≤ k) => (show Calls Try.prog 30 #[.agg #[.int .i64 1, .int .i64 2, .int .i64 1], .agg #[.slice A exX.length k], .int .i64 6] W1 (fun e w' => e = .returned (.int .i64 0) ∧ Below W1.heap.size W1 w') from (mage_calls exC A k exX 6 W1 exX_val.fit hr hk).mono (fun e w' h => ⟨h.1.trans (by rw [ex6]; rfl), h.2⟩)))
  have h4 := Aside0.mk (fun A k W1 (hr : C3 W1 A exX) (hk : exX.length ≤ k) => (show Calls Try.prog 30 #[.agg #[.int .i64 1, .int .i64 2, .int .i64 1], .agg #[.slice A exX.length k], .int .i64 4] W1 (fun e w' => e = .returned (.int .i64 1) ∧ Below W1.heap.size W1 w') from (mage_calls exC A k exX 4 W1 exX_val.fit hr hk).mono (fun e w' h => ⟨h.1.trans (by rw [ex4]; rfl), h.2⟩)))
  have h8 := Aside0.mk (fun A k W1 (hr : C3 W1 A exX) (hk : exX.length ≤ k) => (show Calls Try.prog 30 #[.agg #[.int .i64 1, .int .i64 2, .int .i64 1], .agg #[.slice A exX.length k], .int .i64 8] W1 (fun e w' => e = .returned (.int .i64 2) ∧ Below W1.heap.size W1 w') from (mage_calls exC A k exX 8 W1 exX_val.fit hr hk).mono (fun e w' h => ⟨h.1.trans (by rw [ex8]; rfl), h.2⟩)))
  have hval := Aside0.mk (fun A k W1 (hr : C3 W1 A exX) (hk : exX.length ≤ k) => (show Calls Try.prog 25 #[.agg #[.int .i64 1, .int .i64 2, .int .i64 1], .agg #[.slice A exX.length k]] W1 (fun e w' => e = .returned (.bool true) ∧ Below W1.heap.size W1 w') from mvalid_calls exC A k exX W1 exX_val hr hk))
  have HA0 : Aside0 (AW w (w.alloc (.cells #[.int .i64 1, .int .i64 2, .int .i64 1] 26))) := ⟨(Below.refl _ _).alloc (Nat.le_refl _) _, heap_new _ _⟩
  generalize top 1 2 = X0 at *
  generalize touchM 1 2 X0 4 = X1 at *
  generalize exX = X2 at *
  go_enter Try.func27, Try.ntmps27
  go_upto_region 2 with (fail)
  have HSZ : Aside0 (w.heap.size < (w.alloc (.cells #[.int .i64 1, .int .i64 2, .int .i64 1] 26)).heap.size) := ⟨by rw [World.size_alloc]; omega⟩
  generalize w.alloc (.cells #[.int .i64 1, .int .i64 2, .int .i64 1] 26) = W0 at *
  obtain ⟨q0, q1, q2, f0, f1, f2⟩ := cz3 HA0.out.c
  clear f0 f1 f2
  go_cut [2] from 4 to 9 (fun v2 wx => ∃ bo A k, v2 = .pointer (some ⟨bo, 0, none⟩) ∧ Aside0 (AX w wx bo A k X2))
  case first =>
    have n0 : w.heap.size ≠ W0.heap.size := by have := HSZ.out; omega
    go_region_held3 (fun w' => w'.cell? ⟨w.heap.size, 0, none⟩ = some (.int .i64 1) ∧ w'.cell? ⟨w.heap.size, 1, none⟩ = some (.int .i64 2) ∧ w'.cell? ⟨w.heap.size, 2, none⟩ = some (.int .i64 1))
      (first | exact ⟨q0, q1, q2⟩ | exact ⟨pw_cell_below ((Below.refl _ W0).alloc (Nat.le_refl _) _) q0, pw_cell_below ((Below.refl _ W0).alloc (Nat.le_refl _) _) q1, pw_cell_below ((Below.refl _ W0).alloc (Nat.le_refl _) _) q2⟩ | exact ⟨q0b, q1b, q2b⟩ | exact ⟨pw_cell_below ((Below.refl _ w1).alloc (Nat.le_refl _) _) q0b, pw_cell_below ((Below.refl _ w1).alloc (Nat.le_refl _) _) q1b, pw_cell_below ((Below.refl _ w1).alloc (Nat.le_refl _) _) q2b⟩ | exact ⟨q0c, q1c, q2c⟩ | exact ⟨pw_cell_below ((Below.refl _ w2).alloc (Nat.le_refl _) _) q0c, pw_cell_below ((Below.refl _ w2).alloc (Nat.le_refl _) _) q1c, pw_cell_below ((Below.refl _ w2).alloc (Nat.le_refl _) _) q2c⟩ | exact ⟨q0d, q1d, q2d⟩ | exact ⟨pw_cell_below ((Below.refl _ w3).alloc (Nat.le_refl _) _) q0d, pw_cell_below ((Below.refl _ w3).alloc (Nat.le_refl _) _) q1d, pw_cell_below ((Below.refl _ w3).alloc (Nat.le_refl _) _) q2d⟩ | exact ⟨(cell_far (show (⟨w.heap.size, 0, none⟩ : Addr).block ≠ (⟨W0.heap.size, 0, none⟩ : Addr).block from n0) _).trans q0d, (cell_far (show (⟨w.heap.size, 1, none⟩ : Addr).block ≠ (⟨W0.heap.size, 0, none⟩ : Addr).block from n0) _).trans q1d, (cell_far (show (⟨w.heap.size, 2, none⟩ : Addr).block ≠ (⟨W0.heap.size, 0, none⟩ : Addr).block from n0) _).trans q2d⟩ | exact ⟨(cell_far (show (⟨w.heap.size, 0, none⟩ : Addr).block ≠ (⟨w1.heap.size, 0, none⟩ : Addr).block from (show w.heap.size ≠ w1.heap.size by have := blk_lt HA1.out.c; omega)) _).trans q0d, (cell_far (show (⟨w.heap.size, 1, none⟩ : Addr).block ≠ (⟨w1.heap.size, 0, none⟩ : Addr).block from (show w.heap.size ≠ w1.heap.size by have := blk_lt HA1.out.c; omega)) _).trans q1d, (cell_far (show (⟨w.heap.size, 2, none⟩ : Addr).block ≠ (⟨w1.heap.size, 0, none⟩ : Addr).block from (show w.heap.size ≠ w1.heap.size by have := blk_lt HA1.out.c; omega)) _).trans q2d⟩ | exact ⟨(cell_far (show (⟨w.heap.size, 0, none⟩ : Addr).block ≠ (⟨w2.heap.size, 0, none⟩ : Addr).block from (show w.heap.size ≠ w2.heap.size by have := blk_lt HA2.out.c; omega)) _).trans q0d, (cell_far (show (⟨w.heap.size, 1, none⟩ : Addr).block ≠ (⟨w2.heap.size, 0, none⟩ : Addr).block from (show w.heap.size ≠ w2.heap.size by have := blk_lt HA2.out.c; omega)) _).trans q1d, (cell_far (show (⟨w.heap.size, 2, none⟩ : Addr).block ≠ (⟨w2.heap.size, 0, none⟩ : Addr).block from (show w.heap.size ≠ w2.heap.size by have := blk_lt HA2.out.c; omega)) _).trans q2d⟩ | go_keep)
      (first | (go_at_call 35; refine (htop.out _).mono ?_; rintro e w1 ⟨v1, vs1, us1, rfl, hT1, hb1⟩; obtain ⟨A1, k1, rfl, hk1, hr1⟩ := hT1.reads; have HA1 : Aside0 (AW w w1) := ⟨(by first | exact HA0.out.step ⟨hb1.os, hb1.tape, hb1.output, hb1.size, hb1.block⟩ | exact (HA0.out.alloc (.cells #[.slice none 0 0] 39)).step ⟨hb1.os, hb1.tape, hb1.output, hb1.size, hb1.block⟩)⟩; (try (have KBa1 := Aside0.mk ((hb1.block W0.heap.size (by show W0.heap.size < (W0.alloc _).heap.size; rw [World.size_alloc]; omega)).trans (heap_new W0 (.cells #[.slice none 0 0] 39))); obtain ⟨cKBa1, fKBa1⟩ := cz1' KBa1.out)); have HR1 := Aside0.mk hr1; obtain ⟨q0b, q1b, q2b, f0, f1, f2⟩ := cz3 HA1.out.c; clear f0 f1 f2 hT1 hb1 hr1) | (go_at_call 29; refine (ht6.out A2 k2 _ (by first | exact HR2.out | exact Kd.C_below HR2.out ((Below.refl _ _).alloc (Nat.le_refl _) _)) hk2).mono ?_; rintro e w3 ⟨v3, vs3, us3, rfl, hT3, hb3⟩; obtain ⟨A3, k3, rfl, hk3, hr3⟩ := hT3.reads; have HA3 : Aside0 (AW w w3) := ⟨(by first | exact HA2.out.step hb3 | exact (HA2.out.alloc (.cells #[.slice none 0 0] 39)).step hb3)⟩; (try (have KBa3 := Aside0.mk ((hb3.block _ (blk_lt KBa2.out)).trans KBa2.out); obtain ⟨cKBa3, fKBa3⟩ := cz1' KBa3.out)); (try (have KBb3 := Aside0.mk ((hb3.block _ (blk_lt KBb2.out)).trans KBb2.out); obtain ⟨cKBb3, fKBb3⟩ := cz1' KBb3.out)); (try (have KBc3 := Aside0.mk ((hb3.block w2.heap.size (by show w2.heap.size < (w2.alloc _).heap.size; rw [World.size_alloc]; omega)).trans (heap_new w2 (.cells #[.slice none 0 0] 39))); obtain ⟨cKBc3, fKBc3⟩ := cz1' KBc3.out)); have HT3 := Aside0.mk hT3; obtain ⟨q0d, q1d, q2d, f0, f1, f2⟩ := cz3 HA3.out.c; clear f0 f1 f2 hT3 hb3 hr3) | (go_at_call 29; refine (ht4.out A1 k1 _ (by first | exact HR1.out | exact Kd.C_below HR1.out ((Below.refl _ _).alloc (Nat.le_refl _) _)) hk1).mono ?_; rintro e w2 ⟨v2, vs2, us2, rfl, hT2, hb2⟩; obtain ⟨A2, k2, rfl, hk2, hr2⟩ := hT2.reads; have HA2 : Aside0 (AW w w2) := ⟨(by first | exact HA1.out.step hb2 | exact (HA1.out.alloc (.cells #[.slice none 0 0] 39)).step hb2)⟩; (try (have KBa2 := Aside0.mk ((hb2.block _ (blk_lt KBa1.out)).trans KBa1.out); obtain ⟨cKBa2, fKBa2⟩ := cz1' KBa2.out)); (try (have KBb2 := Aside0.mk ((hb2.block w1.heap.size (by show w1.heap.size < (w1.alloc _).heap.size; rw [World.size_alloc]; omega)).trans (heap_new w1 (.cells #[.slice none 0 0] 39))); obtain ⟨cKBb2, fKBb2⟩ := cz1' KBb2.out)); have HR2 := Aside0.mk hr2; obtain ⟨q0c, q1c, q2c, f0, f1, f2⟩ := cz3 HA2.out.c; clear f0 f1 f2 hT2 hb2 hr2))
    all_goals
      go_wp2_with fail
      go_meet
      case rel =>
        first
        | exact ⟨_, _, _, rfl, ⟨HA3.out.born HT3.out⟩⟩
        | exact ⟨_, _, _, rfl, ⟨HA3.out.put KBa3.out HSZ.out HT3.out⟩⟩
        | exact ⟨_, _, _, rfl, ⟨HA3.out.put KBb3.out (blk_lt HA1.out.c) HT3.out⟩⟩
        | exact ⟨_, _, _, rfl, ⟨HA3.out.put KBc3.out (blk_lt HA2.out.c) HT3.out⟩⟩
  case rest =>
    obtain ⟨bo, A, k, rfl, HX⟩ := hcut
    clear HA0 q0 q1 q2 htop ht4 ht6 HSZ
    obtain ⟨q0, q1, q2, f0, f1, f2⟩ := cz3 HX.out.aw.c
    obtain ⟨q5, f5⟩ := cz1' HX.out.o
    clear f0 f1 f2
    go_wp2_with (first | (go_at_call 25; refine (hval.out A k w6 HX6.out.reads HX6.out.len).mono ?_; rintro e w7 ⟨rfl, hb⟩; have HX7 := Aside0.mk (HX6.out.step hb); clear hb) | (go_at_call 30; refine (h8.out A k w5 HX5.out.reads HX5.out.len).mono ?_; rintro e w6 ⟨rfl, hb⟩; have HX6 := Aside0.mk (HX5.out.step hb); obtain ⟨q0d, q1d, q2d, f0, f1, f2⟩ := cz3 HX6.out.aw.c; obtain ⟨q5d, f5d⟩ := cz1' HX6.out.o; clear f0 f1 f2 hb) | (go_at_call 30; refine (h4.out A k w4 HX4.out.reads HX4.out.len).mono ?_; rintro e w5 ⟨rfl, hb⟩; have HX5 := Aside0.mk (HX4.out.step hb); obtain ⟨q0c, q1c, q2c, f0, f1, f2⟩ := cz3 HX5.out.aw.c; obtain ⟨q5c, f5c⟩ := cz1' HX5.out.o; clear f0 f1 f2 hb) | (go_at_call 30; refine (h6.out A k wc HX.out.reads HX.out.len).mono ?_; rintro e w4 ⟨rfl, hb⟩; have HX4 := Aside0.mk (HX.out.step hb); obtain ⟨q0b, q1b, q2b, f0, f1, f2⟩ := cz3 HX4.out.aw.c; obtain ⟨q5b, f5b⟩ := cz1' HX4.out.o; clear f0 f1 f2 hb))
    go_ret
    exact ⟨rfl, HX7.out.aw.below⟩
end Go.Proofs.Ytkgocbmnjlfkoaa.M
end
section
namespace Go.Proofs.Ytkgocbmnjlfkoaa.M
open Go.RowKit Go.Proofs.Ytkgocbmnjlfkoaa.X Go.Proofs.YtkgocbmnjlfkoaaW.PrintWords Go.Proofs.YtkgocbmnjlfkoaaW.PrintLast Go.Proofs.YtkgocbmnjlfkoaaW.PrintMore
set_option linter.unusedVariables false
set_option linter.unusedSimpArgs false
structure AJ (w wr : World) (bc bm bx : Nat) (A A' : Option Addr) (k1 k2 : Nat) (X X' : List (List (List Int))) (S W L : Nat) : Prop where
  below : Below w.heap.size w wr
  c : wr.heap[bc]? = some (.cells #[.int .i64 S, .int .i64 W, .int .i64 L] 26 (0, 0))
  m : wr.heap[bm]? = some (.cells #[.slice A X.length k1] 39 (0, 0))
  x : wr.heap[bx]? = some (.cells #[.slice A' X'.length k2] 39 (0, 0))
  l1 : X.length ≤ k1
  l2 : X'.length ≤ k2
  r1 : C3 wr A X
  r2 : C3 wr A' X'
theorem AJ.step {w wr w' : World} {bc bm bx : Nat} {A A' : Option Addr} {k1 k2 : Nat} {X X' : List (List (List Int))} {S W L : Nat} (h : AJ w wr bc bm bx A A' k1 k2 X X' S W L) (hb : Below wr.heap.size wr w') : AJ w w' bc bm bx A A' k1 k2 X X' S W L :=
  ⟨h.below.trans (hb.mono h.below.size), (hb.block _ (blk_lt h.c)).trans h.c, (hb.block _ (blk_lt h.m)).trans h.m, (hb.block _ (blk_lt h.x)).trans h.x, h.l1, h.l2, Kd.C_below h.r1 hb, Kd.C_below h.r2 hb⟩
end Go.Proofs.Ytkgocbmnjlfkoaa.M
end
section
namespace Go.Proofs.Ytkgocbmnjlfkoaa.X
open Go.RowKit Go.Proofs.YtkgocbmnjlfkoaaW.PrintWords Go.Proofs.YtkgocbmnjlfkoaaW.PrintLast Go.Proofs.YtkgocbmnjlfkoaaW.PrintMore
attribute [local go_sem] max2_int min2_int max_two min_two max_three min_three max_four min_four
set_option linter.unusedVariables false
set_option linter.unusedSimpArgs false
mutual
def timeboundref24_Same.l0 : Nat → List (List (List Int)) → List (List (List Int)) → Int → Int → Option (Bool)
  | 0, _, _, _, _ => none
  | k + 1, x0, x1, x14, x15 => if x15 < x14 then (if 0 ≤ x15 then (if x15 < (x0.length : Int) then (if x15 < (x1.length : Int) then (if ((rd_L2 x0 x15).length : Int) = ((rd_L2 x1 x15).length : Int) then (timeboundref24_Same.l1 k x0 x1 x15 x14 x15 ((rd_L2 x0 x15).length : Int) 0) else (some false)) else (none)) else (none)) else (none)) else (some true)
def timeboundref24_Same.l1 : Nat → List (List (List Int)) → List (List (List Int)) → Int → Int → Int → Int → Int → Option (Bool)
  | 0, _, _, _, _, _, _, _ => none
  | k + 1, x0, x1, x5, x14, x15, x33, x34 => if x34 < x33 then (if 0 ≤ x5 then (if x5 < (x0.length : Int) then (if 0 ≤ x34 then (if x34 < ((rd_L2 x0 x5).length : Int) then (if x5 < (x1.length : Int) then (if x34 < ((rd_L2 x1 x5).length : Int) then (if ((rd_L1 (rd_L2 x0 x5) x34).length : Int) = ((rd_L1 (rd_L2 x1 x5) x34).length : Int) then (timeboundref24_Same.l2 k x0 x1 x5 x34 x14 x15 x33 x34 ((rd_L1 (rd_L2 x0 x5) x34).length : Int) 0) else (some false)) else (none)) else (none)) else (none)) else (none)) else (none)) else (none)) else (timeboundref24_Same.l0 k x0 x1 x14 (wrap64 (x15 + 1)))
def timeboundref24_Same.l2 : Nat → List (List (List Int)) → List (List (List Int)) → Int → Int → Int → Int → Int → Int → Int → Int → Option (Bool)
  | 0, _, _, _, _, _, _, _, _, _, _ => none
  | k + 1, x0, x1, x5, x6, x14, x15, x33, x34, x61, x62 => if x62 < x61 then (if 0 ≤ x5 then (if x5 < (x0.length : Int) then (if 0 ≤ x6 then (if x6 < ((rd_L2 x0 x5).length : Int) then (if 0 ≤ x62 then (if x62 < ((rd_L1 (rd_L2 x0 x5) x6).length : Int) then (if x5 < (x1.length : Int) then (if x6 < ((rd_L2 x1 x5).length : Int) then (if x62 < ((rd_L1 (rd_L2 x1 x5) x6).length : Int) then (if (rd (rd_L1 (rd_L2 x0 x5) x6) x62) = (rd (rd_L1 (rd_L2 x1 x5) x6) x62) then (timeboundref24_Same.l2 k x0 x1 x5 x6 x14 x15 x33 x34 x61 (wrap64 (x62 + 1))) else (some false)) else (none)) else (none)) else (none)) else (none)) else (none)) else (none)) else (none)) else (none)) else (none)) else (timeboundref24_Same.l1 k x0 x1 x5 x14 x15 x33 (wrap64 (x34 + 1)))
end
def timeboundref24_Same.f (k : Nat) (l0 : List (List (List Int))) (l1 : List (List (List Int))) : Option (Bool) := if (l0.length : Int) = (l1.length : Int) then (timeboundref24_Same.l0 k l0 l1 (l0.length : Int) 0) else (some false)
end Go.Proofs.Ytkgocbmnjlfkoaa.X
end
section
namespace Go.Proofs.Ytkgocbmnjlfkoaa.M
open Go.RowKit Go.Proofs.Ytkgocbmnjlfkoaa.X Go.Proofs.YtkgocbmnjlfkoaaW.PrintWords Go.Proofs.YtkgocbmnjlfkoaaW.PrintLast Go.Proofs.YtkgocbmnjlfkoaaW.PrintMore
set_option linter.unusedVariables false
set_option linter.unusedSimpArgs false
def Bel (a b : List (List (List Int))) : Prop := ∀ s i, ∀ y ∈ (b.getD s []).getD i [], age (a.getD s []) y ≤ i ∧ age (a.getD s []) y < (a.getD s []).length
structure BW (w wr : World) (va : Value) : Prop where
  below : Below w.heap.size w wr
  a : wr.heap[w.heap.size + 1]? = some (.cells #[va] 39 (0, 0))
theorem BW.step {w wr w' : World} {va : Value} (h : BW w wr va) (hb : Below wr.heap.size wr w') : BW w w' va := ⟨h.below.trans (hb.mono h.below.size), (hb.block _ (blk_lt h.a)).trans h.a⟩
set_option maxHeartbeats 4000000 in
theorem below32_calls {S W L : Nat} (hC : CacheOk S W L) (A B : Option Addr) (c d : Nat) (a b : List (List (List Int))) (w : World) (ha : Fit S W a) (hb : Fit S W b) (hB : Bel a b) (hra : C3 w A a) (hca : a.length ≤ c) (hrb : C3 w B b) (hcb : b.length ≤ d) :
    Calls Try.prog 32 #[.agg #[.int .i64 S, .int .i64 W, .int .i64 L], .agg #[.slice A a.length c], .agg #[.slice B b.length d]] w fun e w' => e = .returned (.bool true) ∧ Below w.heap.size w w' := by
  have hW4 := hC.w4; have hS8 := hC.s8
  have HB0 : Aside0 (BW w (((w.alloc (.cells #[.int .i64 S, .int .i64 W, .int .i64 L] 26)).alloc (.cells #[.slice A a.length c] 39)).alloc (.cells #[.slice B b.length d] 39)) (.slice A a.length c)) := ⟨(((Below.refl _ _).alloc (Nat.le_refl _) _).alloc (by simp) _).alloc (by simp; omega) _, (three_box (Below.refl _ _)).2.1⟩
  have HA := Aside0.mk hra
  have HRB := Aside0.mk hrb
  have HFA := Aside0.mk ha
  have HFB := Aside0.mk hb
  have HBEL := Aside0.mk hB
  have hal := Aside0.mk ha.len
  have hbl := Aside0.mk hb.len
  have hal9 : a.length < 9 := by rw [ha.len]; omega
  have hbl9 : b.length < 9 := by rw [hb.len]; omega
  clear hra hrb ha hb hB hC
  go_enter Try.func32, Try.ntmps32
  go_wp2
  go_loopw [17] (fun v17 wr => ∃ s : Nat, s ≤ b.length ∧ v17 = .int .i64 s ∧ Aside0 (BW w wr (.slice A a.length c))) (fun v17 _ => b.length - (RowKit.intOf v17).toNat)
  case atStart => exact ⟨0, Nat.zero_le _, rfl, HB0⟩
  case round =>
    clear HB0
    obtain ⟨s, hs, rfl, HE⟩ := hrel
    by_cases hlt : s < b.length
    · have hsa : s < a.length := by rw [hal.out, ← hbl.out]; exact hlt
      obtain ⟨ad, A0, c0, rfl, hcell0w, hc0, hl0⟩ := C3.get HRB.out hlt
      obtain ⟨aa, A1, c1, rfl, hcellaw, hc1, hl1⟩ := C3.get HA.out hsa
      obtain ⟨hlw, hgd⟩ := HFB.out.at_ hlt
      obtain ⟨hlwa, hgda⟩ := HFA.out.at_ hsa
      have hcell := pw_cell_below HE.out.below hcell0w
      have HCA := Aside0.mk hcellaw
      have HLb := Aside0.mk hl0
      have HLa := Aside0.mk hl1
      have HGa := Aside0.mk hgda
      have HGb := Aside0.mk hgd
      have HBs : Aside0 (∀ i, ∀ y ∈ (b[s]).getD i [], age a[s] y ≤ i ∧ age a[s] y < a[s].length) := ⟨fun i y hy => by
        have := HBEL.out s i y (by rw [getD_lt hlt]; exact hy)
        rwa [getD_lt hsa] at this⟩
      have hrb9 : b[s].length < 5 := by omega
      have hra9 : a[s].length < 5 := by omega
      clear hl0 hl1 hgd hgda hlw hlwa hcell0w hcellaw
      generalize b[s] = rb at *
      generalize a[s] = ra at *
      obtain ⟨wo, rfl⟩ : ∃ wo : World, wo = wr := ⟨_, rfl⟩
      go_wp2
      go_loopw [24] (fun v24 wr => ∃ i : Nat, i ≤ rb.length ∧ v24 = .int .i64 i ∧ Aside0 (BW w wr (.slice (some aa) a.length c))) (fun v24 _ => rb.length - (RowKit.intOf v24).toNat)
      case atStart => exact ⟨0, Nat.zero_le _, rfl, HE⟩
      case round =>
        clear HE hcell
        obtain ⟨i, hi, rfl, HE⟩ := hrel
        by_cases hil : i < rb.length
        · obtain ⟨ad1, B1, c2, rfl, hcell1w, hc2, hl2⟩ := C2.get HLb.out hil
          have hcell1 := pw_cell_below HE.out.below hcell1w
          have hll : rb[i].length < 1073741825 := by have := (HGb.out _ (List.getElem_mem hil)).2; omega
          have HBi : Aside0 (∀ y ∈ rb[i], age ra y ≤ i ∧ age ra y < ra.length) := ⟨fun y hy => HBs.out i y (by rw [getD_lt hil]; exact hy)⟩
          have HL1 := Aside0.mk hl2
          clear hl2 hcell1w
          generalize rb[i] = l at *
          obtain ⟨wo2, rfl⟩ : ∃ wo2 : World, wo2 = wr := ⟨_, rfl⟩
          go_wp2
          go_loopw [31] (fun v31 wr => ∃ k : Nat, k ≤ l.length ∧ v31 = .int .i64 k ∧ Aside0 (BW w wr (.slice (some aa) a.length c))) (fun v31 _ => l.length - (RowKit.intOf v31).toNat)
          case atStart => exact ⟨0, Nat.zero_le _, rfl, HE⟩
          case round =>
            clear HE hcell1
            obtain ⟨k, hk, rfl, HE⟩ := hrel
            by_cases hkl : k < l.length
            · obtain ⟨ad2, rfl, hcell2⟩ := C1.get (Kd.C_below HL1.out HE.out.below) hkl
              obtain ⟨q3, f3⟩ := cz1' HE.out.a
              have hca := pw_cell_below HE.out.below HCA.out
              obtain ⟨h1, h2⟩ := HBi.out _ (List.getElem_mem hkl)
              have hfind := find_calls A1 c1 ra l[k] wr (Kd.C_below HLa.out HE.out.below) hc1 (HGa.out.asc (by omega)) (by omega)
              have hfe : find ra l[k] = ((age ra l[k] : Nat) : Int) := by unfold find; rw [if_pos h2]
              rw [hfe] at hfind
              have HFI := Aside0.mk hfind
              have g0 : decide ((a.length : Int) ≤ (s : Int)) = false := decide_eq_false (by omega)
              have g1 : decide (((age ra l[k] : Nat) : Int) < 0) = false := decide_eq_false (by omega)
              have g2 : decide ((i : Int) < ((age ra l[k] : Nat) : Int)) = false := decide_eq_false (by omega)
              have g3 : ¬ i < age ra l[k] := by omega
              have g4 : ¬ a.length ≤ s := by omega
              clear f3 hfind hfe h1 h2
              generalize age ra l[k] = ag at *
              generalize l[k] = y at *
              go_wp2_with (first | (go_at_call 70; refine HFI.out.mono ?_; rintro e w5 ⟨rfl, hb5⟩; have HE5 := Aside0.mk (HE.out.step hb5); clear hb5))
              go_roundw
              case rel => exact ⟨k + 1, hkl, by go_num, HE5⟩
              case measure => simp [RowKit.intOf]; omega
            · obtain rfl : k = l.length := by omega
              go_wp2
              go_roundw
              case rel => exact ⟨i + 1, hil, by go_num, HE⟩
              case measure => simp [RowKit.intOf]; omega
        · obtain rfl : i = rb.length := by omega
          go_wp2
          go_roundw
          case rel => exact ⟨s + 1, hlt, by go_num, HE⟩
          case measure => simp [RowKit.intOf]; omega
    · obtain rfl : s = b.length := by omega
      go_wp2
      go_ret
      exact ⟨rfl, HE.out.below⟩
end Go.Proofs.Ytkgocbmnjlfkoaa.M
end
section
namespace Go.Proofs.Ytkgocbmnjlfkoaa.M
open Go.RowKit
set_option linter.unusedVariables false
set_option linter.unusedSimpArgs false
def Le (S : Nat) (a b : List (List (List Int))) : Prop := ∀ s, s < S → ∀ y, age (a.getD s []) y ≤ age (b.getD s []) y
theorem Le.bel {S W : Nat} {a b : List (List (List Int))} (ha : Val S W a) (hb : Val S W b) (h : Le S a b) : Bel a b := fun s i y hy => by
  by_cases hs : s < S
  · have h1 := (hb.el s hs).age_of hy
    have h2 := mem_lt hy
    have h3 := h s hs y
    rw [(hb.el s hs).len] at h2
    rw [(ha.el s hs).len]
    omega
  · rw [List.getD_eq_getElem?_getD (l := b), List.getElem?_eq_none (by rw [hb.len]; omega)] at hy
    cases hy
theorem touch_age {S W : Nat} {X : List (List (List Int))} (hX : Val S W X) (hW : 0 < W) {k s : Nat} (hs : s < S) (y : Int) : age ((touchM S W X k).getD s []) y = if k % S = s then ageU (fun a => decide (a < age (X.getD (k % S) []) k)) W k y (age (X.getD s []) y) else age (X.getD s []) y := by
  have hm := Nat.mod_lt k (show 0 < S by omega)
  have e0 : ageM S W X k = age (X.getD (k % S) []) k := if_neg (by omega)
  rw [touchM, if_neg (by omega), e0, getD_set _ _ _ _ (by rw [hX.len]; exact hm)]
  by_cases h : k % S = s
  · rw [if_pos h, if_pos h, ← h]
    exact (hX.el _ hm).age_use _ _ _ hW
  · rw [if_neg h, if_neg h]
theorem Le.touch {S W : Nat} {a b : List (List (List Int))} (ha : Val S W a) (hb : Val S W b) (hW : 0 < W) (h : Le S a b) (k : Nat) : Le S (touchM S W a k) (touchM S W b k) := fun s hs y => by
  rw [touch_age ha hW hs, touch_age hb hW hs]
  by_cases e : k % S = s
  · rw [if_pos e, if_pos e, e]
    have h1 := h s hs y
    have h2 := h s hs k
    have h3 := (hb.el s hs).age_le y
    have h4 := (ha.el s hs).age_le y
    unfold ageU dst
    by_cases hy : y = (k : Int)
    · rw [if_pos hy, if_pos hy]
      exact Nat.le_refl _
    · rw [if_neg hy, if_neg hy]
      generalize age (a.getD s []) y = p at *
      generalize age (b.getD s []) y = q at *
      generalize age (a.getD s []) k = u at *
      generalize age (b.getD s []) k = v at *
      simp only [decide_eq_true_eq]
      split <;> split <;> (try split) <;> (try split) <;> omega
  · rw [if_neg e, if_neg e]
    exact h s hs y
end Go.Proofs.Ytkgocbmnjlfkoaa.M
end
section
namespace Go.Proofs.Ytkgocbmnjlfkoaa.M
open Go.RowKit Go.Proofs.Ytkgocbmnjlfkoaa.X Go.Proofs.YtkgocbmnjlfkoaaW.PrintWords Go.Proofs.YtkgocbmnjlfkoaaW.PrintLast Go.Proofs.YtkgocbmnjlfkoaaW.PrintMore
set_option linter.unusedVariables false
set_option linter.unusedSimpArgs false
def okElem (S s : Nat) (yy l : List Int) (i : Nat) : Prop := (0 ≤ l.getD i 0 ∧ l.getD i 0 ≤ 1048576 ∧ l.getD i 0 % S = s) ∧ l.getD i 0 ∉ yy ++ l.take i ∧ (0 < i → l.getD (i - 1) 0 < l.getD i 0)
def GoodL (S s : Nat) (yy l : List Int) : Prop := ∀ i, i < l.length → okElem S s yy l i
def VSx (S s : Nat) (r : List (List Int)) : Prop := ∀ a, a < r.length → GoodL S s (seenL r a) (r.getD a [])
def Valx (S W : Nat) (x : List (List (List Int))) : Prop := x.length = S ∧ ∀ s, s < x.length → (x.getD s []).length = W ∧ VSx S s (x.getD s [])
open Classical in
noncomputable def vsb (S s : Nat) (r : List (List Int)) : Bool := decide (VSx S s r)
open Classical in
noncomputable def valb (S W : Nat) (x : List (List (List Int))) : Bool := decide (Valx S W x)
open Classical in
theorem vsb_yes {S s : Nat} {r : List (List Int)} (h : VSx S s r) : vsb S s r = true := decide_eq_true h
open Classical in
theorem vsb_no {S s : Nat} {r : List (List Int)} (h : ¬ VSx S s r) : vsb S s r = false := decide_eq_false h
open Classical in
theorem vsb_true {S s : Nat} {r : List (List Int)} (h : vsb S s r = true) : VSx S s r := of_decide_eq_true h
open Classical in
theorem vsb_false {S s : Nat} {r : List (List Int)} (h : vsb S s r = false) : ¬ VSx S s r := of_decide_eq_false h
open Classical in
theorem valb_yes {S W : Nat} {x : List (List (List Int))} (h : Valx S W x) : valb S W x = true := decide_eq_true h
open Classical in
theorem valb_no {S W : Nat} {x : List (List (List Int))} (h : ¬ Valx S W x) : valb S W x = false := decide_eq_false h
theorem cnt_le' {r : List (List Int)} {N : Nat} (h : ∀ l ∈ r, l.length ≤ N) (i : Nat) : cnt r i ≤ i * N := by
  induction i with
  | zero => simp [cnt]
  | succ i ih =>
    rw [cnt, Nat.succ_mul]
    have : (r.getD i []).length ≤ N := by
      by_cases hi : i < r.length
      · rw [getD_lt hi]
        exact h _ (List.getElem_mem hi)
      · rw [getD_nil_of_le (by omega)]
        simp
    omega
theorem VS.ok {S s W : Nat} {r : List (List Int)} (hV : VS S s W r) : VSx S s r := fun a ha i hi => by
  have hm : (r.getD a []).getD i 0 ∈ r.getD a [] := by rw [getD_lt (l := r.getD a []) hi]; exact List.getElem_mem hi
  have hasc := hV.asc a
  have hpw : ∀ j, j < i → (r.getD a []).getD j 0 < (r.getD a []).getD i 0 := fun j hji => by
    rw [getD_lt (l := r.getD a []) hi, getD_lt (l := r.getD a []) (show j < (r.getD a []).length by omega)]
    exact List.pairwise_iff_getElem.1 hasc j i (by omega) hi hji
  refine ⟨hV.rng a _ hm, fun hmem => ?_, fun h0 => hpw _ (by omega)⟩
  rcases List.mem_append.1 hmem with h1 | h1
  · obtain ⟨j, hj, h2⟩ := mem_seenL h1
    exact hV.uniq j a (by omega) _ h2 hm
  · obtain ⟨j, hj, e⟩ := List.getElem_of_mem h1
    rw [List.length_take] at hj
    rw [List.getElem_take] at e
    have := hpw j (by omega)
    rw [getD_lt (l := r.getD a []) (show j < (r.getD a []).length by omega)] at this
    omega
theorem Val.ok {S W : Nat} {x : List (List (List Int))} (hV : Val S W x) : Valx S W x := ⟨hV.len, fun s hs => ⟨(hV.el s (by rw [← hV.len]; exact hs)).len, (hV.el s (by rw [← hV.len]; exact hs)).ok⟩⟩
set_option maxHeartbeats 4000000 in
theorem lists91_calls {S W L : Nat} (h : CacheOk S W L) (A : Option Addr) (c s : Nat) (r : List (List Int)) (w : World) (hrl : r.length < 5) (hN : ∀ l ∈ r, l.length ≤ 17592186044416) (hs : s < S) (hr : C2 w A r) (hc : r.length ≤ c) :
    Calls Try.prog 91 #[.agg #[.int .i64 S, .int .i64 W, .int .i64 L], .int .i64 s, .slice A r.length c] w fun e w' => e = .returned (.bool (vsb S s r)) ∧ Below w.heap.size w w' := by
  have hW4 := h.w4; have hS8 := h.s8
  have HR := Aside0.mk hr
  have HN := Aside0.mk hN
  have HNV := Aside0.mk (fun (h : ¬ VSx S s r) => vsb_no h)
  have HYV := Aside0.mk (fun (h : VSx S s r) => vsb_yes h)
  have hset := Aside0.mk (fun (m : Nat) W1 => cache_Set.calls 2 S W L m _ W1 (set_ h m))
  have HL0 : Aside0 (LL w ((w.alloc (.cells #[.int .i64 S, .int .i64 W, .int .i64 L] 26)).alloc (.map #[] 0)) (cnt r 0) (seenL r 0) (.int .i64 S) (.int .i64 W) (.int .i64 L) ∧ ∀ a, a < 0 → GoodL S s (seenL r a) (r.getD a [])) := ⟨⟨by
    have := Seen.made (w.alloc (.cells #[.int .i64 S, .int .i64 W, .int .i64 L] 26))
    rw [World.size_alloc] at this
    exact this, ((Below.refl _ _).alloc (Nat.le_refl _) _).alloc (by simp) _, blk_alloc (heap_new _ _) _⟩, fun a ha => absurd ha (Nat.not_lt_zero _)⟩
  clear hr h hN
  have hmm := @run_makeMap Try.prog
  go_enter Try.func91, Try.ntmps91
  go_wp2
  clear hmm
  go_loopw [15] (fun v15 wr => ∃ a : Nat, a ≤ r.length ∧ v15 = .int .i64 a ∧ Aside0 (LL w wr (cnt r a) (seenL r a) (.int .i64 S) (.int .i64 W) (.int .i64 L) ∧ ∀ b, b < a → GoodL S s (seenL r b) (r.getD b []))) (fun v15 _ => r.length - (RowKit.intOf v15).toNat)
  case atStart => exact ⟨0, Nat.zero_le _, rfl, HL0⟩
  case round =>
    clear HL0
    obtain ⟨a, ha, rfl, HE⟩ := hrel
    by_cases hlt : a < r.length
    · obtain ⟨ad, A0, c0, rfl, hcell0w, hc0, hl0⟩ := C2.get HR.out hlt
      have hcell0 := pw_cell_below HE.out.1.below hcell0w
      have HE0 : Aside0 (LL w wr (cnt r a + 0) (seenL r a ++ r[a].take 0) (.int .i64 S) (.int .i64 W) (.int .i64 L) ∧ ∀ k, k < 0 → okElem S s (seenL r a) r[a] k) := ⟨⟨by simpa using HE.out.1, fun k hk => absurd hk (Nat.not_lt_zero _)⟩⟩
      have HF9 : Aside0 (cnt r (a + 1) = cnt r a + r[a].length ∧ seenL r (a + 1) = seenL r a ++ r[a].take r[a].length) := ⟨by rw [cnt, getD_lt hlt], seenL_succ hlt⟩
      have HNO : Aside0 (¬ GoodL S s (seenL r a) r[a] → vsb S s r = false) := ⟨fun hn => HNV.out fun hv => hn (by have := hv a hlt; rwa [getD_lt hlt] at this)⟩
      have HNX : Aside0 (GoodL S s (seenL r a) r[a] → ∀ b, b < a + 1 → GoodL S s (seenL r b) (r.getD b [])) := ⟨fun hg b hb => by
        by_cases e : b = a
        · subst e
          rw [getD_lt hlt]
          exact hg
        · exact HE.out.2 b (by omega)⟩
      have hcl := cnt_le' HN.out a
      have hcb : cnt r a ≤ 5 * 17592186044416 := Nat.le_trans hcl (Nat.mul_le_mul_right _ (by omega))
      have hll : r[a].length ≤ 17592186044416 := HN.out _ (List.getElem_mem hlt)
      have HCL := Aside0.mk (show C1 w A0 r[a] from hl0)
      clear hl0 HE hcl hcell0w HYV HNV
      generalize seenL r a = yy at *
      generalize cnt r a = nn at *
      generalize r[a] = l at *
      obtain ⟨wo, rfl⟩ : ∃ wo : World, wo = wr := ⟨_, rfl⟩
      go_wp2
      go_loopw [21] (fun v21 wr => ∃ i : Nat, i ≤ l.length ∧ v21 = .int .i64 i ∧ Aside0 (LL w wr (nn + i) (yy ++ l.take i) (.int .i64 S) (.int .i64 W) (.int .i64 L) ∧ ∀ k, k < i → okElem S s yy l k)) (fun v21 _ => l.length - (RowKit.intOf v21).toNat)
      case atStart => exact ⟨0, Nat.zero_le _, rfl, HE0⟩
      case round =>
        clear HE0 hcell0
        obtain ⟨i, hi, rfl, HE⟩ := hrel
        by_cases hil : i < l.length
        · have hnm : nn + i < maxLen := by unfold maxLen; omega
          obtain ⟨ad1, rfl, hcell⟩ := C1.get (Kd.C_below HCL.out HE.out.1.below) hil
          have hg : l.getD i 0 = l[i] := getD_lt hil
          have HT : Aside0 (yy ++ l.take (i + 1) = (yy ++ l.take i) ++ [l[i]]) := ⟨by rw [List.take_succ_eq_append_getElem hil, List.append_assoc]⟩
          obtain ⟨q0, q1, q2, f0, f1, f2⟩ := cz3 HE.out.1.c
          clear f0 f1 f2
          have HNE : Aside0 (¬ okElem S s yy l i → vsb S s r = false) := ⟨fun h => HNO.out fun hg => h (hg i hil)⟩
          have HOK : Aside0 ((0 ≤ l[i] ∧ l[i] ≤ 1048576 ∧ l[i] % S = s) → l[i] ∉ yy ++ l.take i → (0 < i → l.getD (i - 1) 0 < l[i]) → okElem S s yy l i) := ⟨fun h1 h2 h3 => by unfold okElem; rw [hg]; exact ⟨h1, h2, h3⟩⟩
          have HBK : Aside0 (okElem S s yy l i → (0 ≤ l[i] ∧ l[i] ≤ 1048576 ∧ l[i] % S = s) ∧ l[i] ∉ yy ++ l.take i ∧ (0 < i → l.getD (i - 1) 0 < l[i])) := ⟨fun h => by unfold okElem at h; rwa [hg] at h⟩
          clear hg HNO
          by_cases hA : l[i] < 0
          · have g0 : decide (l[i] < 0) = true := decide_eq_true hA
            have HF := Aside0.mk (HNE.out fun h => by have := (HBK.out h).1.1; omega)
            clear hA HT HBK HOK
            generalize l[i] = y at *
            go_wp2_with (first | (go_at_call 87; refine (HSET.out _).mono ?_; rintro e w1 ⟨rfl, hb⟩; have HL1 := Aside0.mk (HE.out.1.step hb); (try (have hcp2 := pw_cell_below hb hcellp)); (try (obtain ⟨hlk, w2, hup, hLL⟩ := HSEEN.out w1 HL1.out; have HL2 := Aside0.mk hLL; clear hLL)); clear hb q0 q1 q2))
            go_ret
            first | exact ⟨by rw [HF.out]; rfl, HL1.out.below⟩ | exact ⟨by rw [HF.out]; rfl, HE.out.1.below⟩
          have g0 : decide (l[i] < 0) = false := decide_eq_false hA
          by_cases hB : 1048576 < l[i]
          · have g1 : decide (1048576 < l[i]) = true := decide_eq_true hB
            have HF := Aside0.mk (HNE.out fun h => by have := (HBK.out h).1.2.1; omega)
            clear hA hB HT HBK HOK
            generalize l[i] = y at *
            go_wp2_with (first | (go_at_call 87; refine (HSET.out _).mono ?_; rintro e w1 ⟨rfl, hb⟩; have HL1 := Aside0.mk (HE.out.1.step hb); (try (have hcp2 := pw_cell_below hb hcellp)); (try (obtain ⟨hlk, w2, hup, hLL⟩ := HSEEN.out w1 HL1.out; have HL2 := Aside0.mk hLL; clear hLL)); clear hb q0 q1 q2))
            go_ret
            first | exact ⟨by rw [HF.out]; rfl, HL1.out.below⟩ | exact ⟨by rw [HF.out]; rfl, HE.out.1.below⟩
          have g1 : decide (1048576 < l[i]) = false := decide_eq_false hB
          obtain ⟨m, hm⟩ : ∃ m : Nat, l[i] = (m : Int) := ⟨l[i].toNat, by omega⟩
          have hm9 : m ≤ 1048576 := by omega
          have HWF := Aside0.mk (wf_line hm9)
          have hmem : (m : Int) ∉ yy ++ l.take i → l[i] ∉ yy ++ l.take i := fun h => by rw [hm]; exact h
          rw [hm] at hcell HT g0 g1
          by_cases hC : m % S = s
          · have hrng : 0 ≤ l[i] ∧ l[i] ≤ 1048576 ∧ l[i] % S = s := ⟨by omega, by omega, by rw [hm]; omega⟩
            have HSET : Aside0 (∀ W1, Calls Try.prog 87 #[.agg #[.int .i64 S, .int .i64 W, .int .i64 L], .int .i64 m] W1 fun e w' => e = .returned (.int .i64 s) ∧ Below W1.heap.size W1 w') := ⟨fun W1 => by have := hset.out m W1; rw [if_neg (by omega), hC] at this; exact this⟩
            by_cases hi0 : i = 0
            · subst hi0
              rw [Addr.add_zero'] at hcell
              by_cases hE : (m : Int) ∈ yy ++ l.take 0
              · have hdec : decide ((m : Int) ∈ yy ++ l.take 0) = true := decide_eq_true hE
                have HSEEN : Aside0 (∀ W1, LL w W1 (nn + 0) (yy ++ l.take 0) (.int .i64 S) (.int .i64 W) (.int .i64 L) → (Instr.lookup 92 (.map (some (w.heap.size + 1))) (.int .i64 m) false).run Try.prog W1 = .ok (.bool true) W1 ∧ ∃ w2 : World, True ∧ True) := ⟨fun W1 h => ⟨by have := h.seen.look HWF.out; rwa [hdec] at this, W1, trivial, trivial⟩⟩
                have HF := Aside0.mk (HNE.out fun h => by exact absurd hE (fun hE => (HBK.out h).2.1 (by rw [hm]; exact hE)))
                clear hA hB hC hm hmem hrng HT HBK HOK hE hdec
                go_wp2_with (first | (go_at_call 87; refine (HSET.out _).mono ?_; rintro e w1 ⟨rfl, hb⟩; have HL1 := Aside0.mk (HE.out.1.step hb); (try (have hcp2 := pw_cell_below hb hcellp)); (try (obtain ⟨hlk, w2, hup, hLL⟩ := HSEEN.out w1 HL1.out; have HL2 := Aside0.mk hLL; clear hLL)); clear hb q0 q1 q2))
                go_ret
                first | exact ⟨by rw [HF.out]; rfl, HL1.out.below⟩ | exact ⟨by rw [HF.out]; rfl, HE.out.1.below⟩
              · have hdec : decide ((m : Int) ∈ yy ++ l.take 0) = false := decide_eq_false hE
                have HSEEN : Aside0 (∀ W1, LL w W1 (nn + 0) (yy ++ l.take 0) (.int .i64 S) (.int .i64 W) (.int .i64 L) → (Instr.lookup 92 (.map (some (w.heap.size + 1))) (.int .i64 m) false).run Try.prog W1 = .ok (.bool false) W1 ∧ ∃ w2, (Instr.mapUpdate 92 (.map (some (w.heap.size + 1))) (.int .i64 m) (.bool true)).run Try.prog W1 = .ok () w2 ∧ LL w w2 (nn + 0 + 1) ((yy ++ l.take 0) ++ [(m : Int)]) (.int .i64 S) (.int .i64 W) (.int .i64 L)) := ⟨fun W1 h => ⟨by have := h.seen.look HWF.out; rwa [hdec] at this, by obtain ⟨w2, h1, h2, h3⟩ := h.seen.put hnm HWF.out; exact ⟨w2, h1, h.put h2 h3⟩⟩⟩
                have hel := HOK.out hrng (hmem hE) (fun h0 => by omega)
                have HP : Aside0 (∀ k, k < 0 + 1 → okElem S s yy l k) := ⟨fun k hk => by
                  by_cases e : k = 0
                  · subst e
                    exact hel
                  · exact HE.out.2 k (by omega)⟩
                clear hA hB hC hm hmem hrng HBK HOK HNE hE hdec hel
                go_wp2_with (first | (go_at_call 87; refine (HSET.out _).mono ?_; rintro e w1 ⟨rfl, hb⟩; have HL1 := Aside0.mk (HE.out.1.step hb); (try (have hcp2 := pw_cell_below hb hcellp)); (try (obtain ⟨hlk, w2, hup, hLL⟩ := HSEEN.out w1 HL1.out; have HL2 := Aside0.mk hLL; clear hLL)); clear hb q0 q1 q2))
                go_roundw
                case rel => exact ⟨0 + 1, hil, by go_num, ⟨by rw [HT.out]; exact ⟨HL2.out, HP.out⟩⟩⟩
                case measure => simp [RowKit.intOf]; omega
            · obtain ⟨j, rfl⟩ : ∃ j, i = j + 1 := ⟨i - 1, by omega⟩
              obtain ⟨ad2, e2, hcellp⟩ := C1.get (Kd.C_below HCL.out HE.out.1.below) (show j < l.length by omega)
              injection e2 with e2
              subst e2
              have hgj : l.getD j 0 = l[j] := getD_lt (show j < l.length by omega)
              have g4 : decide ((0 : Int) < (j : Int) + 1) = true := decide_eq_true (by omega)
              have g5 : decide ((0 : Int) < ((j + 1 : Nat) : Int)) = true := decide_eq_true (by omega)
              have hcell2 : wr.cell? ⟨ad1.block, ad1.off + (j + 1), none⟩ = some (.int .i64 m) := hcell
              by_cases hD : (m : Int) ≤ l[j]
              · have g3 : decide ((m : Int) ≤ l[j]) = true := decide_eq_true hD
                have HF := Aside0.mk (HNE.out fun h => by have := (HBK.out h).2.2 (by omega); have h7 : l.getD j 0 < l[j + 1] := this; rw [hgj, hm] at h7; omega)
                clear hA hB hC hm hmem hrng HT HBK HOK hD hgj hcell
                go_wp2_with (first | (go_at_call 87; refine (HSET.out _).mono ?_; rintro e w1 ⟨rfl, hb⟩; have HL1 := Aside0.mk (HE.out.1.step hb); (try (have hcp2 := pw_cell_below hb hcellp)); (try (obtain ⟨hlk, w2, hup, hLL⟩ := HSEEN.out w1 HL1.out; have HL2 := Aside0.mk hLL; clear hLL)); clear hb q0 q1 q2))
                go_ret
                first | exact ⟨by rw [HF.out]; rfl, HL1.out.below⟩ | exact ⟨by rw [HF.out]; rfl, HE.out.1.below⟩
              · have g3 : decide ((m : Int) ≤ l[j]) = false := decide_eq_false hD
                by_cases hE : (m : Int) ∈ yy ++ l.take (j + 1)
                · have hdec : decide ((m : Int) ∈ yy ++ l.take (j + 1)) = true := decide_eq_true hE
                  have HSEEN : Aside0 (∀ W1, LL w W1 (nn + (j + 1)) (yy ++ l.take (j + 1)) (.int .i64 S) (.int .i64 W) (.int .i64 L) → (Instr.lookup 92 (.map (some (w.heap.size + 1))) (.int .i64 m) false).run Try.prog W1 = .ok (.bool true) W1 ∧ ∃ w2 : World, True ∧ True) := ⟨fun W1 h => ⟨by have := h.seen.look HWF.out; rwa [hdec] at this, W1, trivial, trivial⟩⟩
                  have HF := Aside0.mk (HNE.out fun h => by exact absurd hE (fun hE => (HBK.out h).2.1 (by rw [hm]; exact hE)))
                  clear hA hB hC hm hmem hrng HT HBK HOK hE hdec hgj hcell
                  go_wp2_with (first | (go_at_call 87; refine (HSET.out _).mono ?_; rintro e w1 ⟨rfl, hb⟩; have HL1 := Aside0.mk (HE.out.1.step hb); (try (have hcp2 := pw_cell_below hb hcellp)); (try (obtain ⟨hlk, w2, hup, hLL⟩ := HSEEN.out w1 HL1.out; have HL2 := Aside0.mk hLL; clear hLL)); clear hb q0 q1 q2))
                  go_ret
                  first | exact ⟨by rw [HF.out]; rfl, HL1.out.below⟩ | exact ⟨by rw [HF.out]; rfl, HE.out.1.below⟩
                · have hdec : decide ((m : Int) ∈ yy ++ l.take (j + 1)) = false := decide_eq_false hE
                  have HSEEN : Aside0 (∀ W1, LL w W1 (nn + (j + 1)) (yy ++ l.take (j + 1)) (.int .i64 S) (.int .i64 W) (.int .i64 L) → (Instr.lookup 92 (.map (some (w.heap.size + 1))) (.int .i64 m) false).run Try.prog W1 = .ok (.bool false) W1 ∧ ∃ w2, (Instr.mapUpdate 92 (.map (some (w.heap.size + 1))) (.int .i64 m) (.bool true)).run Try.prog W1 = .ok () w2 ∧ LL w w2 (nn + (j + 1) + 1) ((yy ++ l.take (j + 1)) ++ [(m : Int)]) (.int .i64 S) (.int .i64 W) (.int .i64 L)) := ⟨fun W1 h => ⟨by have := h.seen.look HWF.out; rwa [hdec] at this, by obtain ⟨w2, h1, h2, h3⟩ := h.seen.put hnm HWF.out; exact ⟨w2, h1, h.put h2 h3⟩⟩⟩
                  have hel := HOK.out hrng (hmem hE) (fun h0 => by show l.getD j 0 < _; rw [hgj, hm]; omega)
                  have HP : Aside0 (∀ k, k < (j + 1) + 1 → okElem S s yy l k) := ⟨fun k hk => by
                    by_cases e : k = j + 1
                    · subst e
                      exact hel
                    · exact HE.out.2 k (by omega)⟩
                  clear hA hB hC hm hmem hrng HBK HOK HNE hE hdec hel hgj hcell hD
                  generalize l[j] = z at *
                  go_wp2_with (first | (go_at_call 87; refine (HSET.out _).mono ?_; rintro e w1 ⟨rfl, hb⟩; have HL1 := Aside0.mk (HE.out.1.step hb); (try (have hcp2 := pw_cell_below hb hcellp)); (try (obtain ⟨hlk, w2, hup, hLL⟩ := HSEEN.out w1 HL1.out; have HL2 := Aside0.mk hLL; clear hLL)); clear hb q0 q1 q2))
                  go_roundw
                  case rel => exact ⟨j + 1 + 1, hil, by go_num, ⟨by rw [HT.out]; exact ⟨HL2.out, HP.out⟩⟩⟩
                  case measure => simp [RowKit.intOf]; omega
          · have g2 : (((m % S : Nat) : Int) != (s : Int)) = true := by simp; omega
            have HSET : Aside0 (∀ W1, Calls Try.prog 87 #[.agg #[.int .i64 S, .int .i64 W, .int .i64 L], .int .i64 m] W1 fun e w' => e = .returned (.int .i64 ((m % S : Nat) : Int)) ∧ Below W1.heap.size W1 w') := ⟨fun W1 => by have := hset.out m W1; rw [if_neg (by omega)] at this; exact this⟩
            have HF := Aside0.mk (HNE.out fun h => by have := (HBK.out h).1.2.2; rw [hm] at this; omega)
            clear hA hB hC hm hmem HT HBK HOK
            generalize m % S = p at *
            go_wp2_with (first | (go_at_call 87; refine (HSET.out _).mono ?_; rintro e w1 ⟨rfl, hb⟩; have HL1 := Aside0.mk (HE.out.1.step hb); (try (have hcp2 := pw_cell_below hb hcellp)); (try (obtain ⟨hlk, w2, hup, hLL⟩ := HSEEN.out w1 HL1.out; have HL2 := Aside0.mk hLL; clear hLL)); clear hb q0 q1 q2))
            go_ret
            first | exact ⟨by rw [HF.out]; rfl, HL1.out.below⟩ | exact ⟨by rw [HF.out]; rfl, HE.out.1.below⟩
        · obtain rfl : i = l.length := by omega
          have HE3 : Aside0 (LL w wr (cnt r (a + 1)) (seenL r (a + 1)) (.int .i64 S) (.int .i64 W) (.int .i64 L) ∧ ∀ b, b < a + 1 → GoodL S s (seenL r b) (r.getD b [])) := ⟨by rw [HF9.out.1, HF9.out.2]; exact ⟨HE.out.1, HNX.out HE.out.2⟩⟩
          clear HE
          go_wp2
          go_roundw
          case rel => exact ⟨a + 1, hlt, by go_num, HE3⟩
          case measure => simp [RowKit.intOf]; omega
    · obtain rfl : a = r.length := by omega
      have HV := Aside0.mk (HYV.out HE.out.2)
      go_wp2
      go_ret
      exact ⟨by rw [HV.out]; rfl, HE.out.1.below⟩
end Go.Proofs.Ytkgocbmnjlfkoaa.M
end
section
namespace Go.Proofs.Ytkgocbmnjlfkoaa.M
open Go.RowKit Go.Proofs.Ytkgocbmnjlfkoaa.X Go.Proofs.YtkgocbmnjlfkoaaW.PrintWords Go.Proofs.YtkgocbmnjlfkoaaW.PrintLast Go.Proofs.YtkgocbmnjlfkoaaW.PrintMore
set_option linter.unusedVariables false
set_option linter.unusedSimpArgs false
structure SL (w wr : World) (bq n : Nat) (ys : List Int) (c0 c1 c2 : Value) : Prop where
  seen : Seen wr bq n ys
  below : Below w.heap.size w wr
  c : wr.heap[w.heap.size]? = some (.cells #[c0, c1, c2] 26 (0, 0))
  ge : w.heap.size < bq
theorem SL.put {w wr w' : World} {bq n n' : Nat} {ys ys' : List Int} {c0 c1 c2 : Value} (h : SL w wr bq n ys c0 c1 c2) (hs : Seen w' bq n' ys') (hg : wr.grownBy w' (some bq)) : SL w w' bq n' ys' c0 c1 c2 :=
  ⟨hs, h.below.trans ⟨hg.os, hg.tape, hg.output, hg.size, fun k hk => hg.block k (by have := h.below.size; omega) (by have := h.ge; intro e; injection e with e; omega)⟩, (hg.block _ (blk_lt h.c) (by have := h.ge; intro e; injection e with e; omega)).trans h.c, h.ge⟩
set_option maxRecDepth 100000 in
set_option maxHeartbeats 4000000 in
theorem shaped_calls {S W L : Nat} (h : CacheOk S W L) (A : Option Addr) (c : Nat) (x : List (List (List Int))) (w : World) (hxl : x.length < 1152921504606846976) (hrl : ∀ r ∈ x, r.length < 1152921504606846976) (hN : ∀ r ∈ x, ∀ l ∈ r, l.length ≤ 17592186044416) (hr : C3 w A x) (hc : x.length ≤ c) :
    Calls Try.prog 72 #[.agg #[.int .i64 S, .int .i64 W, .int .i64 L], .slice A x.length c] w fun e w' => e = .returned (.bool (valb S W x)) ∧ Below w.heap.size w w' := by
  have hW4 := h.w4; have hS8 := h.s8
  have HR := Aside0.mk hr
  have HN := Aside0.mk hN
  have HRL := Aside0.mk hrl
  have HB0 : Aside0 (Below w.heap.size w (w.alloc (.cells #[.int .i64 S, .int .i64 W, .int .i64 L] 26)) ∧ (w.alloc (.cells #[.int .i64 S, .int .i64 W, .int .i64 L] 26)).heap[w.heap.size]? = some (.cells #[.int .i64 S, .int .i64 W, .int .i64 L] 26 (0, 0)) ∧ ∀ t, t < 0 → (x.getD t []).length = W ∧ VSx S t (x.getD t [])) := ⟨(Below.refl _ _).alloc (Nat.le_refl _) _, heap_new _ _, fun t ht => absurd ht (Nat.not_lt_zero _)⟩
  have hmm := @run_makeMap Try.prog
  clear hr h hN hrl
  by_cases hS : x.length = S
  · have HNV := Aside0.mk (fun (h : ¬ Valx S W x) => valb_no h)
    have HYV := Aside0.mk (fun (h : ∀ t, t < x.length → (x.getD t []).length = W ∧ VSx S t (x.getD t [])) => valb_yes (show Valx S W x from ⟨hS, h⟩))
    have g1 : ((x.length : Int) != (S : Int)) = false := by rw [hS]; simp
    have HX := Aside0.mk hS
    clear hS
    go_enter Try.func72, Try.ntmps72
    go_wp2
    clear g1
    go_loopw [19] (fun v19 wr => ∃ s : Nat, s ≤ x.length ∧ v19 = .int .i64 s ∧ Aside0 (Below w.heap.size w wr ∧ wr.heap[w.heap.size]? = some (.cells #[.int .i64 S, .int .i64 W, .int .i64 L] 26 (0, 0)) ∧ ∀ t, t < s → (x.getD t []).length = W ∧ VSx S t (x.getD t []))) (fun v19 _ => x.length - (RowKit.intOf v19).toNat)
    case atStart => exact ⟨0, Nat.zero_le _, rfl, HB0⟩
    case round =>
      clear HB0
      obtain ⟨s, hs, rfl, HE⟩ := hrel
      by_cases hltx : s < x.length
      · obtain ⟨ax, A1, c1, rfl, hcellxw, hc1, hl1⟩ := C3.get HR.out hltx
        have hcellx := pw_cell_below HE.out.1 hcellxw
        have hsS : s < S := by rw [← HX.out]; exact hltx
        have hS0 : ¬ S = 0 := by omega
        have hrl9 := HRL.out _ (List.getElem_mem hltx)
        have HNr := Aside0.mk (HN.out _ (List.getElem_mem hltx))
        have HR1 := Aside0.mk (show C2 w A1 x[s] from hl1)
        have HNOx : Aside0 (¬ (x[s].length = W ∧ VSx S s x[s]) → valb S W x = false) := ⟨fun hn => HNV.out fun hv => hn (by have := hv.2 s hltx; rwa [getD_lt hltx] at this)⟩
        have HNXx : Aside0 (x[s].length = W → VSx S s x[s] → ∀ t, t < s + 1 → (x.getD t []).length = W ∧ VSx S t (x.getD t [])) := ⟨fun h1 h2 t ht => by
          by_cases e : t = s
          · subst e
            rw [getD_lt hltx]
            exact ⟨h1, h2⟩
          · exact HE.out.2.2 t (by omega)⟩
        obtain ⟨q0, q1, q2, f0, f1, f2⟩ := cz3 HE.out.2.1
        clear f0 f1 f2 hl1 hcellxw HYV HNV
        generalize x[s] = r at *
        obtain ⟨wq, rfl⟩ : ∃ wq : World, wq = wr := ⟨_, rfl⟩
        by_cases hrW : r.length = W
        · have g1 : ((r.length : Int) != (W : Int)) = false := by rw [hrW]; simp
          have hr5 : r.length < 5 := by omega
          have HL0 : Aside0 (SL w (wq.alloc (.map #[] 0)) wq.heap.size (cnt r 0) (seenL r 0) (.int .i64 S) (.int .i64 W) (.int .i64 L) ∧ ∀ a, a < 0 → GoodL S s (seenL r a) (r.getD a [])) := ⟨⟨Seen.made wq, HE.out.1.alloc HE.out.1.size _, blk_alloc HE.out.2.1 _, blk_lt HE.out.2.1⟩, fun a ha => absurd ha (Nat.not_lt_zero _)⟩
          have HNV := Aside0.mk (fun (h : ¬ VSx S s r) => HNOx.out fun h2 => h h2.2)
          have HYV := Aside0.mk (HNXx.out hrW)
          clear HNOx HNXx hrW HE hrl9
          go_wp2
          clear hmm q0 q1 q2 g1
          generalize wq.heap.size = bq at *
          go_loopw [32] (fun v32 wr => ∃ a : Nat, a ≤ r.length ∧ v32 = .int .i64 a ∧ Aside0 (SL w wr bq (cnt r a) (seenL r a) (.int .i64 S) (.int .i64 W) (.int .i64 L) ∧ ∀ b, b < a → GoodL S s (seenL r b) (r.getD b []))) (fun v32 _ => r.length - (RowKit.intOf v32).toNat)
          case atStart => exact ⟨0, Nat.zero_le _, rfl, HL0⟩
          case round =>
            clear HL0 hcellx
            obtain ⟨a, ha, rfl, HE⟩ := hrel
            by_cases hlt : a < r.length
            · obtain ⟨ad, A0, c0, rfl, hcell0w, hc0, hl0⟩ := C2.get HR1.out hlt
              have hcell0 := pw_cell_below HE.out.1.below hcell0w
              have HE0 : Aside0 (SL w wr bq (cnt r a + 0) (seenL r a ++ r[a].take 0) (.int .i64 S) (.int .i64 W) (.int .i64 L) ∧ ∀ k, k < 0 → okElem S s (seenL r a) r[a] k) := ⟨⟨by simpa using HE.out.1, fun k hk => absurd hk (Nat.not_lt_zero _)⟩⟩
              have HF9 : Aside0 (cnt r (a + 1) = cnt r a + r[a].length ∧ seenL r (a + 1) = seenL r a ++ r[a].take r[a].length) := ⟨by rw [cnt, getD_lt hlt], seenL_succ hlt⟩
              have HNO : Aside0 (¬ GoodL S s (seenL r a) r[a] → valb S W x = false) := ⟨fun hn => HNV.out fun hv => hn (by have := hv a hlt; rwa [getD_lt hlt] at this)⟩
              have HNX : Aside0 (GoodL S s (seenL r a) r[a] → ∀ b, b < a + 1 → GoodL S s (seenL r b) (r.getD b [])) := ⟨fun hg b hb => by
                by_cases e : b = a
                · subst e
                  rw [getD_lt hlt]
                  exact hg
                · exact HE.out.2 b (by omega)⟩
              have hcl := cnt_le' HNr.out a
              have hcb : cnt r a ≤ 5 * 17592186044416 := Nat.le_trans hcl (Nat.mul_le_mul_right _ (by omega))
              have hll : r[a].length ≤ 17592186044416 := HNr.out _ (List.getElem_mem hlt)
              have HCL := Aside0.mk (show C1 w A0 r[a] from hl0)
              clear hl0 HE hcl hcell0w HYV HNV
              generalize seenL r a = yy at *
              generalize cnt r a = nn at *
              generalize r[a] = l at *
              obtain ⟨wo, rfl⟩ : ∃ wo : World, wo = wr := ⟨_, rfl⟩
              go_wp2
              go_loopw [38] (fun v38 wr => ∃ i : Nat, i ≤ l.length ∧ v38 = .int .i64 i ∧ Aside0 (SL w wr bq (nn + i) (yy ++ l.take i) (.int .i64 S) (.int .i64 W) (.int .i64 L) ∧ ∀ k, k < i → okElem S s yy l k)) (fun v38 _ => l.length - (RowKit.intOf v38).toNat)
              case atStart => exact ⟨0, Nat.zero_le _, rfl, HE0⟩
              case round =>
                clear HE0 hcell0
                obtain ⟨i, hi, rfl, HE⟩ := hrel
                by_cases hil : i < l.length
                · have hnm : nn + i < maxLen := by unfold maxLen; omega
                  obtain ⟨ad1, rfl, hcell⟩ := C1.get (Kd.C_below HCL.out HE.out.1.below) hil
                  have hg : l.getD i 0 = l[i] := getD_lt hil
                  have HT : Aside0 (yy ++ l.take (i + 1) = (yy ++ l.take i) ++ [l[i]]) := ⟨by rw [List.take_succ_eq_append_getElem hil, List.append_assoc]⟩
                  obtain ⟨q0, q1, q2, f0, f1, f2⟩ := cz3 HE.out.1.c
                  clear f0 f1 f2
                  have HNE : Aside0 (¬ okElem S s yy l i → valb S W x = false) := ⟨fun h => HNO.out fun hg => h (hg i hil)⟩
                  have HOK : Aside0 ((0 ≤ l[i] ∧ l[i] ≤ 1048576 ∧ l[i] % S = s) → l[i] ∉ yy ++ l.take i → (0 < i → l.getD (i - 1) 0 < l[i]) → okElem S s yy l i) := ⟨fun h1 h2 h3 => by unfold okElem; rw [hg]; exact ⟨h1, h2, h3⟩⟩
                  have HBK : Aside0 (okElem S s yy l i → (0 ≤ l[i] ∧ l[i] ≤ 1048576 ∧ l[i] % S = s) ∧ l[i] ∉ yy ++ l.take i ∧ (0 < i → l.getD (i - 1) 0 < l[i])) := ⟨fun h => by unfold okElem at h; rwa [hg] at h⟩
                  clear hg HNO
                  by_cases hA : l[i] < 0
                  · have g0 : decide (l[i] < 0) = true := decide_eq_true hA
                    have HF := Aside0.mk (HNE.out fun h => by have := (HBK.out h).1.1; omega)
                    clear hA HT HBK HOK
                    generalize l[i] = y at *
                    go_wp2
                    go_ret
                    exact ⟨by rw [HF.out]; rfl, HE.out.1.below⟩
                  have g0 : decide (l[i] < 0) = false := decide_eq_false hA
                  by_cases hB : 1048576 < l[i]
                  · have g1 : decide (1048576 < l[i]) = true := decide_eq_true hB
                    have HF := Aside0.mk (HNE.out fun h => by have := (HBK.out h).1.2.1; omega)
                    clear hA hB HT HBK HOK
                    generalize l[i] = y at *
                    go_wp2
                    go_ret
                    exact ⟨by rw [HF.out]; rfl, HE.out.1.below⟩
                  have g1 : decide (1048576 < l[i]) = false := decide_eq_false hB
                  obtain ⟨m, hm⟩ : ∃ m : Nat, l[i] = (m : Int) := ⟨l[i].toNat, by omega⟩
                  have hm9 : m ≤ 1048576 := by omega
                  have HWF := Aside0.mk (wf_line hm9)
                  have hmem : (m : Int) ∉ yy ++ l.take i → l[i] ∉ yy ++ l.take i := fun h => by rw [hm]; exact h
                  rw [hm] at hcell HT g0 g1
                  by_cases hC : m % S = s
                  · have hrng : 0 ≤ l[i] ∧ l[i] ≤ 1048576 ∧ l[i] % S = s := ⟨by omega, by omega, by rw [hm]; omega⟩
                    have g6 : ¬ (S : Int) = 0 := by omega
                    have e1 : (m : Int) % (S : Int) = ((m % S : Nat) : Int) := rfl
                    have e3 : Int.tmod (m : Int) (S : Int) = ((m % S : Nat) : Int) := by rw [Int.tmod_eq_emod_of_nonneg (Int.natCast_nonneg _)]; rfl
                    rw [hC] at e1 e3
                    by_cases hi0 : i = 0
                    · subst hi0
                      rw [Addr.add_zero'] at hcell
                      by_cases hE : (m : Int) ∈ yy ++ l.take 0
                      · have hdec : decide ((m : Int) ∈ yy ++ l.take 0) = true := decide_eq_true hE
                        have hlk := HE.out.1.seen.look HWF.out
                        rw [hdec] at hlk
                        have HF := Aside0.mk (HNE.out fun h => by exact absurd hE (fun hE => (HBK.out h).2.1 (by rw [hm]; exact hE)))
                        clear hA hB hC hm hmem hrng HT HBK HOK hE hdec
                        go_wp2
                        go_ret
                        exact ⟨by rw [HF.out]; rfl, HE.out.1.below⟩
                      · have hdec : decide ((m : Int) ∈ yy ++ l.take 0) = false := decide_eq_false hE
                        have hlk := HE.out.1.seen.look HWF.out
                        rw [hdec] at hlk
                        obtain ⟨w2, hup, hs2, hg2⟩ := HE.out.1.seen.put hnm HWF.out
                        have HL2 := Aside0.mk (HE.out.1.put hs2 hg2)
                        clear hs2 hg2
                        have hel := HOK.out hrng (hmem hE) (fun h0 => by omega)
                        have HP : Aside0 (∀ k, k < 0 + 1 → okElem S s yy l k) := ⟨fun k hk => by
                          by_cases e : k = 0
                          · subst e
                            exact hel
                          · exact HE.out.2 k (by omega)⟩
                        clear hA hB hC hm hmem hrng HBK HOK HNE hE hdec hel
                        go_wp2
                        go_roundw
                        case rel => exact ⟨0 + 1, hil, by go_num, ⟨by rw [HT.out]; exact ⟨HL2.out, HP.out⟩⟩⟩
                        case measure => simp [RowKit.intOf]; omega
                    · obtain ⟨j, rfl⟩ : ∃ j, i = j + 1 := ⟨i - 1, by omega⟩
                      obtain ⟨ad2, e2, hcellp⟩ := C1.get (Kd.C_below HCL.out HE.out.1.below) (show j < l.length by omega)
                      injection e2 with e2
                      subst e2
                      have hgj : l.getD j 0 = l[j] := getD_lt (show j < l.length by omega)
                      have g4 : decide ((0 : Int) < (j : Int) + 1) = true := decide_eq_true (by omega)
                      have g5 : decide ((0 : Int) < ((j + 1 : Nat) : Int)) = true := decide_eq_true (by omega)
                      have hcell2 : wr.cell? ⟨ad1.block, ad1.off + (j + 1), none⟩ = some (.int .i64 m) := hcell
                      by_cases hE : (m : Int) ∈ yy ++ l.take (j + 1)
                      · have hdec : decide ((m : Int) ∈ yy ++ l.take (j + 1)) = true := decide_eq_true hE
                        have hlk := HE.out.1.seen.look HWF.out
                        rw [hdec] at hlk
                        have HF := Aside0.mk (HNE.out fun h => by exact absurd hE (fun hE => (HBK.out h).2.1 (by rw [hm]; exact hE)))
                        clear hA hB hC hm hmem hrng HT HBK HOK hE hdec hgj hcell
                        go_wp2
                        go_ret
                        exact ⟨by rw [HF.out]; rfl, HE.out.1.below⟩
                      · have hdec : decide ((m : Int) ∈ yy ++ l.take (j + 1)) = false := decide_eq_false hE
                        have hlk := HE.out.1.seen.look HWF.out
                        rw [hdec] at hlk
                        obtain ⟨w2, hup, hs2, hg2⟩ := HE.out.1.seen.put hnm HWF.out
                        have HL2 := Aside0.mk (HE.out.1.put hs2 hg2)
                        clear hs2 hg2
                        by_cases hD : (m : Int) ≤ l[j]
                        · have g3 : decide ((m : Int) ≤ l[j]) = true := decide_eq_true hD
                          have HF := Aside0.mk (HNE.out fun h => by have := (HBK.out h).2.2 (by omega); have h7 : l.getD j 0 < l[j + 1] := this; rw [hgj, hm] at h7; omega)
                          clear hA hB hC hm hmem hrng HT HBK HOK hD hgj hcell hE hdec
                          go_wp2
                          go_ret
                          exact ⟨by rw [HF.out]; rfl, HE.out.1.below⟩
                        · have g3 : decide ((m : Int) ≤ l[j]) = false := decide_eq_false hD
                          have hel := HOK.out hrng (hmem hE) (fun h0 => by show l.getD j 0 < _; rw [hgj, hm]; omega)
                          have HP : Aside0 (∀ k, k < (j + 1) + 1 → okElem S s yy l k) := ⟨fun k hk => by
                            by_cases e : k = j + 1
                            · subst e
                              exact hel
                            · exact HE.out.2 k (by omega)⟩
                          clear hA hB hC hm hmem hrng HBK HOK HNE hE hdec hel hgj hcell hD
                          generalize l[j] = z at *
                          go_wp2
                          go_roundw
                          case rel => exact ⟨j + 1 + 1, hil, by go_num, ⟨by rw [HT.out]; exact ⟨HL2.out, HP.out⟩⟩⟩
                          case measure => simp [RowKit.intOf]; omega
                  · have g2 : (((m % S : Nat) : Int) != (s : Int)) = true := by simp; omega
                    have g6 : ¬ (S : Int) = 0 := by omega
                    have e1 : (m : Int) % (S : Int) = ((m % S : Nat) : Int) := rfl
                    have e3 : Int.tmod (m : Int) (S : Int) = ((m % S : Nat) : Int) := by rw [Int.tmod_eq_emod_of_nonneg (Int.natCast_nonneg _)]; rfl
                    have HF := Aside0.mk (HNE.out fun h => by have := (HBK.out h).1.2.2; rw [hm] at this; omega)
                    clear hA hB hC hm hmem HT HBK HOK
                    generalize m % S = p at *
                    go_wp2
                    go_ret
                    exact ⟨by rw [HF.out]; rfl, HE.out.1.below⟩
                · obtain rfl : i = l.length := by omega
                  have HE3 : Aside0 (SL w wr bq (cnt r (a + 1)) (seenL r (a + 1)) (.int .i64 S) (.int .i64 W) (.int .i64 L) ∧ ∀ b, b < a + 1 → GoodL S s (seenL r b) (r.getD b [])) := ⟨by rw [HF9.out.1, HF9.out.2]; exact ⟨HE.out.1, HNX.out HE.out.2⟩⟩
                  clear HE
                  go_wp2
                  go_roundw
                  case rel => exact ⟨a + 1, hlt, by go_num, HE3⟩
                  case measure => simp [RowKit.intOf]; omega
            · obtain rfl : a = r.length := by omega
              have HV : Aside0 (Below w.heap.size w wr ∧ wr.heap[w.heap.size]? = some (.cells #[.int .i64 S, .int .i64 W, .int .i64 L] 26 (0, 0)) ∧ ∀ t, t < s + 1 → (x.getD t []).length = W ∧ VSx S t (x.getD t [])) := ⟨HE.out.1.below, HE.out.1.c, HYV.out HE.out.2⟩
              go_wp2
              go_roundw
              case rel => exact ⟨s + 1, hltx, by go_num, HV⟩
              case measure => simp [RowKit.intOf]; omega
        · have g1 : ((r.length : Int) != (W : Int)) = true := by simp; omega
          have HF := Aside0.mk (HNOx.out fun h => hrW h.1)
          clear HNOx HNXx hrW
          go_wp2
          go_ret
          exact ⟨by rw [HF.out]; rfl, HE.out.1⟩
      · obtain rfl : s = x.length := by omega
        have HV := Aside0.mk (HYV.out HE.out.2.2)
        go_wp2
        go_ret
        exact ⟨by rw [HV.out]; rfl, HE.out.1⟩
  · have g1 : ((x.length : Int) != (S : Int)) = true := by simp; omega
    have HF := Aside0.mk (valb_no (S := S) (W := W) (x := x) fun h => hS h.1)
    clear hS
    go_enter Try.func72, Try.ntmps72
    go_wp2
    go_ret
    exact ⟨by rw [HF.out]; rfl, HB0.out.1⟩
set_option maxHeartbeats 4000000 in
theorem rvalid_calls {S W L : Nat} (h : CacheOk S W L) (A : Option Addr) (c : Nat) (x : List (List (List Int))) (w : World) (hxl : x.length < 1152921504606846976) (hrl : ∀ r ∈ x, r.length < 1152921504606846976) (hN : ∀ r ∈ x, ∀ l ∈ r, l.length ≤ 17592186044416) (hr : C3 w A x) (hc : x.length ≤ c) :
    Calls Try.prog 26 #[.agg #[.int .i64 S, .int .i64 W, .int .i64 L], .agg #[.slice A x.length c]] w fun e w' => e = .returned (.bool (valb S W x)) ∧ Below w.heap.size w w' := by
  have HB0 : Aside0 (Below w.heap.size w ((w.alloc (.cells #[.int .i64 S, .int .i64 W, .int .i64 L] 26)).alloc (.cells #[.slice A x.length c] 39))) := ⟨((Below.refl _ _).alloc (Nat.le_refl _) _).alloc (by simp) _⟩
  have hin := Aside0.mk (shaped_calls h A c x ((w.alloc (.cells #[.int .i64 S, .int .i64 W, .int .i64 L] 26)).alloc (.cells #[.slice A x.length c] 39)) hxl hrl hN (Kd.C_below hr HB0.out) hc)
  clear hr h hxl hrl hN
  go_enter Try.func26, Try.ntmps26
  go_wp2_with (first | (go_at_call 72; refine hin.out.mono ?_; rintro e w1 ⟨rfl, hb⟩; have HB1 := Aside0.mk (HB0.out.trans (hb.mono HB0.out.size)); clear hb))
  go_ret
  exact ⟨rfl, HB1.out⟩
end Go.Proofs.Ytkgocbmnjlfkoaa.M
end
section
namespace Go.Proofs.Ytkgocbmnjlfkoaa.M
open Go.RowKit Go.Proofs.Ytkgocbmnjlfkoaa.X Go.Proofs.YtkgocbmnjlfkoaaW.PrintWords Go.Proofs.YtkgocbmnjlfkoaaW.PrintLast Go.Proofs.YtkgocbmnjlfkoaaW.PrintMore
set_option linter.unusedVariables false
set_option linter.unusedSimpArgs false
set_option maxHeartbeats 4000000 in
theorem valid71b_calls {S W L : Nat} (h : CacheOk S W L) (A : Option Addr) (c : Nat) (x : List (List (List Int))) (w : World) (hxl : x.length < 1152921504606846976) (hrl : ∀ r ∈ x, r.length < 1152921504606846976) (hN : ∀ r ∈ x, ∀ l ∈ r, l.length ≤ 17592186044416) (hr : C3 w A x) (hc : x.length ≤ c) :
    Calls Try.prog 71 #[.agg #[.int .i64 S, .int .i64 W, .int .i64 L], .slice A x.length c] w fun e w' => e = .returned (.bool (valb S W x)) ∧ Below w.heap.size w w' := by
  have hW4 := h.w4; have hS8 := h.s8
  have hchk := Aside0.mk (check_calls h (w.alloc (.cells #[.int .i64 S, .int .i64 W, .int .i64 L] 26)))
  have HB0 : Aside0 (Below w.heap.size w (w.alloc (.cells #[.int .i64 S, .int .i64 W, .int .i64 L] 26))) := ⟨(Below.refl _ _).alloc (Nat.le_refl _) _⟩
  have hli := Aside0.mk (fun A c s r W1 hl hN hs hr hc => lists91_calls h A c s r W1 hl hN hs hr hc)
  have HR := Aside0.mk hr
  have HN := Aside0.mk hN
  have HRL := Aside0.mk hrl
  clear hr h hN hrl
  by_cases hS : x.length = S
  · have HNV := Aside0.mk (fun (h : ¬ Valx S W x) => valb_no h)
    have HYV := Aside0.mk (fun (h : ∀ t, t < x.length → (x.getD t []).length = W ∧ VSx S t (x.getD t [])) => valb_yes (show Valx S W x from ⟨hS, h⟩))
    have g1 : ((x.length : Int) != (S : Int)) = false := by rw [hS]; simp
    have HX := Aside0.mk hS
    clear hS
    go_enter Try.func71, Try.ntmps71
    go_wp2_with (first | (go_at_call 85; refine hchk.out.mono ?_; rintro e w1 ⟨rfl, hb⟩; have HB1 := Aside0.mk (HB0.out.trans (hb.mono HB0.out.size)); have HC := Aside0.mk (box_after hb); obtain ⟨q0, q1, q2, f0, f1, f2⟩ := cz3 HC.out; clear f0 f1 f2 hb))
    have HE1 : Aside0 (Below w.heap.size w w1 ∧ w1.heap[w.heap.size]? = some (.cells #[.int .i64 S, .int .i64 W, .int .i64 L] 26 (0, 0)) ∧ ∀ t, t < 0 → (x.getD t []).length = W ∧ VSx S t (x.getD t [])) := ⟨HB1.out, HC.out, fun t ht => absurd ht (Nat.not_lt_zero _)⟩
    clear q0 q1 q2 g1 hchk
    go_loopw [19] (fun v19 wr => ∃ s : Nat, s ≤ x.length ∧ v19 = .int .i64 s ∧ Aside0 (Below w.heap.size w wr ∧ wr.heap[w.heap.size]? = some (.cells #[.int .i64 S, .int .i64 W, .int .i64 L] 26 (0, 0)) ∧ ∀ t, t < s → (x.getD t []).length = W ∧ VSx S t (x.getD t []))) (fun v19 _ => x.length - (RowKit.intOf v19).toNat)
    case atStart => exact ⟨0, Nat.zero_le _, rfl, HE1⟩
    case round =>
      clear HB1 HC HE1
      obtain ⟨s, hs, rfl, HE⟩ := hrel
      by_cases hlt : s < x.length
      · obtain ⟨ad, A0, c0, rfl, hcell0w, hc0, hl0⟩ := C3.get HR.out hlt
        have hcell := pw_cell_below HE.out.1 hcell0w
        have hrl9 := HRL.out _ (List.getElem_mem hlt)
        have HNr := Aside0.mk (HN.out _ (List.getElem_mem hlt))
        have HRr := Aside0.mk (Kd.C_below (show C2 w A0 x[s] from hl0) HE.out.1)
        have hsS : s < S := by rw [← HX.out]; exact hlt
        have HNO : Aside0 (¬ (x[s].length = W ∧ VSx S s x[s]) → valb S W x = false) := ⟨fun hn => HNV.out fun hv => hn (by have := hv.2 s hlt; rwa [getD_lt hlt] at this)⟩
        have HNX : Aside0 (x[s].length = W → VSx S s x[s] → ∀ t, t < s + 1 → (x.getD t []).length = W ∧ VSx S t (x.getD t [])) := ⟨fun h1 h2 t ht => by
          by_cases e : t = s
          · subst e
            rw [getD_lt hlt]
            exact ⟨h1, h2⟩
          · exact HE.out.2.2 t (by omega)⟩
        obtain ⟨q0, q1, q2, f0, f1, f2⟩ := cz3 HE.out.2.1
        clear f0 f1 f2 hl0 hcell0w HYV HNV
        generalize x[s] = r at *
        by_cases hrW : r.length = W
        · have g1 : ((r.length : Int) != (W : Int)) = false := by rw [hrW]; simp
          have hcall := Aside0.mk (hli.out A0 c0 s r wr (by omega) HNr.out hsS HRr.out hc0)
          cases hb : vsb S s r
          · rw [hb] at hcall
            have HF := Aside0.mk (HNO.out fun h => vsb_false hb h.2)
            clear hrW hb HNO HNX
            go_wp2_with (first | (go_at_call 91; refine hcall.out.mono ?_; rintro e w1 ⟨rfl, hb⟩; have HE2 := Aside0.mk (HE.out.1.trans (hb.mono HE.out.1.size)); clear hb))
            go_ret
            exact ⟨by rw [HF.out]; rfl, HE2.out⟩
          · rw [hb] at hcall
            have HX2 := Aside0.mk (HNX.out hrW (vsb_true hb))
            clear hrW hb HNO HNX
            go_wp2_with (first | (go_at_call 91; refine hcall.out.mono ?_; rintro e w1 ⟨rfl, hb⟩; have HE2 := Aside0.mk (And.intro (HE.out.1.trans (hb.mono HE.out.1.size)) (And.intro ((hb.block _ (blk_lt HE.out.2.1)).trans HE.out.2.1) HX2.out)); clear hb))
            go_roundw
            case rel => exact ⟨s + 1, hlt, by go_num, HE2⟩
            case measure => simp [RowKit.intOf]; omega
        · have g1 : ((r.length : Int) != (W : Int)) = true := by simp; omega
          have HF := Aside0.mk (HNO.out fun h => hrW h.1)
          clear hrW HNO HNX
          go_wp2
          go_ret
          exact ⟨by rw [HF.out]; rfl, HE.out.1⟩
      · obtain rfl : s = x.length := by omega
        have HV := Aside0.mk (HYV.out HE.out.2.2)
        go_wp2
        go_ret
        exact ⟨by rw [HV.out]; rfl, HE.out.1⟩
  · have g1 : ((x.length : Int) != (S : Int)) = true := by simp; omega
    have HF := Aside0.mk (valb_no (S := S) (W := W) (x := x) fun h => hS h.1)
    clear hS
    go_enter Try.func71, Try.ntmps71
    go_wp2_with (first | (go_at_call 85; refine hchk.out.mono ?_; rintro e w1 ⟨rfl, hb⟩; have HB1 := Aside0.mk (HB0.out.trans (hb.mono HB0.out.size)); have HC := Aside0.mk (box_after hb); obtain ⟨q0, q1, q2, f0, f1, f2⟩ := cz3 HC.out; clear f0 f1 f2 hb))
    go_ret
    exact ⟨by rw [HF.out]; rfl, HB1.out⟩
set_option maxHeartbeats 4000000 in
theorem mvalidb_calls {S W L : Nat} (h : CacheOk S W L) (A : Option Addr) (c : Nat) (x : List (List (List Int))) (w : World) (hxl : x.length < 1152921504606846976) (hrl : ∀ r ∈ x, r.length < 1152921504606846976) (hN : ∀ r ∈ x, ∀ l ∈ r, l.length ≤ 17592186044416) (hr : C3 w A x) (hc : x.length ≤ c) :
    Calls Try.prog 25 #[.agg #[.int .i64 S, .int .i64 W, .int .i64 L], .agg #[.slice A x.length c]] w fun e w' => e = .returned (.bool (valb S W x)) ∧ Below w.heap.size w w' := by
  have HB0 : Aside0 (Below w.heap.size w ((w.alloc (.cells #[.int .i64 S, .int .i64 W, .int .i64 L] 26)).alloc (.cells #[.slice A x.length c] 39))) := ⟨((Below.refl _ _).alloc (Nat.le_refl _) _).alloc (by simp) _⟩
  have hin := Aside0.mk (valid71b_calls h A c x ((w.alloc (.cells #[.int .i64 S, .int .i64 W, .int .i64 L] 26)).alloc (.cells #[.slice A x.length c] 39)) hxl hrl hN (Kd.C_below hr HB0.out) hc)
  clear hr h hxl hrl hN
  go_enter Try.func25, Try.ntmps25
  go_wp2_with (first | (go_at_call 71; refine hin.out.mono ?_; rintro e w1 ⟨rfl, hb⟩; have HB1 := Aside0.mk (HB0.out.trans (hb.mono HB0.out.size)); clear hb))
  go_ret
  exact ⟨rfl, HB1.out⟩
end Go.Proofs.Ytkgocbmnjlfkoaa.M
end
section
namespace Go.Proofs.Ytkgocbmnjlfkoaa.M
open Go
set_option linter.unusedVariables false
set_option linter.unusedSimpArgs false
def BrAll (P : Program) (md : Region.Mode) (ops : Array Oper) (Q : Exit → Act → World → Prop) (S : World → Prop) (F : Nat → Bool) (n : Nat) (listed : Array Bool) (a : Act) (w : World) (rs : List Nat) : Prop :=
  ∀ j ∈ rs, wpOp P ops Q j (fun a' w' => (F j = true → S w') ∧ HeldTill P md ops Q S F n (listed.setIfInBounds j true) a' w') a w
section
variable {P : Program} {md : Region.Mode} {ops : Array Oper} {Q : Exit → Act → World → Prop} {S : World → Prop} {F : Nat → Bool}
theorem BrAll.nil {n : Nat} {listed : Array Bool} {a : Act} {w : World} : BrAll P md ops Q S F n listed a w [] := fun j hj => by cases hj
theorem BrAll.cons {n : Nat} {listed : Array Bool} {a : Act} {w : World} {j : Nat} {js : List Nat} {o : Oper} (hj : ops[j]? = some o)
    (h : wpList P ops (after Q (fun a' w' => (F j = true → S w') ∧ HeldTill P md ops Q S F n (listed.setIfInBounds j true) a' w')) [o] a w) (hs : BrAll P md ops Q S F n listed a w js) : BrAll P md ops Q S F n listed a w (j :: js) := fun i hi => by
  rcases List.mem_cons.1 hi with rfl | hi
  · unfold wpOp
    rw [hj]
    simp only
    unfold wpList at h
    split
    · rename_i hw
      rw [if_pos hw] at h
      rcases h with h | h
      · exact .inl (wp_after h)
      · exact .inr h
    · rename_i hw
      rw [if_neg hw] at h
      exact h
  · exact hs i hi
end
end Go.Proofs.Ytkgocbmnjlfkoaa.M
end
section
namespace Go.Proofs.Ytkgocbmnjlfkoaa.M
open Go.RowKit Go.Proofs.Ytkgocbmnjlfkoaa.X Go.Proofs.YtkgocbmnjlfkoaaW.PrintWords Go.Proofs.YtkgocbmnjlfkoaaW.PrintLast Go.Proofs.YtkgocbmnjlfkoaaW.PrintMore
set_option linter.unusedVariables false
set_option linter.unusedSimpArgs false
theorem T1.keepD {wD w w' : World} {g : Nat} {xs : List Int} {b : Nat} {v : Value} {l : List Int} (hT : T1 w b v l) (h : Dk wD g xs w) (hk : KeepBut w w' g none) : T1 w' b v l := hT.keep fun k hi => by
  obtain ⟨c, hc⟩ := hT.typed hi
  rw [hc]
  exact h.blk hk hc (by decide)
theorem T1.setFar {w : World} {b : Nat} {v : Value} {l : List Int} (h : T1 w b v l) {k t i : Nat} {c : Array Value} (hk : w.heap[k]? = some (.cells c t (0, 0))) (ht : t ≠ 3) (u : Value) : T1 (w.setCell ⟨k, i, none⟩ u) b v l := h.keep fun j hj => by
  obtain ⟨c2, hc⟩ := h.typed hj
  refine Below.heap_setCell w ⟨k, i, none⟩ u j ?_
  show j ≠ k
  intro e
  subst e
  rw [hk] at hc
  injection hc with hc
  injection hc with _ hc _
  exact ht hc
inductive Th
  | s3 (v : Value) (X : List (List (List Int)))
  | s2 (v : Value) (l : List (List Int))
  | s1 (v : Value) (l : List Int)
def Th.ok (w : World) : Th → Prop
  | .s3 v X => ∃ b vs us, T3 w b v vs us X
  | .s2 v l => ∃ b vs, T2 w b v vs l
  | .s1 v l => ∃ b, T1 w b v l
theorem Th.below {w w' : World} {t : Th} (h : t.ok w) (hb : Below w.heap.size w w') : t.ok w' := by
  cases t with
  | s3 v X => obtain ⟨b, vs, us, hT⟩ := h; exact ⟨b, vs, us, hT.below hb⟩
  | s2 v l => obtain ⟨b, vs, hT⟩ := h; exact ⟨b, vs, hT.fr (Fr.ofBelow (S := fun _ => False) hb) (fun _ _ => id)⟩
  | s1 v l => obtain ⟨b, hT⟩ := h; exact ⟨b, hT.fr (Fr.ofBelow (S := fun _ => False) hb) (fun _ _ => id)⟩
theorem Th.keepD {wD w w' : World} {g : Nat} {xs : List Int} {t : Th} (ht : t.ok w) (h : Dk wD g xs w) (hk : KeepBut w w' g none) : t.ok w' := by
  cases t with
  | s3 v X => obtain ⟨b, vs, us, hT⟩ := ht; exact ⟨b, vs, us, hT.keepD h hk⟩
  | s2 v l => obtain ⟨b, vs, hT⟩ := ht; exact ⟨b, vs, hT.keepD h hk⟩
  | s1 v l => obtain ⟨b, hT⟩ := ht; exact ⟨b, hT.keepD h hk⟩
def BoxT (t : TypeId) : Prop := t ≠ 72 ∧ t ≠ 43 ∧ t ≠ 22 ∧ t ≠ 3
theorem Th.setFar {w : World} {k i : Nat} {c : Array Value} {ty : TypeId} {t : Th} (h : t.ok w) (hk : w.heap[k]? = some (.cells c ty (0, 0))) (ht : BoxT ty) (u : Value) : t.ok (w.setCell ⟨k, i, none⟩ u) := by
  cases t with
  | s3 v X => obtain ⟨b, vs, us, hT⟩ := h; exact ⟨b, vs, us, hT.setFar hk ⟨ht.2.1, ht.2.2.1, ht.2.2.2⟩ u⟩
  | s2 v l => obtain ⟨b, vs, hT⟩ := h; exact ⟨b, vs, hT.setFar hk ⟨ht.2.2.1, ht.2.2.2⟩ u⟩
  | s1 v l => obtain ⟨b, hT⟩ := h; exact ⟨b, hT.setFar hk ht.2.2.2 u⟩
structure LM (w wr : World) (g : Nat) (xs : List Int) (Bx : List (Nat × Array Value × TypeId)) (Tx : List Th) : Prop where
  deck : Dk w g xs wr
  bx : ∀ p ∈ Bx, wr.heap[p.1]? = some (.cells p.2.1 p.2.2 (0, 0)) ∧ BoxT p.2.2 ∧ w.heap.size ≤ p.1
  ne : Bx.Pairwise (fun p q => q.1 ≠ p.1)
  tx : ∀ t ∈ Tx, t.ok wr
section
variable {w wr w' : World} {g : Nat} {xs : List Int} {Bx : List (Nat × Array Value × TypeId)} {Tx : List Th}
theorem LM.below (h : LM w wr g xs Bx Tx) : Below w.heap.size w wr := h.deck.bel
theorem LM.step (h : LM w wr g xs Bx Tx) (hb : Below wr.heap.size wr w') : LM w w' g xs Bx Tx :=
  ⟨h.deck.below hb, fun p hp => ⟨(hb.block _ (blk_lt (h.bx p hp).1)).trans (h.bx p hp).1, (h.bx p hp).2⟩, h.ne, fun t ht => Th.below (h.tx t ht) hb⟩
theorem LM.alloc (h : LM w wr g xs Bx Tx) (o : Obj) : LM w (wr.alloc o) g xs Bx Tx := h.step ((Below.refl _ _).alloc (Nat.le_refl _) _)
theorem LM.drew (h : LM w wr g xs Bx Tx) : LM w wr.drew g xs Bx Tx := h.step (Below.refl _ _).drew
theorem LM.turn (h : LM w wr g xs Bx Tx) (hd : Dk w g xs w') (hk : KeepBut wr w' g none) : LM w w' g xs Bx Tx :=
  ⟨hd, fun p hp => ⟨h.deck.blk hk (h.bx p hp).1 (h.bx p hp).2.1.1, (h.bx p hp).2⟩, h.ne, fun t ht => Th.keepD (h.tx t ht) h.deck hk⟩
theorem LM.add (h : LM w wr g xs Bx Tx) {t : Th} (ht : t.ok wr) : LM w wr g xs Bx (t :: Tx) := ⟨h.deck, h.bx, h.ne, fun u hu => by
  rcases List.mem_cons.1 hu with rfl | hu
  · exact ht
  · exact h.tx u hu⟩
theorem LM.drop (h : LM w wr g xs Bx Tx) {Tx' : List Th} (ht : ∀ t ∈ Tx', t ∈ Tx) : LM w wr g xs Bx Tx' := ⟨h.deck, h.bx, h.ne, fun u hu => h.tx u (ht u hu)⟩
theorem LM.newB (h : LM w wr g xs Bx Tx) (cs : Array Value) (t : TypeId) (ht : BoxT t) : LM w (wr.alloc (.cells cs t)) g xs ((wr.heap.size, cs, t) :: Bx) Tx := by
  have h2 := h.alloc (.cells cs t)
  refine ⟨h2.deck, fun p hp => ?_, List.pairwise_cons.2 ⟨fun p hp => Nat.ne_of_lt (blk_lt (h.bx p hp).1), h.ne⟩, h2.tx⟩
  rcases List.mem_cons.1 hp with rfl | hp
  · exact ⟨heap_new _ _, ht, h.below.size⟩
  · exact h2.bx p hp
theorem pw_set' {Bx : List (Nat × Array Value × TypeId)} {i p : Nat} {u v : Array Value × TypeId} (h : Bx.Pairwise (fun p q => q.1 ≠ p.1)) (hi : Bx[i]? = some (p, u)) : (Bx.set i (p, v)).Pairwise (fun p q => q.1 ≠ p.1) := by
  obtain ⟨hl, e⟩ := List.getElem?_eq_some_iff.1 hi
  rw [List.pairwise_iff_getElem] at h ⊢
  intro a b ha hb hab
  rw [List.length_set] at ha hb
  have := h a b ha hb hab
  rw [List.getElem_set, List.getElem_set]
  have ee : (Bx[i]).1 = p := by rw [e]
  split <;> split <;> rename_i h1 h2 <;> (try subst h1) <;> (try subst h2) <;> first | omega | (rw [ee] at this; exact this) | exact this | (rw [← ee]; exact this)
theorem LM.put (h : LM w wr g xs Bx Tx) (i : Nat) {p : Nat} {cs : Array Value} {t : TypeId} (hi : Bx[i]? = some (p, cs, t)) (o : Nat) (v : Value) : LM w (wr.setCell ⟨p, o, none⟩ v) g xs (Bx.set i (p, cs.setIfInBounds o v, t)) Tx := by
  obtain ⟨hl, e⟩ := List.getElem?_eq_some_iff.1 hi
  have hm : (p, cs, t) ∈ Bx := e ▸ List.getElem_mem hl
  obtain ⟨h1, h2, h3⟩ := h.bx _ hm
  refine ⟨h.deck.set h1 h2.1 h3 v, fun q hq => ?_, pw_set' h.ne hi, fun t ht => Th.setFar (h.tx t ht) h1 h2 v⟩
  obtain ⟨j, hj, rfl⟩ := List.getElem_of_mem hq
  rw [List.length_set] at hj
  rw [List.getElem_set]
  by_cases ej : i = j
  · subst ej
    rw [if_pos rfl]
    exact ⟨blk_put h1 o v rfl, h2, h3⟩
  · rw [if_neg ej]
    have hq2 := h.bx _ (List.getElem_mem hj)
    refine ⟨blk_farm hq2.1 ?_, hq2.2⟩
    have hp2 := List.pairwise_iff_getElem.1 h.ne
    rcases Nat.lt_or_gt_of_ne ej with h5 | h5
    · have := hp2 i j hl hj h5
      rw [e] at this
      exact this
    · have := hp2 j i hj hl h5
      rw [e] at this
      exact Ne.symm this
theorem LM.blk (h : LM w wr g xs Bx Tx) (i : Nat) {p : Nat} {cs : Array Value} {t : TypeId} (hi : Bx[i]? = some (p, cs, t)) : wr.heap[p]? = some (.cells cs t (0, 0)) := (h.bx (p, cs, t) (by obtain ⟨hl, e⟩ := List.getElem?_eq_some_iff.1 hi; exact e ▸ List.getElem_mem hl)).1
theorem LM.cell (h : LM w wr g xs Bx Tx) (i : Nat) {p : Nat} {cs : Array Value} {t : TypeId} (hi : Bx[i]? = some (p, cs, t)) (o : Nat) {v : Value} (hv : cs[o]? = some v) : wr.cell? ⟨p, o, none⟩ = some v := (blk_cell (h.blk i hi) o).trans hv
theorem LM.free (h : LM w wr g xs Bx Tx) (i : Nat) {p : Nat} {cs : Array Value} {t : TypeId} (hi : Bx[i]? = some (p, cs, t)) (o : Nat) : wr.frozen? ⟨p, o, none⟩ = false := blk_frozen (h.blk i hi) o
theorem LM.th (h : LM w wr g xs Bx Tx) (i : Nat) {t : Th} (hi : Tx[i]? = some t) : t.ok wr := h.tx t (by obtain ⟨hl, e⟩ := List.getElem?_eq_some_iff.1 hi; exact e ▸ List.getElem_mem hl)
theorem LM.rd3 (h : LM w wr g xs Bx Tx) (i : Nat) {A : Option Addr} {n k : Nat} {X : List (List (List Int))} (hi : Tx[i]? = some (.s3 (.slice A n k) X)) : n = X.length ∧ X.length ≤ k ∧ C3 wr A X := by
  obtain ⟨b, vs, us, hT⟩ := h.th i hi
  exact hT.rd
theorem LM.rd2 (h : LM w wr g xs Bx Tx) (i : Nat) {A : Option Addr} {n k : Nat} {X : List (List Int)} (hi : Tx[i]? = some (.s2 (.slice A n k) X)) : n = X.length ∧ X.length ≤ k ∧ C2 wr A X := by
  obtain ⟨b, vs, hT⟩ := h.th i hi
  exact hT.rd
theorem T1.rd {w : World} {b n c : Nat} {A : Option Addr} {x : List Int} (h : T1 w b (.slice A n c) x) : n = x.length ∧ x.length ≤ c ∧ C1 w A x := by
  obtain ⟨A2, c2, e, h1, h2⟩ := h.reads
  injection e with e1 e2 e3
  subst e1; subst e2; subst e3
  exact ⟨rfl, h1, h2⟩
theorem LM.rd1 (h : LM w wr g xs Bx Tx) (i : Nat) {A : Option Addr} {n k : Nat} {X : List Int} (hi : Tx[i]? = some (.s1 (.slice A n k) X)) : n = X.length ∧ X.length ≤ k ∧ C1 wr A X := by
  obtain ⟨b, hT⟩ := h.th i hi
  exact hT.rd
theorem LM.first (h : Dk w g xs wr) : LM w wr g xs [] [] := ⟨h, fun p hp => (by cases hp), List.Pairwise.nil, fun q hq => (by cases hq)⟩
variable {S W L : Nat}
theorem LM.next (h : LM w wr g xs Bx Tx) (n : Int) (hn : n ≤ 1048577) : Calls Try.prog 18 #[.pointer (some ⟨g, 0, none⟩), .int .i64 n] wr fun e w' => ∃ r : Nat, e = .returned (.int .i64 r) ∧ (1 ≤ n → (r : Int) < n) ∧ (n < 1 → r = 0) ∧ LM w w' g xs Bx Tx := (next_calls h.deck n hn).mono fun e w' ⟨r, h1, h2, h3, h4, h5⟩ => ⟨r, h1, h2, h3, h.turn h4 h5⟩
theorem LM.cache (h : LM w wr g xs Bx Tx) : Calls Try.prog 15 #[.pointer (some ⟨g, 0, none⟩)] wr fun e w' => ∃ S W L : Nat, e = .returned (.agg #[.int .i64 S, .int .i64 W, .int .i64 L]) ∧ CacheOk S W L ∧ LM w w' g xs Bx Tx := (cache_calls h.deck).mono fun e w' ⟨S, W, L, h1, h2, h4, h5⟩ => ⟨S, W, L, h1, h2, h.turn h4 h5⟩
theorem LM.must (hC : CacheOk S W L) (h : LM w wr g xs Bx Tx) : Calls Try.prog 22 #[.pointer (some ⟨g, 0, none⟩), .agg #[.int .i64 S, .int .i64 W, .int .i64 L]] wr fun e w' => ∃ A k X, e = .returned (.agg #[.slice A (X : List (List (List Int))).length k]) ∧ Val S W X ∧ LM w w' g xs Bx (.s3 (.slice A X.length k) X :: Tx) :=
  (must22_calls hC h.deck).mono fun e w' ⟨v, vs, us, X, he, hT, hV, hd, hk⟩ => by
    obtain ⟨A, k, rfl, _, _⟩ := hT.reads
    exact ⟨A, k, X, he, hV, (h.turn hd hk).add ⟨_, _, _, hT⟩⟩
theorem LM.made (h : LM w wr g xs Bx Tx) {f : Nat} {args : Array Value} {X : List (List (List Int))} (hc : Calls Try.prog f args wr (New3S wr X)) : Calls Try.prog f args wr fun e w' => ∃ A k, e = .returned (.agg #[.slice A X.length k]) ∧ LM w w' g xs Bx (.s3 (.slice A X.length k) X :: Tx) :=
  hc.mono fun e w' ⟨v, vs, us, he, hT, hb⟩ => by
    obtain ⟨A, k, rfl, _, _⟩ := hT.reads
    exact ⟨A, k, he, (h.step hb).add ⟨_, _, _, hT⟩⟩
theorem LM.pure (h : LM w wr g xs Bx Tx) {f : Nat} {args : Array Value} {v : Value} (hc : Calls Try.prog f args wr fun e w' => e = .returned v ∧ Below wr.heap.size wr w') : Calls Try.prog f args wr fun e w' => e = .returned v ∧ LM w w' g xs Bx Tx :=
  hc.mono fun e w' ⟨he, hb⟩ => ⟨he, h.step hb⟩
theorem LM.touch (hC : CacheOk S W L) (h : LM w wr g xs Bx Tx) (i : Nat) {A : Option Addr} {k : Nat} {X : List (List (List Int))} (hi : Tx[i]? = some (.s3 (.slice A X.length k) X)) (hF : Fit S W X) (n : Nat) :
    Calls Try.prog 29 #[.agg #[.int .i64 S, .int .i64 W, .int .i64 L], .agg #[.slice A X.length k], .int .i64 n] wr fun e w' => ∃ A' k', e = .returned (.agg #[.slice A' (touchM S W X n).length k']) ∧ LM w w' g xs Bx (.s3 (.slice A' (touchM S W X n).length k') (touchM S W X n) :: Tx) :=
  h.made (touch_calls hC A k X n wr hF (h.rd3 i hi).2.2 (h.rd3 i hi).2.1)
theorem LM.join (hC : CacheOk S W L) (h : LM w wr g xs Bx Tx) (i j : Nat) {A B : Option Addr} {k m : Nat} {X Y : List (List (List Int))} (hi : Tx[i]? = some (.s3 (.slice A X.length k) X)) (hj : Tx[j]? = some (.s3 (.slice B Y.length m) Y)) (hF : Fit S W X) (hG : Fit S W Y) :
    Calls Try.prog 34 #[.agg #[.int .i64 S, .int .i64 W, .int .i64 L], .agg #[.slice A X.length k], .agg #[.slice B Y.length m]] wr fun e w' => ∃ A' k', e = .returned (.agg #[.slice A' (joinM S W X Y).length k']) ∧ LM w w' g xs Bx (.s3 (.slice A' (joinM S W X Y).length k') (joinM S W X Y) :: Tx) :=
  h.made (mjoin_calls hC A B k m X Y wr hF hG (h.rd3 i hi).2.2 (h.rd3 i hi).2.1 (h.rd3 j hj).2.2 (h.rd3 j hj).2.1)
theorem LM.bel (hC : CacheOk S W L) (h : LM w wr g xs Bx Tx) (i j : Nat) {A B : Option Addr} {k m : Nat} {X Y : List (List (List Int))} (hi : Tx[i]? = some (.s3 (.slice A X.length k) X)) (hj : Tx[j]? = some (.s3 (.slice B Y.length m) Y)) (hF : Fit S W X) (hG : Fit S W Y) (hB : Bel X Y) :
    Calls Try.prog 32 #[.agg #[.int .i64 S, .int .i64 W, .int .i64 L], .agg #[.slice A X.length k], .agg #[.slice B Y.length m]] wr fun e w' => e = .returned (.bool true) ∧ LM w w' g xs Bx Tx :=
  h.pure (below32_calls hC A B k m X Y wr hF hG hB (h.rd3 i hi).2.2 (h.rd3 i hi).2.1 (h.rd3 j hj).2.2 (h.rd3 j hj).2.1)
theorem LM.awake (h : LM w wr g xs Bx Tx) : Calls Try.prog 27 #[] wr fun e w' => e = .returned (.bool true) ∧ LM w w' g xs Bx Tx := h.pure (awake27_calls wr)
end
end Go.Proofs.Ytkgocbmnjlfkoaa.M
end
section
namespace Go.Proofs.Ytkgocbmnjlfkoaa.X
open Go.RowKit Go.Proofs.YtkgocbmnjlfkoaaW.PrintWords Go.Proofs.YtkgocbmnjlfkoaaW.PrintLast Go.Proofs.YtkgocbmnjlfkoaaW.PrintMore
attribute [local go_sem] max2_int min2_int max_two min_two max_three min_three max_four min_four
set_option linter.unusedVariables false
set_option linter.unusedSimpArgs false
def timeboundref22_Copy.l0 : Nat → Int → List (List Int) → List (List Int) → Option ((List (List Int)))
  | 0, _, _, _ => none
  | k + 1, x4, x102000, x104000 => if x4 < (x102000.length : Int) then ((some (([] : List Int) : List Int)).bind fun y104 => (if 0 ≤ x4 then (if y104.length + (rd_L1 x102000 x4).length < 17592186044416 then (if x104000.length < 5864062014805 then (timeboundref22_Copy.l0 k (wrap64 (x4 + 1)) x102000 (x104000 ++ [(y104 ++ (rd_L1 x102000 x4))])) else (none)) else (none)) else (none))) else (some x104000)
def timeboundref22_Copy.f (k : Nat) (l0_0 : List (List Int)) : Option ((List (List Int))) := timeboundref22_Copy.l0 k 0 l0_0 ([] : List (List Int))
def timeboundref22_Copy.T5 : Bool × List (List Nat × List Nat) := (true, [([], []), ([0], [0]), ([], []), ([], []), ([3], [3]), ([], []), ([4, 5], [4, 5]), ([6], [6]), ([2, 7], [2, 7]), ([8], [8]), ([1, 9, 8], [1, 9]), ([0, 1, 2, 3, 4, 5, 6, 7, 8, 9, 10], []), ([11, 10, 10, 0, 1, 2, 3, 4, 5, 6, 7, 8, 9, 10], [10, 11])])
def timeboundref22_Copy.B5 : List Nat := [0, 1, 0, 0, 8, 0, 56, 120, 252, 508, 1023, 2047, 4095]
theorem timeboundref22_Copy.tab5 : rtab .any (opsOf Try.f40 5) = timeboundref22_Copy.T5 := by kernel_rfl
theorem timeboundref22_Copy.bits5 : waitsOk timeboundref22_Copy.T5.2 timeboundref22_Copy.B5 = true := by kernel_rfl
abbrev timeboundref22_Copy.b0 : Array Bool := X.bv0
abbrev timeboundref22_Copy.b1 : Array Bool := X.bv1
abbrev timeboundref22_Copy.b2 : Array Bool := X.bv2
abbrev timeboundref22_Copy.b3 : Array Bool := X.bv3
abbrev timeboundref22_Copy.b4 : Array Bool := X.bv4
abbrev timeboundref22_Copy.b5 : Array Bool := X.bv5
abbrev timeboundref22_Copy.b6 : Array Bool := X.bv6
abbrev timeboundref22_Copy.b7 : Array Bool := X.bv7
abbrev timeboundref22_Copy.b8 : Array Bool := X.bv8
abbrev timeboundref22_Copy.b9 : Array Bool := X.bv9
abbrev timeboundref22_Copy.b10 : Array Bool := X.bv10
abbrev timeboundref22_Copy.b11 : Array Bool := X.bv11
abbrev timeboundref22_Copy.b12 : Array Bool := X.bv12
abbrev timeboundref22_Copy.b13 : Array Bool := X.bv13
set_option maxHeartbeats 80000000 in
set_option maxRecDepth 100000 in
theorem timeboundref22_Copy.calls (k : Nat) (A0_0 : Option Addr) (c0_0 : Nat) (l0_0 : List (List Int)) (r : List (List Int)) (w : World) (hr0_0 : Kd.C (Kd.slice 3 (Kd.int .i64)) w A0_0 l0_0.length l0_0) (hc0_0 : l0_0.length ≤ c0_0) (h : timeboundref22_Copy.f k l0_0 = some r) :
   Calls Try.prog 40 #[.agg #[.slice A0_0 l0_0.length c0_0]] w fun e w' => ∃ v0_ : Value, e = .returned (.agg #[v0_]) ∧ Kd.S (Kd.slice 3 (Kd.int .i64)) 22 w' w.heap.size (fun _ => True) v0_ r ∧ Below w.heap.size w w' := by
  have hu54 := Try.underlying54
  have HR0_0 := Aside0.mk hr0_0
  have HC0_0 := Aside0.mk hc0_0
  clear hr0_0 hc0_0
  have HB := Aside0.mk (Below.refl w.heap.size w)
  have H : (timeboundref22_Copy.l0 k 0 l0_0 ([] : List (List Int))) = some r := h
  clear h
  have H' := Aside0.mk H
  clear H
  go_enter Try.func40, Try.ntmps40
  go_wp2_with (first | ((with_reducible refine gate_dst (N := 1) rfl ?_); refine box_event ?hg (N := 1) ?hd (cs := #[.slice A0_0 l0_0.length c0_0]) (t := 54) ?hr ?_; (case hd => rfl); (case hg => rfl); (case hr => first | (go_simp; done) | (go_simp; rfl)); intro gb101 hg w2 hbox hb; have n0_ := Aside0.mk (below_step (hB0 HB.out) hb); have n1_ := Aside0.mk (hbox); have n2_ := Aside0.mk ((by rw [hg]; exact (below_size (hB0 HB.out)) : w.heap.size ≤ gb101)); have n3_ := Aside0.mk ((by rw [hg]; exact (below_size (hB0 HB.out)) : w.heap.size ≤ gb101)); clear HB; have HB := n0_; have BK101 := n1_; have GW101 := n2_; have GE101 := n3_; clear n0_ n1_ n2_ n3_; clear hb hbox hg) | ((with_reducible refine gate_dst (N := 2) rfl ?_); refine box_event ?hg (N := 2) ?hd (cs := #[.slice none 0 0]) (t := 54) ?hr ?_; (case hd => rfl); (case hg => rfl); (case hr => first | (go_simp; done) | (go_simp; rfl)); intro gb102 hg w3 hbox hb; have n0_ := Aside0.mk (blk_below (g := gb101) (bK BK101.out) hb); have n1_ := Aside0.mk (below_step (hB1 HB.out GE101.out) hb); have n2_ := Aside0.mk (hbox); have n3_ := Aside0.mk ((by rw [hg]; exact (below_size (hB1 HB.out GE101.out)) : w.heap.size ≤ gb102)); have n4_ := Aside0.mk ((by rw [hg]; exact (below_size (hB1 HB.out GE101.out)) : w.heap.size ≤ gb102)); have n5_ := Aside0.mk ((by rw [hg]; exact Nat.ne_of_lt (blk_lt (g := gb101) (bK BK101.out)) : gb101 ≠ gb102)); have n6_ := Aside0.mk ((by rw [hg]; exact Nat.ne_of_gt (blk_lt (g := gb101) (bK BK101.out)) : gb102 ≠ gb101)); clear BK101 HB; have BK101 := n0_; have HB := n1_; have BK102 := n2_; have GW102 := n3_; have GE102 := n4_; have NB101_102 := n5_; have NB102_101 := n6_; clear n0_ n1_ n2_ n3_ n4_ n5_ n6_; clear hb hbox hg) | ((with_reducible refine gate_dst (N := 3) rfl ?_); refine box_event ?hg (N := 3) ?hd (cs := #[.slice none 0 0]) (t := 54) ?hr ?_; (case hd => rfl); (case hg => rfl); (case hr => first | (go_simp; done) | (go_simp; rfl)); intro gb103 hg w4 hbox hb; have n0_ := Aside0.mk (blk_below (g := gb101) (bK BK101.out) hb); have n1_ := Aside0.mk (blk_below (g := gb102) (bK BK102.out) hb); have n2_ := Aside0.mk (below_step (hB2 HB.out GE101.out GE102.out) hb); have n3_ := Aside0.mk (hbox); have n4_ := Aside0.mk ((by rw [hg]; exact (below_size (hB2 HB.out GE101.out GE102.out)) : w.heap.size ≤ gb103)); have n5_ := Aside0.mk ((by rw [hg]; exact (below_size (hB2 HB.out GE101.out GE102.out)) : w.heap.size ≤ gb103)); have n6_ := Aside0.mk ((by rw [hg]; exact Nat.ne_of_lt (blk_lt (g := gb101) (bK BK101.out)) : gb101 ≠ gb103)); have n7_ := Aside0.mk ((by rw [hg]; exact Nat.ne_of_gt (blk_lt (g := gb101) (bK BK101.out)) : gb103 ≠ gb101)); have n8_ := Aside0.mk ((by rw [hg]; exact Nat.ne_of_lt (blk_lt (g := gb102) (bK BK102.out)) : gb102 ≠ gb103)); have n9_ := Aside0.mk ((by rw [hg]; exact Nat.ne_of_gt (blk_lt (g := gb102) (bK BK102.out)) : gb103 ≠ gb102)); clear BK101 BK102 HB; have BK101 := n0_; have BK102 := n1_; have HB := n2_; have BK103 := n3_; have GW103 := n4_; have GE103 := n5_; have NB101_103 := n6_; have NB103_101 := n7_; have NB102_103 := n8_; have NB103_102 := n9_; clear n0_ n1_ n2_ n3_ n4_ n5_ n6_ n7_ n8_ n9_; clear hb hbox hg))
  (try simp only [Act.put, List.setIfInBounds_toArray, List.set_cons_zero, List.set_cons_succ])
  go_loopg [4] k (fun kq v4 w' => ∃ (x4_1 : Int) (x104000_1 : List (List Int)) (u104000 : Value), v4 = .int .i64 x4_1 ∧ Aside0 (timeboundref22_Copy.l0 kq x4_1 l0_0 x104000_1 = some r) ∧ Aside0 (kq ≤ k) ∧ Aside0 (Kd.S (Kd.slice 3 (Kd.int .i64)) 22 w' w.heap.size (fun _ => True) u104000 x104000_1) ∧ Aside0 (w'.heap[gb101]? = some (.cells #[(.slice A0_0 l0_0.length c0_0)] 54 (0, 0))) ∧ Aside0 (w'.heap[gb102]? = some (.cells #[(.slice none 0 0)] 54 (0, 0))) ∧ Aside0 (w'.heap[gb103]? = some (.cells #[u104000] 54 (0, 0))) ∧ Aside0 (Below w.heap.size w w'))
  case atStart => exact ⟨(0), (([] : List (List Int))), (.slice none 0 0), rS, H', ⟨Nat.le_refl _⟩, ⟨by first | exact Kd.S_nil _ _ _ _ _ | exact Kd.N_nil _ _ _ _ _ | exact Kd.V_nil _ _ _ _ _ | exact Kd.Q_nil _ _ _ _ _ | exact Kd.R_nil _ _ _ _ _⟩, ⟨bK BK101.out⟩, ⟨bK BK102.out⟩, ⟨bK BK103.out⟩, ⟨hB3 HB.out GE101.out GE102.out GE103.out⟩⟩
  case round =>
   clear H'
   obtain ⟨x4_1, x104000_1, u104000, rfl, HA, HK1, HO_104000, BK101, BK102, BK103, HB⟩ := hrel
   cases gk with
   | zero => exact absurd HA.out (by simp [timeboundref22_Copy.l0])
   | succ k1 =>
    have H := HA.out
    clear HA
    simp only [timeboundref22_Copy.l0] at H
    by_cases c5 : x4_1 < (l0_0.length : Int)
    ·rw [if_pos c5] at H
     have c5b0 : decide (x4_1 < (l0_0.length : Int)) = true := decide_eq_true c5
     clear c5
     obtain ⟨y104, hy104⟩ : ∃ y_ : List Int, y_ = (([] : List Int)) := ⟨_, rfl⟩
     replace H : (if 0 ≤ x4_1 then (if y104.length + (rd_L1 l0_0 x4_1).length < 17592186044416 then (if x104000_1.length < 5864062014805 then (timeboundref22_Copy.l0 k1 (wrap64 (x4_1 + 1)) l0_0 (x104000_1 ++ [(y104 ++ (rd_L1 l0_0 x4_1))])) else (none)) else (none)) else (none)) = some r := by first | (rw [hy104]; with_reducible exact H) | (have H2_ := (Option.bind_some _ _).symm.trans H; rw [hy104]; with_reducible exact H2_) | (have H2_ := (Option.bind_some _ _).symm.trans H; with_reducible exact H2_) | with_reducible exact H | (rw [hy104]; exact H) | exact H
     have Ny104 := Aside0.mk hy104
     clear hy104
     by_cases c6 : 0 ≤ x4_1
     ·rw [if_pos c6] at H
      have c6b0 : decide (0 ≤ x4_1) = true := decide_eq_true c6
      clear c6
      by_cases c7 : y104.length + (rd_L1 l0_0 x4_1).length < 17592186044416
      ·rw [if_pos c7] at H
       have LMc7 := Aside0.mk c7
       clear c7
       obtain ⟨y108, hy108⟩ : ∃ y_ : List Int, y_ = (y104 ++ (rd_L1 l0_0 x4_1)) := ⟨_, rfl⟩
       replace H : (if x104000_1.length < 5864062014805 then (timeboundref22_Copy.l0 k1 (wrap64 (x4_1 + 1)) l0_0 (x104000_1 ++ [y108])) else (none)) = some r := by first | (rw [hy108]; with_reducible exact H) | (have H2_ := (Option.bind_some _ _).symm.trans H; rw [hy108]; with_reducible exact H2_) | (have H2_ := (Option.bind_some _ _).symm.trans H; with_reducible exact H2_) | with_reducible exact H | (rw [hy108]; exact H) | exact H
       have Ny108 := Aside0.mk hy108
       clear hy108
       by_cases c8 : x104000_1.length < 5864062014805
       ·rw [if_pos c8] at H
        have LMc8 := Aside0.mk c8
        clear c8
        obtain ⟨y111, hy111⟩ : ∃ y_ : List (List Int), y_ = (x104000_1 ++ [y108]) := ⟨_, rfl⟩
        replace H : (timeboundref22_Copy.l0 k1 (wrap64 (x4_1 + 1)) l0_0 y111) = some r := by first | (rw [hy111]; with_reducible exact H) | (have H2_ := (Option.bind_some _ _).symm.trans H; rw [hy111]; with_reducible exact H2_) | (have H2_ := (Option.bind_some _ _).symm.trans H; with_reducible exact H2_) | with_reducible exact H | (rw [hy111]; exact H) | exact H
        have Ny111 := Aside0.mk hy111
        clear hy111
        have H' := Aside0.mk H
        clear H
        have hnb9 := NB101_102.out
        have hnc9 := NB102_101.out
        have hnb10 := NB101_103.out
        have hnc10 := NB103_101.out
        obtain ⟨hcz11_0, hfz11_0⟩ := cz1 BK101.out
        try go_wp2
        have n0_ := Aside0.mk (Kd.S_drew HO_104000.out)
        have n1_ := Aside0.mk (blk_drew BK101.out)
        have n2_ := Aside0.mk (blk_drew BK102.out)
        have n3_ := Aside0.mk (blk_drew BK103.out)
        have n4_ := Aside0.mk (below_drew1 HB.out)
        clear HO_104000
        clear BK101
        clear BK102
        clear BK103
        clear HB
        have HO_104000 := n0_
        have BK101 := n1_
        have BK102 := n2_
        have BK103 := n3_
        have HB := n4_
        clear n0_ n1_ n2_ n3_ n4_
        have p107 : 0 ≤ (x4_1 : Int) := oD
        have q107 : x4_1 < (l0_0.length : Int) := oD
        obtain ⟨ad107, A107_0, c107_0, e107, hx107_0, hl107_0, hi107_0⟩ := at_L1 HR0_0.out x4_1 p107 q107
        have hw107_0 := hx107_0
        cases e107
        replace hx107_0 := (HB.out.cell (World.block_lt_of_cell? w _ hx107_0)).trans hx107_0
        have HR107_0 := Aside0.mk hi107_0
        have HC107_0 := Aside0.mk hl107_0
        clear hi107_0 hl107_0
        replace p107 := eq_true p107
        replace q107 := eq_true q107
        refine start_ (n := 13) (S := fun w' => w'.cell? ⟨gb103, 0, none⟩ = some (u104000) ∧ w'.cell? ⟨gb101, 0, none⟩ = some (.slice (some ad107) l0_0.length c0_0) ∧ w'.cell? (ad107.add (x4_1).toNat) = some (.slice A107_0 (rd_L1 l0_0 x4_1).length c107_0)) (ds := [12]) timeboundref22_Copy.b0 (by kernel_rfl) rfl rfl ⟨(blk_cell BK103.out 0).trans rfl, (blk_cell BK101.out 0).trans rfl, ((HB.out.cell (World.block_lt_of_cell? w _ hw107_0)).trans hw107_0)⟩ (fun hHeld => ?_); refine with_tabW timeboundref22_Copy.tab5 timeboundref22_Copy.bits5 (fun HT_ HW_ => ?_)
        generalize wr.drew = w12 at HO_104000 BK101 BK102 BK103 HB HR107_0 hx107_0 hHeld ⊢
        refine pY 0 (some 12) timeboundref22_Copy.b1 ?_
        refine pY 3 (some 15) timeboundref22_Copy.b2 ?_
        refine pY 5 (some 17) timeboundref22_Copy.b3 ?_
        refine tY3 1 (some 13) timeboundref22_Copy.b4 hHeld ?_
        refine tY3 4 (some 16) timeboundref22_Copy.b5 hHeld ?_
        refine pY 6 (some 18) timeboundref22_Copy.b6 ?_
        refine tY3 7 (some 19) timeboundref22_Copy.b7 hHeld ?_
        refine one_ (i := 2) (N := some 14) timeboundref22_Copy.b8 rfl rfl (one_of HT_.out (by kernel_rfl)) (by decide) (fun K hK => ?_)
        refine Kd.R_lit_step (Kd.int .i64) _ 3 ?hg (N := 14) ?hd (xs := ([] : List Int)) (inner := []) (ok := fun _ => True) (okp := fun _ => True) ?hr ?hp (fun _ hk => hk) trivial (Below.refl _ _) (Nat.le_refl _) (by simp) ?_; (case hd => rfl); (case hg => rfl); (case hr => first | (go_simp; done) | (go_simp; rfl)); (case hp => exact (Reps.none _ _))
        intro v105 w13 ho14 hb hg_ hnew_
        clear hg_ hnew_
        (first | rw [← Ny104.out] at ho14 | (simp only [Int.reduceToNat] at ho14; rw [← Ny104.out] at ho14))
        have n0_ := Aside0.mk (Kd.S_elder' (sK HO_104000.out) (Kd.R_base ho14) hb)
        have n1_ := Aside0.mk (Kd.R_lower ho14 (below_size (hB3 HB.out GE101.out GE102.out GE103.out)))
        have n2_ := Aside0.mk (blk_below (g := gb101) (bK BK101.out) hb)
        have n3_ := Aside0.mk (blk_below (g := gb102) (bK BK102.out) hb)
        have n4_ := Aside0.mk (blk_below (g := gb103) (bK BK103.out) hb)
        have n5_ := Aside0.mk (below_step (hB3 HB.out GE101.out GE102.out GE103.out) hb)
        clear HO_104000
        clear BK101
        clear BK102
        clear BK103
        clear HB
        have HO_104000 := n0_
        have HO106 := n1_
        have BK101 := n2_
        have BK102 := n3_
        have BK103 := n4_
        have HB := n5_
        clear n0_ n1_ n2_ n3_ n4_ n5_
        clear hb ho14
        refine hK.out _ _ ⟨(blk_cell BK103.out 0).trans rfl, (blk_cell BK101.out 0).trans rfl, ((HB.out.cell (World.block_lt_of_cell? w _ hw107_0)).trans hw107_0)⟩ (fun hHeld => ?_)
        clear hK K
        refine norm_ (a' := ?_) ?_ ?_
        rotate_left
        ·show Act.put _ (some 14) _ = _
         simp only [Act.put, List.setIfInBounds_toArray, List.set_cons_zero, List.set_cons_succ, i64_w, i32_w]
         rfl
        refine one_ (i := 8) (N := some 20) timeboundref22_Copy.b9 rfl rfl (one_of HT_.out (by kernel_rfl)) (by decide) (fun K hK => ?_)
        refine Kd.R_append_rows_step (Kd.int .i64) (w0 := w) w.heap.size (by rfl) (.tmp 14) (.tmp 19) 22 3 (.int .i64 0) 8 rfl Try.underlying22 info3 rfl (by decide) (by omega) v105 y104 (rd_L1 l0_0 x4_1) _ _ _ (fun _ => True) (fun _ => False) rfl rfl ?aO ?aR (fun _ _ h => h) (fun _ h => h.elim) ?aF ?aB ?aS ?aL ?_
        (case aR => repeat (first | exact (Kd.C_below HR107_0.out HB.out) | (with_reducible refine Kd.C_alloc ?_ _) | (with_reducible refine Kd.C_drewN ?_ _) | (with_reducible refine Kd.C_drew ?_)))
        (case aB => exact (hB3 HB.out GE101.out GE102.out GE103.out))
        (case aF => exact (fun _ _ => trivial))
        (case aO => exact (rK HO106.out))
        (case aS => exact (below_size (hB3 HB.out GE101.out GE102.out GE103.out)))
        (case aL => have := LMc7.out; omega)
        intro v109 w15 ho hb hg hat
        rw [← Ny108.out] at ho
        have n0_ := Aside0.mk (Kd.S_after (ok := (fun _ => True)) (sK HO_104000.out) hg hat)
        have n1_ := Aside0.mk (blk_grown (g := gb101) (bK BK101.out) hg (Kd.R_ne HO106.out BK101.out (by decide)))
        have n2_ := Aside0.mk (blk_grown (g := gb102) (bK BK102.out) hg (Kd.R_ne HO106.out BK102.out (by decide)))
        have n3_ := Aside0.mk (blk_grown (g := gb103) (bK BK103.out) hg (Kd.R_ne HO106.out BK103.out (by decide)))
        have n4_ := Aside0.mk (hb)
        have n5_ := Aside0.mk (ho)
        clear HO_104000
        clear BK101
        clear BK102
        clear BK103
        clear HB
        clear HO106
        have HO_104000 := n0_
        have BK101 := n1_
        have BK102 := n2_
        have BK103 := n3_
        have HB := n4_
        have HO110 := n5_
        clear n0_ n1_ n2_ n3_ n4_ n5_
        clear ho hb hg hat
        obtain ⟨Ao17, co17, eo17⟩ := Kd.R_slice HO110.out
        (first | subst eo17 | (injection eo17 with f1_ f2_ f3_; have f4_ := f1_.symm; have f5_ := f3_.symm; clear f1_ f2_ f3_; subst f4_; subst f5_))
        refine hK.out _ _ ⟨(blk_cell BK103.out 0).trans rfl, (blk_cell BK101.out 0).trans rfl, ((HB.out.cell (World.block_lt_of_cell? w _ hw107_0)).trans hw107_0)⟩ (fun hHeld => ?_)
        clear hK K
        refine norm_ (a' := ?_) ?_ ?_
        rotate_left
        ·show Act.put _ (some 20) _ = _
         simp only [Act.put, List.setIfInBounds_toArray, List.set_cons_zero, List.set_cons_succ, i64_w, i32_w]
         rfl
        refine one_ (i := 9) (N := some 21) timeboundref22_Copy.b10 rfl rfl (one_of HT_.out (by kernel_rfl)) (by decide) (fun K hK => ?_)
        refine value_ (w1 := ?_) (v := ?_) (by rfl) rfl ?_ ?_
        rotate_left 2
        ·go_simp
         constructor
         ·rfl
         ·rfl
        refine hK.out _ _ ⟨(blk_cell (blk_alloc BK103.out _) 0).trans rfl, (blk_cell (blk_alloc BK101.out _) 0).trans rfl, (World.cell?_alloc_lt _ _ _ (World.block_lt_of_cell? _ _ (((HB.out.cell (World.block_lt_of_cell? w _ hw107_0)).trans hw107_0)))).trans (((HB.out.cell (World.block_lt_of_cell? w _ hw107_0)).trans hw107_0))⟩ (fun hHeld => ?_)
        clear hK K
        refine norm_ (a' := ?_) ?_ ?_
        rotate_left
        ·show Act.put _ (some 21) _ = _
         simp only [Act.put, List.setIfInBounds_toArray, List.set_cons_zero, List.set_cons_succ, i64_w, i32_w]
         rfl
        refine one_ (i := 10) (N := some 22) timeboundref22_Copy.b11 rfl rfl (one_of HT_.out (by kernel_rfl)) (by decide) (fun K hK => ?_)
        refine Kd.S_append_step (Kd.slice 3 (Kd.int .i64)) (w0 := w) w.heap.size (by rfl) (.tmp 13) (.tmp 21) 43 22 (.slice none 0 0) 24 rfl Try.underlying43 info22 rfl (by decide) (by omega) u104000 x104000_1 y108 [.slice Ao17 y108.length co17] (fun _ => True) (fun k_ => some k_ = (.slice Ao17 y108.length co17 : Value).ownBlock) rfl rfl ?aP (fun k_ hk_ => ((Kd.R_mono (ok' := fun k_ => ((fun _ => True)) k_ ∧ some k_ ≠ (u104000 : Value).ownBlock) (Kd.R_apart' (HO110.out) (Kd.S_typed HO_104000.out) (by decide)) (fun k_ hk => ⟨trivial, hk.2⟩))).1 k_ hk_.symm) ?aF ?aO ?aB ?aS ?aL ?_
        (case aP => exact Kd.M_row (Kd.R_mono (Kd.R_tight rfl (Kd.R_mono (ok' := fun k_ => ((fun _ => True)) k_ ∧ some k_ ≠ (u104000 : Value).ownBlock) (Kd.R_apart' (HO110.out) (Kd.S_typed HO_104000.out) (by decide)) (fun k_ hk => ⟨trivial, hk.2⟩))) (fun _ h_ => h_)))
        (case aB => exact (hB3 HB.out GE101.out GE102.out GE103.out))
        (case aF => exact (fun _ _ => trivial))
        (case aO => exact (by (with_reducible repeat (first | apply Kd.S_alloc | apply Kd.S_drewN | apply Kd.S_drew)); exact Kd.S_mono HO_104000.out (fun k_ hk => ⟨trivial, fun e_ => hk.2 e_⟩)))
        (case aS => exact (below_size (hB3 HB.out GE101.out GE102.out GE103.out)))
        (case aL => have := LMc8.out; omega)
        intro v112 w16 ho hb hg hat
        rw [← Ny111.out] at ho
        have n0_ := Aside0.mk (blk_grown (g := gb101) (bK BK101.out) hg (Kd.S_ne HO_104000.out BK101.out (by decide)))
        have n1_ := Aside0.mk (blk_grown (g := gb102) (bK BK102.out) hg (Kd.S_ne HO_104000.out BK102.out (by decide)))
        have n2_ := Aside0.mk (blk_grown (g := gb103) (bK BK103.out) hg (Kd.S_ne HO_104000.out BK103.out (by decide)))
        have n3_ := Aside0.mk (hb)
        have n4_ := Aside0.mk (ho)
        clear BK101
        clear BK102
        clear BK103
        clear HB
        clear HO_104000
        clear HO110
        have BK101 := n0_
        have BK102 := n1_
        have BK103 := n2_
        have HB := n3_
        have HO113 := n4_
        clear n0_ n1_ n2_ n3_ n4_
        clear ho hb hg hat
        obtain ⟨Ao18, co18, eo18⟩ := Kd.S_slice HO113.out
        (first | subst eo18 | (injection eo18 with f1_ f2_ f3_; have f4_ := f1_.symm; have f5_ := f3_.symm; clear f1_ f2_ f3_; subst f4_; subst f5_))
        refine hK.out _ _ ⟨(blk_cell BK103.out 0).trans rfl, (blk_cell BK101.out 0).trans rfl, ((HB.out.cell (World.block_lt_of_cell? w _ hw107_0)).trans hw107_0)⟩ (fun hHeld => ?_)
        clear hK K
        refine norm_ (a' := ?_) ?_ ?_
        rotate_left
        ·show Act.put _ (some 22) _ = _
         simp only [Act.put, List.setIfInBounds_toArray, List.set_cons_zero, List.set_cons_succ, i64_w, i32_w]
         rfl
        refine pY 11 (some 23) timeboundref22_Copy.b12 ?_
        refine last_ (i := 12) (N := none) timeboundref22_Copy.b13 rfl rfl (one_of HT_.out (by kernel_rfl)) (by decide) (fun K hK => ?_)
        have hs19 : w16.cell? ⟨gb103, 0, none⟩ = some (u104000) := (blk_cell BK103.out 0).trans rfl
        have hfs19 := blk_frozen BK103.out 0
        have hns19_0 := NB101_103.out
        have hns19_1 := NB102_103.out
        have hms19_0 := NB103_101.out
        have hms19_1 := NB103_102.out
        refine skip_ (w1 := ?_) (by rfl) rfl ?_ ?_
        rotate_left
        ·go_simp
         rfl
        refine hK.out _ _ ?_
        clear hK K
        refine done_ (done_of HT_.out (by kernel_rfl)) ?_
        try go_wp2
        go_roundg k1
        case measure => have := HK1.out; omega
        case rel => exact ⟨(wrap64 (x4_1 + 1)), (y111), (.slice Ao18 y111.length co18), rS, H', ⟨by have := HK1.out; omega⟩, ⟨by (with_reducible repeat (first | apply Kd.S_alloc | apply Kd.S_drewN | apply Kd.S_drew)); exact Kd.S_mono (Kd.S_far (p := ⟨gb103, 0, none⟩) (Kd.S_types HO113.out BK103.out (by decide)) (fun _ hk => hk.2) (.slice Ao18 y111.length co18)) (fun _ hk => trivial)⟩, ⟨bP1 BK101.out NB101_103.out⟩, ⟨bP1 BK102.out NB102_103.out⟩, ⟨bP0 BK103.out⟩, ⟨hB3 HB.out GE101.out GE102.out GE103.out⟩⟩
       ·rw [if_neg c8] at H
        exact absurd H (by simp)
      ·rw [if_neg c7] at H
       exact absurd H (by simp)
     ·rw [if_neg c6] at H
      exact absurd H (by simp)
    ·rw [if_neg c5] at H
     have c5b0 : decide (x4_1 < (l0_0.length : Int)) = false := decide_eq_false c5
     clear c5
     obtain rfl := Option.some.inj H
     have hnb20 := NB101_102.out
     have hnc20 := NB102_101.out
     have hnb21 := NB101_103.out
     have hnc21 := NB103_101.out
     obtain ⟨hcz22_0, hfz22_0⟩ := cz1 BK101.out
     have hnb23 := NB103_102.out
     have hnc23 := NB102_103.out
     obtain ⟨hcz24_0, hfz24_0⟩ := cz1 BK103.out
     obtain ⟨Ao25, co25, eo25⟩ := Kd.S_slice HO_104000.out
     subst eo25
     obtain ⟨hcz26_0, hfz26_0⟩ := cz1 BK102.out
     go_wp2
     refine bodyPost_ret (results_cell_row rfl _ _ gb102 54 #[.slice Ao25 x104000_1.length co25] (0, 0) _ rfl (bP0 BK102.out) Try.underlying54 rfl (by kernel_rfl)) rfl ?_
     exact ⟨_, by first | rfl | (simp [errW_none, errW_some] <;> rfl) | (simp [*, errW_none, errW_some] <;> rfl), by (with_reducible repeat (first | apply Kd.S_alloc | apply Kd.S_drewN | apply Kd.S_drew)); exact Kd.S_mono (Kd.S_far (p := ⟨gb102, 0, none⟩) (Kd.S_types HO_104000.out BK102.out (by decide)) (fun _ hk => hk.2) (.slice Ao25 x104000_1.length co25)) (fun _ hk => trivial), hB3 HB.out GE101.out GE102.out GE103.out⟩
end Go.Proofs.Ytkgocbmnjlfkoaa.X
end
