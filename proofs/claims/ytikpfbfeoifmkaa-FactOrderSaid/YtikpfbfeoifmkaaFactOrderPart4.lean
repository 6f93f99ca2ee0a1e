/- Part 4 of the walks and lemmas for the law that the last text proves. -/
import Derived.Test.YtikpfbfeoifmkaaFactOrderPart3
section
namespace Go.Proofs.Ytikpfbfeoifmkaa.X
open Go.RowKit Go.Proofs.YtikpfbfeoifmkaaW.PrintWords Go.Proofs.YtikpfbfeoifmkaaW.PrintLast Go.Proofs.YtikpfbfeoifmkaaW.PrintMore
attribute [local go_sem] max2_int min2_int max_two min_two max_three min_three max_four min_four
set_option linter.unusedVariables false
set_option linter.unusedSimpArgs false
def timeboundmake_Deck_Next.f (s0_0 : List Int) (s0_1 : Int) (a1 : Int) : Option (Int × Int) := if s0_1 ≥ (s0_0.length : Int) then (some (0, s0_1)) else (if a1 ≤ 1 then (some (0, s0_1)) else (if 0 ≤ (wrap64 ((wrap64 (s0_1 + 1)) - 1)) then (if (wrap64 ((wrap64 (s0_1 + 1)) - 1)) < (s0_0.length : Int) then ((timeboundmake_Mod.f (rd s0_0 (wrap64 ((wrap64 (s0_1 + 1)) - 1))) a1).bind fun t102 => (some (t102, wrap64 (s0_1 + 1)))) else (none)) else (none)))
set_option maxHeartbeats 8000000 in
set_option maxRecDepth 100000 in
theorem timeboundmake_Deck_Next.calls (g : Nat) (s0_0 : List Int) (s0_1 : Int) (a1 : Int) (r1 : Int) (r2 : Int) (w0 w : World) (hI : IsS56 w0 w g s0_0 s0_1) (hB : Below w0.heap.size w0 w) (h : timeboundmake_Deck_Next.f s0_0 s0_1 a1 = some (r1, r2)) :
   Calls Try.prog 11 #[.pointer (some ⟨g, 0, none⟩), .int .i64 a1] w fun e w' => e = .returned (.int .i64 r1) ∧ IsS56 w0 w' g s0_0 r2 ∧ Below w0.heap.size w0 w' ∧ KeepBut w w' g none := by
  have HI0 := Aside0.mk hI
  have HK := Aside0.mk (KeepBut.refl w g none)
  have HL := Aside0.mk hB.size
  clear hI
  have HW0 := Aside0.mk hB.size
  have HB := Aside0.mk hB
  clear hB
  have H : (if s0_1 ≥ (s0_0.length : Int) then (some (0, s0_1)) else (if a1 ≤ 1 then (some (0, s0_1)) else (if 0 ≤ (wrap64 ((wrap64 (s0_1 + 1)) - 1)) then (if (wrap64 ((wrap64 (s0_1 + 1)) - 1)) < (s0_0.length : Int) then ((timeboundmake_Mod.f (rd s0_0 (wrap64 ((wrap64 (s0_1 + 1)) - 1))) a1).bind fun t102 => (some (t102, wrap64 (s0_1 + 1)))) else (none)) else (none)))) = some (r1, r2) := h
  clear h
  by_cases c3 : s0_1 ≥ (s0_0.length : Int)
  ·rw [if_pos c3] at H
   have c3b0 : decide ((s0_0.length : Int) ≤ s0_1) = true := decide_eq_true c3
   clear c3
   simp only [Option.some.injEq, Prod.mk.injEq] at H
   obtain ⟨rfl, rfl⟩ := H
   obtain ⟨ASz4_0, cSz4_0, HGz4, hgz4, HSz4_0⟩ := HI0.out
   have hcz4_0 := cellS56_0 HGz4
   have hcz4_1 := cellS56_1 HGz4
   have hfz4_1 := blk_frozen HGz4 1
   clear HGz4 hgz4
   go_enter Try.func11, Try.ntmps11
   go_wp2
   repeat (go_quiet (fail); try go_wp2)
   go_ret
   exact ⟨eW, IsS56.k0 HI0.out, hB1 HB.out (IsS56.ge HI0.out), by repeat (first | (with_reducible first | exact HK.out | apply KeepBut.set_ | apply keep_drewN | apply keep_drew | apply keep_alloc) | exact HK.out)⟩
  ·rw [if_neg c3] at H
   have c3b0 : decide ((s0_0.length : Int) ≤ s0_1) = false := decide_eq_false c3
   clear c3
   by_cases c5 : a1 ≤ 1
   ·rw [if_pos c5] at H
    have c5b0 : decide (a1 ≤ 1) = true := decide_eq_true c5
    clear c5
    simp only [Option.some.injEq, Prod.mk.injEq] at H
    obtain ⟨rfl, rfl⟩ := H
    obtain ⟨ASz6_0, cSz6_0, HGz6, hgz6, HSz6_0⟩ := HI0.out
    have hcz6_0 := cellS56_0 HGz6
    have hcz6_1 := cellS56_1 HGz6
    have hfz6_1 := blk_frozen HGz6 1
    clear HGz6 hgz6
    go_enter Try.func11, Try.ntmps11
    go_wp2
    repeat (go_quiet (fail); try go_wp2)
    go_ret
    exact ⟨eW, IsS56.k0 HI0.out, hB1 HB.out (IsS56.ge HI0.out), by repeat (first | (with_reducible first | exact HK.out | apply KeepBut.set_ | apply keep_drewN | apply keep_drew | apply keep_alloc) | exact HK.out)⟩
   ·rw [if_neg c5] at H
    have c5b0 : decide (a1 ≤ 1) = false := decide_eq_false c5
    clear c5
    obtain ⟨ji7, hji7⟩ : ∃ j_ : Int, (wrap64 ((wrap64 (s0_1 + 1)) - 1)) = j_ := ⟨_, rfl⟩
    replace H : (if 0 ≤ (ji7) then (if (ji7) < (s0_0.length : Int) then ((timeboundmake_Mod.f (rd s0_0 (ji7)) a1).bind fun t102 => (some (t102, wrap64 (s0_1 + 1)))) else (none)) else (none)) = some (r1, r2) := by first | (rw [hji7] at H; exact H) | (simp only [hji7] at H ⊢; exact H)
    have hji7w : (IntKind.i64.wrap ((wrap64 (s0_1 + 1)) - 1)) = ji7 := (i64_w _).trans hji7
    by_cases c8 : 0 ≤ (ji7)
    ·rw [if_pos c8] at H
     have c8b0 : decide (0 ≤ (ji7)) = true := decide_eq_true c8
     clear c8
     by_cases c9 : (ji7) < (s0_0.length : Int)
     ·rw [if_pos c9] at H
      have c9b0 : decide ((ji7) < (s0_0.length : Int)) = true := decide_eq_true c9
      clear c9
      replace H := Option.bind_eq_some_iff.mp H
      obtain ⟨t102, A100, H⟩ := H
      replace H : (some (t102, wrap64 (s0_1 + 1))) = some (r1, r2) := H
      have A10 := Aside0.mk A100
      clear A100
      simp only [Option.some.injEq, Prod.mk.injEq] at H
      obtain ⟨rfl, rfl⟩ := H
      obtain ⟨ASz11_0, cSz11_0, HGz11, hgz11, HSz11_0⟩ := HI0.out
      have hcz11_0 := cellS56_0 HGz11
      have hcz11_1 := cellS56_1 HGz11
      have hfz11_1 := blk_frozen HGz11 1
      clear HGz11 hgz11
      have p101 : 0 ≤ ((ji7) : Int) := oD
      have q101 : (ji7) < (s0_0.length : Int) := oD
      obtain ⟨ad101, e101, hx101_0⟩ := Kd.at_int HSz11_0 (ji7) p101 q101
      cases e101
      have hn101_0 : ad101.block ≠ g := Nat.ne_of_lt (Nat.lt_of_lt_of_le (by have := World.block_lt_of_cell? _ _ hx101_0; first | rwa [add_block] at this | exact this) (IsS56.ge HI0.out))
      replace hx101_0 := pw_cell_below HB.out hx101_0
      replace hx101_0 := (cell_far (p := ⟨g, 1, none⟩) (by first | (rw [add_block]; exact hn101_0) | (show (Addr.add _ _).block ≠ _; rw [add_block]; exact hn101_0) | exact hn101_0) (.int .i64 (wrap64 (s0_1 + 1)))).trans hx101_0
      (try have hy101_0 := fun (n_ : Nat) => (show (((w.drewN n_).setCell ⟨g, 1, none⟩ (.int .i64 (wrap64 (s0_1 + 1))))).cell? _ = some _ from hx101_0))
      clear hn101_0
      replace p101 := eq_true p101
      replace q101 := eq_true q101
      go_enter Try.func11, Try.ntmps11
      go_wp2_with (first | (go_at_call 23; (with_reducible refine (timeboundmake_Mod.calls (rd s0_0 (ji7)) a1 t102 _ A10.out).mono ?_); rintro e w' ⟨rfl, ⟨nd, rfl⟩⟩; (try first | exact ⟨rfl, _, World.drewN_drewN _ _ _⟩ | exact ⟨rfl, _, Eq.trans (World.drewN_drewN _ _ _) (congrArg (World.drewN _) (Nat.add_assoc _ _ _))⟩)))
      repeat (go_quiet (first | (go_at_call 23; (with_reducible refine (timeboundmake_Mod.calls (rd s0_0 (ji7)) a1 t102 _ A10.out).mono ?_); rintro e w' ⟨rfl, ⟨nd, rfl⟩⟩; (try first | exact ⟨rfl, _, World.drewN_drewN _ _ _⟩ | exact ⟨rfl, _, Eq.trans (World.drewN_drewN _ _ _) (congrArg (World.drewN _) (Nat.add_assoc _ _ _))⟩))); try go_wp2_with (first | (go_at_call 23; (with_reducible refine (timeboundmake_Mod.calls (rd s0_0 (ji7)) a1 t102 _ A10.out).mono ?_); rintro e w' ⟨rfl, ⟨nd, rfl⟩⟩; (try first | exact ⟨rfl, _, World.drewN_drewN _ _ _⟩ | exact ⟨rfl, _, Eq.trans (World.drewN_drewN _ _ _) (congrArg (World.drewN _) (Nat.add_assoc _ _ _))⟩))))
      go_ret
      exact ⟨by first | rfl | (simp [errW_none, errW_some] <;> rfl) | (simp only [← hji7]; first | rfl | (simp [errW_none, errW_some] <;> rfl)) | (simp [*, errW_none, errW_some] <;> rfl), IsS56.k0 HI0.out, hB1 HB.out (IsS56.ge HI0.out), by repeat (first | (with_reducible first | exact HK.out | apply KeepBut.set_ | apply keep_drewN | apply keep_drew | apply keep_alloc) | exact HK.out)⟩
     ·rw [if_neg c9] at H
      exact absurd H (by simp)
    ·rw [if_neg c8] at H
     exact absurd H (by simp)
def timeboundmake_Few.f (l0 : List Int) : Option (Bool) := some (decide ((l0.length : Int) ≤ 400))
set_option maxHeartbeats 8000000 in
set_option maxRecDepth 100000 in
theorem timeboundmake_Few.calls (A0 : Option Addr) (c0 : Nat) (l0 : List Int) (r : Bool) (w : World) (hr0 : Kd.C (Kd.int .i64) w A0 l0.length l0) (hc0 : l0.length ≤ c0) (h : timeboundmake_Few.f l0 = some r) :
   Calls Try.prog 8 #[.slice A0 l0.length c0] w fun e w' => e = .returned (.bool r) ∧ Drawn0 w w' := by
  have HR0 := Aside0.mk hr0
  have HC0 := Aside0.mk hc0
  clear hr0 hc0
  have H : (some (decide ((l0.length : Int) ≤ 400))) = some r := h
  clear h
  obtain rfl := Option.some.inj H
  go_enter Try.func8, Try.ntmps8
  go_wp2
  go_ret
  exact ⟨by first | rfl | (simp; done) | (simp [*]; done), by repeat (first | exact Drawn0.refl _ | apply Drawn0.step)⟩
mutual
def timeboundlaw11_FactOrder.l0 : Nat → Int → Int → List (S44) → Int → List Int → Int → Option (Bool)
  | 0, _, _, _, _, _, _ => none
  | k + 1, x1, x2, x8, x10, x106000, x106001 => if x10 > 0 then ((timeboundmake_Deck_Next.f x106000 x106001 12).bind fun bt108 => ((timeboundmake_Deck_Next.f x106000 bt108.2 21).bind fun bt110 => (if x8.length < 8796093022208 then (timeboundlaw11_FactOrder.l0 k x1 x2 (x8 ++ [(⟨bt108.1, wrap64 (bt110.1 - 10)⟩ : S44)]) (wrap64 (x10 - 1)) x106000 bt110.2) else (none)))) else (timeboundlaw11_FactOrder.l1 k x1 x2 x8 ([] : List (S44)) 0)
def timeboundlaw11_FactOrder.l1 : Nat → Int → Int → List (S44) → List (S44) → Int → Option (Bool)
  | 0, _, _, _, _, _ => none
  | k + 1, x1, x2, x8, x9, x11 => if x11 < (x8.length : Int) then (if (x8.length : Int) = 0 then (none) else (if 0 ≤ (Int.tmod (wrap64 (x11 + (wrap64 (x1)))) (x8.length : Int)) then (if (Int.tmod (wrap64 (x11 + (wrap64 (x1)))) (x8.length : Int)) < (x8.length : Int) then (if x9.length < 8796093022208 then (timeboundlaw11_FactOrder.l1 k x1 x2 x8 (x9 ++ [(⟨(rd_T44 x8 (Int.tmod (wrap64 (x11 + (wrap64 (x1)))) (x8.length : Int))).f0, (rd_T44 x8 (Int.tmod (wrap64 (x11 + (wrap64 (x1)))) (x8.length : Int))).f1⟩ : S44)]) (wrap64 (x11 + 1))) else (none)) else (none)) else (none))) else (timeboundlaw11_FactOrder.l2 k x2 x8 x9 ([] : List (S44)) 0)
def timeboundlaw11_FactOrder.l2 : Nat → Int → List (S44) → List (S44) → List (S44) → Int → Option (Bool)
  | 0, _, _, _, _, _ => none
  | k + 1, x2, x8, x9, x12, x13 => if x13 < (x8.length : Int) then (if 0 ≤ x13 then ((some (([(⟨(rd_T44 x8 x13).f0, (rd_T44 x8 x13).f1⟩ : S44), (⟨(rd_T44 x8 x13).f0, wrap64 (-((rd_T44 x8 x13).f1))⟩ : S44)] : List (S44)) : List (S44))).bind fun y122 => (if x12.length + y122.length < 8796093022208 then (timeboundlaw11_FactOrder.l2 k x2 x8 x9 (x12 ++ y122) (wrap64 (x13 + 1))) else (none))) else (none)) else ((fact_Of.f k x8 (wrap64 (x2))).bind fun bt128 => ((fact_Of.f k x9 (wrap64 (x2))).bind fun bt134 => ((fact_Of.f k bt128.1 bt128.2.1).bind fun bt140 => ((fact_Of.f k x12 (wrap64 (x2))).bind fun bt146 => (if bt128.2.2 = 0 then (if bt134.2.2 = 0 then (if bt140.2.2 = 0 then (if bt146.2.2 = 0 then ((fact_Check.f k bt128.1 bt128.2.1).bind fun t152 => (if t152 = 0 then ((timeboundref11_Same.f k bt128.1 bt128.2.1 bt134.1 bt134.2.1).bind fun t153 => (if t153 = true then ((timeboundref11_Same.f k bt128.1 bt128.2.1 bt140.1 bt140.2.1).bind fun t154 => (if t154 = true then (if (bt146.1.length : Int) = 0 then (if bt146.2.1 = (wrap64 (x2)) then ((timeboundlaw11_awake.f k).bind fun t155 => (timeboundlaw11_FactOrder.j3 k t155)) else (timeboundlaw11_FactOrder.j3 k false)) else (timeboundlaw11_FactOrder.j3 k false)) else (timeboundlaw11_FactOrder.j3 k false))) else (timeboundlaw11_FactOrder.j3 k false))) else (timeboundlaw11_FactOrder.j3 k false))) else (timeboundlaw11_FactOrder.j3 k false)) else (timeboundlaw11_FactOrder.j3 k false)) else (timeboundlaw11_FactOrder.j3 k false)) else (timeboundlaw11_FactOrder.j3 k false))))))
def timeboundlaw11_FactOrder.j3 : Nat → Bool → Option (Bool)
  | 0, _ => none
  | k + 1, x6 => some x6
end
def timeboundlaw11_FactOrder.f (k : Nat) (l0 : List Int) (a1 : Int) (a2 : Int) : Option (Bool) := (timeboundmake_Few.f l0).bind fun t101 => (if t101 = true then ((timeboundmake_New.f l0).bind fun bt103 => ((timeboundmake_Deck_Next.f bt103.1 bt103.2 30).bind fun bt106 => (timeboundlaw11_FactOrder.l0 k a1 a2 ([] : List (S44)) bt106.1 bt103.1 bt106.2))) else ((timeboundlaw11_awake.f k).bind fun t102 => (some t102)))
def timeboundlaw11_FactOrder.T17 : Bool × List (List Nat × List Nat) := (true, [([], []), ([], []), ([], []), ([1, 2], [1, 2]), ([3], [3]), ([], []), ([], []), ([5, 6], [5, 6]), ([7], [7]), ([8], [8]), ([], []), ([], []), ([10, 11], [10, 11]), ([12], [12]), ([13], [13]), ([14], [14]), ([9, 15], [9, 15]), ([4, 16], [4, 16]), ([0, 17], [0, 17]), ([18, 18, 0, 1, 2, 3, 4, 5, 6, 7, 8, 9, 10, 11, 12, 13, 14, 15, 16, 17, 18], [0, 18])])
def timeboundlaw11_FactOrder.B17 : List Nat := [0, 0, 0, 6, 14, 0, 0, 96, 224, 480, 0, 0, 3072, 7168, 15360, 31744, 65504, 131070, 262143, 524287]
theorem timeboundlaw11_FactOrder.tab17 : rtab .any (opsOf Try.f4 17) = timeboundlaw11_FactOrder.T17 := by kernel_rfl
theorem timeboundlaw11_FactOrder.bits17 : waitsOk timeboundlaw11_FactOrder.T17.2 timeboundlaw11_FactOrder.B17 = true := by kernel_rfl
abbrev timeboundlaw11_FactOrder.b0 : Array Bool := X.bv160
abbrev timeboundlaw11_FactOrder.b1 : Array Bool := X.bv161
abbrev timeboundlaw11_FactOrder.b2 : Array Bool := X.bv162
abbrev timeboundlaw11_FactOrder.b3 : Array Bool := X.bv163
abbrev timeboundlaw11_FactOrder.b4 : Array Bool := X.bv164
abbrev timeboundlaw11_FactOrder.b5 : Array Bool := X.bv165
abbrev timeboundlaw11_FactOrder.b6 : Array Bool := X.bv166
abbrev timeboundlaw11_FactOrder.b7 : Array Bool := X.bv167
abbrev timeboundlaw11_FactOrder.b8 : Array Bool := X.bv168
abbrev timeboundlaw11_FactOrder.b9 : Array Bool := X.bv169
abbrev timeboundlaw11_FactOrder.b10 : Array Bool := X.bv170
abbrev timeboundlaw11_FactOrder.b11 : Array Bool := X.bv171
abbrev timeboundlaw11_FactOrder.b12 : Array Bool := X.bv172
abbrev timeboundlaw11_FactOrder.b13 : Array Bool := X.bv173
abbrev timeboundlaw11_FactOrder.b14 : Array Bool := X.bv174
abbrev timeboundlaw11_FactOrder.b15 : Array Bool := X.bv175
abbrev timeboundlaw11_FactOrder.b16 : Array Bool := X.bv176
abbrev timeboundlaw11_FactOrder.b17 : Array Bool := X.bv177
abbrev timeboundlaw11_FactOrder.b18 : Array Bool := X.bv178
abbrev timeboundlaw11_FactOrder.b19 : Array Bool := X.bv179
abbrev timeboundlaw11_FactOrder.b20 : Array Bool := X.bv180
set_option maxHeartbeats 8000000 in
set_option maxRecDepth 100000 in
theorem timeboundlaw11_FactOrder.calls (k : Nat) (A0 : Option Addr) (c0 : Nat) (l0 : List Int) (a1 : Int) (a2 : Int) (r : Bool) (w : World) (hr0 : Kd.C (Kd.int .i64) w A0 l0.length l0) (hc0 : l0.length ≤ c0) (h : timeboundlaw11_FactOrder.f k l0 a1 a2 = some r) :
   Calls Try.prog 4 #[.slice A0 l0.length c0, .int .u8 a1, .int .i16 a2] w fun e w' => e = .returned (.bool r) ∧ Below w.heap.size w w' := by
  have hu44 := Try.underlying44
  have hu30 := Try.underlying30
  have HR0 := Aside0.mk hr0
  have HC0 := Aside0.mk hc0
  clear hr0 hc0
  have HB := Aside0.mk (Below.refl w.heap.size w)
  have H : ((timeboundmake_Few.f l0).bind fun t101 => (if t101 = true then ((timeboundmake_New.f l0).bind fun bt103 => ((timeboundmake_Deck_Next.f bt103.1 bt103.2 30).bind fun bt106 => (timeboundlaw11_FactOrder.l0 k a1 a2 ([] : List (S44)) bt106.1 bt103.1 bt106.2))) else ((timeboundlaw11_awake.f k).bind fun t102 => (some t102)))) = some r := h
  clear h
  replace H := Option.bind_eq_some_iff.mp H
  obtain ⟨t101, A40, H⟩ := H
  replace H : (if t101 = true then ((timeboundmake_New.f l0).bind fun bt103 => ((timeboundmake_Deck_Next.f bt103.1 bt103.2 30).bind fun bt106 => (timeboundlaw11_FactOrder.l0 k a1 a2 ([] : List (S44)) bt106.1 bt103.1 bt106.2))) else ((timeboundlaw11_awake.f k).bind fun t102 => (some t102))) = some r := H
  have A4 := Aside0.mk A40
  clear A40
  by_cases c5 : t101 = true
  ·subst c5
   have H1 : ((timeboundmake_New.f l0).bind fun bt103 => ((timeboundmake_Deck_Next.f bt103.1 bt103.2 30).bind fun bt106 => (timeboundlaw11_FactOrder.l0 k a1 a2 ([] : List (S44)) bt106.1 bt103.1 bt106.2))) = some r := by rw [if_pos rfl] at H; exact H
   clear H
   have H := H1
   clear H1
   replace H := Option.bind_eq_some_iff.mp H
   obtain ⟨⟨t103, t104⟩, A60, H⟩ := H
   replace H : ((timeboundmake_Deck_Next.f t103 t104 30).bind fun bt106 => (timeboundlaw11_FactOrder.l0 k a1 a2 ([] : List (S44)) bt106.1 t103 bt106.2)) = some r := H
   have A6 := Aside0.mk A60
   clear A60
   replace H := Option.bind_eq_some_iff.mp H
   obtain ⟨⟨t106, t107⟩, A70, H⟩ := H
   replace H : (timeboundlaw11_FactOrder.l0 k a1 a2 ([] : List (S44)) t106 t103 t107) = some r := H
   have A7 := Aside0.mk A70
   clear A70
   have H' := Aside0.mk H
   clear H
   go_enter Try.func4, Try.ntmps4
   go_wp2_with (first | ((with_reducible refine gate_callee (f := 8) rfl ?_); refine goesL_ (some 23) rfl rfl Try.func8 (by kernel_rfl) rfl #[.slice A0 l0.length c0] rfl aM ?_; (with_reducible refine (timeboundmake_Few.calls _ _ l0 true _ ?side1 ?side2 A4.out).mono ?_); (case side1 => exact cK HR0.out); (case side2 => exact HC0.out); rintro e w' ⟨rfl, ⟨nd, rfl⟩⟩; refine ⟨_, rfl, ?_⟩) | ((with_reducible refine gate_callee (f := 10) rfl ?_); refine goesL_ (some 27) rfl rfl Try.func10 (by kernel_rfl) rfl #[.slice A0 l0.length c0] rfl aM ?_; (with_reducible refine (timeboundmake_New.calls _ _ l0 t103 t104 w _ ?side1 ?side2 ?side3 A6.out).mono ?_); (case side1 => repeat (first | (with_reducible first | exact HB.out | apply below_alloc | apply pw_below_drewN | apply below_drew1) | exact HB.out)); (case side2 => exact HR0.out); (case side3 => exact HC0.out); rintro e w8 ⟨g105, rfl, hi, hb, hb2⟩; refine ⟨_, rfl, ?_⟩; have n0_ := Aside0.mk (hb); have n1_ := Aside0.mk (hi); clear HB; have HB := n0_; have HI105 := n1_; clear n0_ n1_; (try clear hb); (try clear hb2); (try clear hi)) | ((with_reducible refine gate_callee (f := 11) rfl ?_); refine goesL_ (some 29) rfl rfl Try.func11 (by kernel_rfl) rfl #[.pointer (some ⟨g105, 0, none⟩), .int .i64 30] rfl aM ?_; (with_reducible refine (timeboundmake_Deck_Next.calls g105 t103 t104 30 t106 t107 w _ ?side1 ?side2 A7.out).mono ?_); (case side1 => repeat (first | (with_reducible first | exact HI105.out | apply IsS56.alloc | apply IsS56.drewN | apply IsS56.drew | apply IsS56.set_1) | exact HI105.out)); (case side2 => repeat (first | (with_reducible first | exact HB.out | apply below_alloc | apply pw_below_drewN | apply below_drew1 | refine below_set ?_ (IsS56.ge HI105.out)) | exact HB.out)); rintro e w9 ⟨rfl, hi, hb, hk⟩; refine ⟨_, rfl, ?_⟩; have n0_ := Aside0.mk (hb); have n1_ := Aside0.mk (hi); clear HB HI105; have HB := n0_; have HI105 := n1_; clear n0_ n1_; (try clear hb); (try clear hk); (try clear hi)))
   (try simp only [Act.put, List.setIfInBounds_toArray, List.set_cons_zero, List.set_cons_succ])
   go_loopg [8, 10] k (fun kq v8 v10 w' => ∃ (x8_1 : List (S44)) (x10_1 : Int) (x106001_1 : Int), v10 = .int .i64 x10_1 ∧ Aside0 (timeboundlaw11_FactOrder.l0 kq a1 a2 x8_1 x10_1 t103 x106001_1 = some r) ∧ Aside0 (kq ≤ k) ∧ Aside0 (Kd.R k44 44 w' w.heap.size (fun _ => True) v8 x8_1) ∧ Aside0 (IsS56 w w' g105 t103 x106001_1) ∧ Aside0 (Below w.heap.size w w'))
   case atStart => exact ⟨(([] : List (S44))), (t106), (t107), rS, H', ⟨Nat.le_refl _⟩, ⟨by first | exact Kd.R_nil _ _ _ _ _ | exact Kd.N_nil _ _ _ _ _ | exact Kd.V_nil _ _ _ _ _ | exact Kd.Q_nil _ _ _ _ _ | exact Kd.S_nil _ _ _ _ _⟩, ⟨IsS56.k0 HI105.out⟩, ⟨hB1 HB.out (IsS56.ge HI105.out)⟩⟩
   case round =>
    clear H'
    try clear c5
    obtain ⟨x8_1, x10_1, x106001_1, rfl, HA, HK1, HO_8, HI105, HB⟩ := hrel
    cases gk with
    | zero => exact absurd HA.out (by simp [timeboundlaw11_FactOrder.l0])
    | succ k1 =>
     have H := HA.out
     clear HA
     simp only [timeboundlaw11_FactOrder.l0] at H
     by_cases c10 : x10_1 > 0
     ·rw [if_pos c10] at H
      have c10b0 : decide (0 < x10_1) = true := decide_eq_true c10
      clear c10
      replace H := Option.bind_eq_some_iff.mp H
      obtain ⟨⟨t108, t109⟩, A110, H⟩ := H
      replace H : ((timeboundmake_Deck_Next.f t103 t109 21).bind fun bt110 => (if x8_1.length < 8796093022208 then (timeboundlaw11_FactOrder.l0 k1 a1 a2 (x8_1 ++ [(⟨t108, wrap64 (bt110.1 - 10)⟩ : S44)]) (wrap64 (x10_1 - 1)) t103 bt110.2) else (none))) = some r := H
      have A11 := Aside0.mk A110
      clear A110
      replace H := Option.bind_eq_some_iff.mp H
      obtain ⟨⟨t110, t111⟩, A120, H⟩ := H
      replace H : (if x8_1.length < 8796093022208 then (timeboundlaw11_FactOrder.l0 k1 a1 a2 (x8_1 ++ [(⟨t108, wrap64 (t110 - 10)⟩ : S44)]) (wrap64 (x10_1 - 1)) t103 t111) else (none)) = some r := H
      have A12 := Aside0.mk A120
      clear A120
      by_cases c13 : x8_1.length < 8796093022208
      ·rw [if_pos c13] at H
       have LMc13 := Aside0.mk c13
       clear c13
       obtain ⟨y112, hy112⟩ : ∃ y_ : List (S44), y_ = (x8_1 ++ [(⟨t108, wrap64 (t110 - 10)⟩ : S44)]) := ⟨_, rfl⟩
       replace H : (timeboundlaw11_FactOrder.l0 k1 a1 a2 y112 (wrap64 (x10_1 - 1)) t103 t111) = some r := by first | (rw [hy112]; with_reducible exact H) | (have H2_ := (Option.bind_some _ _).symm.trans H; rw [hy112]; with_reducible exact H2_) | (have H2_ := (Option.bind_some _ _).symm.trans H; with_reducible exact H2_) | with_reducible exact H | (rw [hy112]; exact H) | exact H
       have Ny112 := Aside0.mk hy112
       clear hy112
       have H' := Aside0.mk H
       clear H
       go_wp2_with (first | ((with_reducible refine gate_callee (f := 11) rfl ?_); refine goesL_ (some 36) rfl rfl Try.func11 (by kernel_rfl) rfl #[.pointer (some ⟨g105, 0, none⟩), .int .i64 12] rfl aM ?_; (with_reducible refine (timeboundmake_Deck_Next.calls g105 t103 x106001_1 12 t108 t109 w _ ?side1 ?side2 A11.out).mono ?_); (case side1 => repeat (first | (with_reducible first | exact HI105.out | apply IsS56.alloc | apply IsS56.drewN | apply IsS56.drew | apply IsS56.set_1) | exact HI105.out)); (case side2 => repeat (first | (with_reducible first | exact HB.out | apply below_alloc | apply pw_below_drewN | apply below_drew1 | refine below_set ?_ (IsS56.ge HI105.out)) | exact HB.out)); rintro e w14 ⟨rfl, hi, hb, hk⟩; refine ⟨_, rfl, ?_⟩; have n0_ := Aside0.mk (Kd.R_mono (Kd.R_keep (IsS56.apart (show IsS56 w _ g105 t103 x106001_1 from IsS56.k0 HI105.out) (rK HO_8.out) (by decide)) hk (fun _ h => h.2)) (fun _ h => h.1)); have n1_ := Aside0.mk (hb); have n2_ := Aside0.mk (hi); clear HO_8 HB HI105; have HO_8 := n0_; have HB := n1_; have HI105 := n2_; clear n0_ n1_ n2_; (try clear hb); (try clear hk); (try clear hi)) | ((with_reducible refine gate_callee (f := 11) rfl ?_); refine goesL_ (some 38) rfl rfl Try.func11 (by kernel_rfl) rfl #[.pointer (some ⟨g105, 0, none⟩), .int .i64 21] rfl aM ?_; (with_reducible refine (timeboundmake_Deck_Next.calls g105 t103 t109 21 t110 t111 w _ ?side1 ?side2 A12.out).mono ?_); (case side1 => repeat (first | (with_reducible first | exact HI105.out | apply IsS56.alloc | apply IsS56.drewN | apply IsS56.drew | apply IsS56.set_1) | exact HI105.out)); (case side2 => repeat (first | (with_reducible first | exact HB.out | apply below_alloc | apply pw_below_drewN | apply below_drew1 | refine below_set ?_ (IsS56.ge HI105.out)) | exact HB.out)); rintro e w15 ⟨rfl, hi, hb, hk⟩; refine ⟨_, rfl, ?_⟩; have n0_ := Aside0.mk (Kd.R_mono (Kd.R_keep (IsS56.apart (show IsS56 w _ g105 t103 t109 from IsS56.k0 HI105.out) (rK HO_8.out) (by decide)) hk (fun _ h => h.2)) (fun _ h => h.1)); have n1_ := Aside0.mk (hb); have n2_ := Aside0.mk (hi); clear HO_8 HB HI105; have HO_8 := n0_; have HB := n1_; have HI105 := n2_; clear n0_ n1_ n2_; (try clear hb); (try clear hk); (try clear hi)) | ((with_reducible refine gate_builtin (b := .append) (xs := #[.tmp 34, .tmp 41]) rfl ?_); (try (refine gate_guard (by rfl) ?_; dsimp only)); at_builtin; refine Kd.R_append k44 (w0 := w) w.heap.size rfl (.tmp 34) (.tmp 41) 28 44 (.agg #[(.int .i64 0), (.int .i64 0)]) 16 rfl Try.underlying28 info44 rfl (by decide) (by omega) u8 x8_1 (⟨t108, wrap64 (t110 - 10)⟩ : S44) [.int .i64 t108, .int .i64 (wrap64 (t110 - 10))] (fun _ => True) (fun _ => False) rfl rfl ?aP (fun _ hk => hk.elim) ?aF ?aO ?aB ?aS ?aL ?_; (case aP => exact k44_mkM _ _ _ (⟨t108, wrap64 (t110 - 10)⟩ : S44)); (case aB => exact (hB1 HB.out (IsS56.ge HI105.out))); (case aF => exact (fun _ _ => trivial)); (case aO => exact (rK HO_8.out)); (case aS => exact (below_size (hB1 HB.out (IsS56.ge HI105.out)))); (case aL => have := LMc13.out; omega); intro v113 w16 ho hb hg hat; rw [← Ny112.out] at ho; have n0_ := Aside0.mk (IsS56.grown (IsS56.k0 HI105.out) hg (IsS56.own_ne HI105.out HO_8.out (by decide))); have n1_ := Aside0.mk (hb); have n2_ := Aside0.mk (ho); clear HI105 HB HO_8; have HI105 := n0_; have HB := n1_; have HO114 := n2_; clear n0_ n1_ n2_; clear ho hb hg hat))
       go_roundg k1
       case measure => have := HK1.out; omega
       case rel => exact ⟨(y112), (wrap64 (x10_1 - 1)), (t111), rS, H', ⟨by have := HK1.out; omega⟩, ⟨rK HO114.out⟩, ⟨IsS56.k0 HI105.out⟩, ⟨hB1 HB.out (IsS56.ge HI105.out)⟩⟩
      ·rw [if_neg c13] at H
       exact absurd H (by simp)
     ·rw [if_neg c10] at H
      have c10b0 : decide (0 < x10_1) = false := decide_eq_false c10
      clear c10
      have H' := Aside0.mk H
      clear H
      go_wp2
      go_loopg [9, 11] k1 (fun kq v9 v11 w' => ∃ (x9_2 : List (S44)) (x11_2 : Int), v11 = .int .i64 x11_2 ∧ Aside0 (timeboundlaw11_FactOrder.l1 kq a1 a2 x8_1 x9_2 x11_2 = some r) ∧ Aside0 (kq ≤ k1) ∧ Aside0 (Kd.R k44 44 w' w.heap.size (fun k_ => some k_ ≠ (v9 : Value).ownBlock) u8 x8_1) ∧ Aside0 (Kd.R k44 44 w' w.heap.size (fun k_ => some k_ ≠ (u8 : Value).ownBlock) v9 x9_2) ∧ Aside0 (Below w.heap.size w w'))
      case atStart => exact ⟨(([] : List (S44))), (0), rS, H', ⟨Nat.le_refl _⟩, ⟨by (with_reducible repeat (first | apply Kd.R_alloc | apply Kd.R_drewN | apply Kd.R_drew)); exact Kd.R_mono HO_8.out (fun _ hk => (by simp [Value.ownBlock]))⟩, ⟨by first | exact Kd.R_nil _ _ _ _ _ | exact Kd.N_nil _ _ _ _ _ | exact Kd.V_nil _ _ _ _ _ | exact Kd.Q_nil _ _ _ _ _ | exact Kd.S_nil _ _ _ _ _⟩, ⟨hB1 HB.out (IsS56.ge HI105.out)⟩⟩
      case round =>
       clear H'
       try clear c10b0
       obtain ⟨x9_2, x11_2, rfl, HA, HK2, HO_8, HO_9, HB⟩ := hrel
       cases gk with
       | zero => exact absurd HA.out (by simp [timeboundlaw11_FactOrder.l1])
       | succ k2 =>
        have H := HA.out
        clear HA
        simp only [timeboundlaw11_FactOrder.l1] at H
        by_cases c17 : x11_2 < (x8_1.length : Int)
        ·rw [if_pos c17] at H
         have c17b0 : decide (x11_2 < (x8_1.length : Int)) = true := decide_eq_true c17
         clear c17
         by_cases c18 : (x8_1.length : Int) = 0
         ·rw [if_pos c18] at H
          exact absurd H (by simp)
         ·rw [if_neg c18] at H
          have c18b0 : ((x8_1.length : Int) == 0) = false := beq_eq_false_iff_ne.mpr c18
          have c18b1 : ((x8_1.length : Int) != 0) = true := bne_iff_ne.mpr c18
          have c18b2 : ¬ (x8_1 = []) := fun h_ => c18 (by rw [h_]; rfl)
          obtain ⟨ji19, hji19⟩ : ∃ j_ : Int, (Int.tmod (wrap64 (x11_2 + (wrap64 (a1)))) (x8_1.length : Int)) = j_ := ⟨_, rfl⟩
          replace H : (if 0 ≤ (ji19) then (if (ji19) < (x8_1.length : Int) then (if x9_2.length < 8796093022208 then (timeboundlaw11_FactOrder.l1 k2 a1 a2 x8_1 (x9_2 ++ [(⟨(rd_T44 x8_1 (ji19)).f0, (rd_T44 x8_1 (ji19)).f1⟩ : S44)]) (wrap64 (x11_2 + 1))) else (none)) else (none)) else (none)) = some r := by first | (rw [hji19] at H; exact H) | (simp only [hji19] at H ⊢; exact H)
          by_cases c20 : 0 ≤ (ji19)
          ·rw [if_pos c20] at H
           have c20b0 : decide (0 ≤ (ji19)) = true := decide_eq_true c20
           clear c20
           by_cases c21 : (ji19) < (x8_1.length : Int)
           ·rw [if_pos c21] at H
            have c21b0 : decide ((ji19) < (x8_1.length : Int)) = true := decide_eq_true c21
            clear c21
            by_cases c22 : x9_2.length < 8796093022208
            ·rw [if_pos c22] at H
             have LMc22 := Aside0.mk c22
             clear c22
             obtain ⟨y116, hy116⟩ : ∃ y_ : List (S44), y_ = (x9_2 ++ [(⟨(rd_T44 x8_1 (ji19)).f0, (rd_T44 x8_1 (ji19)).f1⟩ : S44)]) := ⟨_, rfl⟩
             replace H : (timeboundlaw11_FactOrder.l1 k2 a1 a2 x8_1 y116 (wrap64 (x11_2 + 1))) = some r := by first | (rw [hy116]; with_reducible exact H) | (have H2_ := (Option.bind_some _ _).symm.trans H; rw [hy116]; with_reducible exact H2_) | (have H2_ := (Option.bind_some _ _).symm.trans H; with_reducible exact H2_) | with_reducible exact H | (rw [hy116]; exact H) | exact H
             have Ny116 := Aside0.mk hy116
             clear hy116
             have H' := Aside0.mk H
             clear H
             obtain ⟨Ao23, co23, eo23⟩ := Kd.R_slice HO_8.out
             subst eo23
             have p115 : 0 ≤ ((ji19) : Int) := oD
             have q115 : (ji19) < (x8_1.length : Int) := oD
             obtain ⟨ad115, e115, hx115_0, hx115_1⟩ := at_T44 (Kd.R_reads' HO_8.out).2.2 (ji19) p115 q115
             cases e115
             replace p115 := eq_true p115
             replace q115 := eq_true q115
             go_wp2_with (first | ((with_reducible refine gate_builtin (b := .append) (xs := #[.tmp 49, .tmp 60]) rfl ?_); (try (refine gate_guard (by rfl) ?_; dsimp only)); at_builtin; refine Kd.R_append k44 (w0 := w) w.heap.size rfl (.tmp 49) (.tmp 60) 28 44 (.agg #[(.int .i64 0), (.int .i64 0)]) 16 rfl Try.underlying28 info44 rfl (by decide) (by omega) u9 x9_2 (⟨(rd_T44 x8_1 (ji19)).f0, (rd_T44 x8_1 (ji19)).f1⟩ : S44) [.int .i64 ((rd_T44 x8_1 (ji19)).f0), .int .i64 ((rd_T44 x8_1 (ji19)).f1)] (fun k_ => some k_ ≠ (.slice (some ad115) x8_1.length co23 : Value).ownBlock) (fun _ => False) rfl rfl ?aP (fun _ hk => hk.elim) ?aF ?aO ?aB ?aS ?aL ?_; (case aP => exact k44_mkM _ _ _ (⟨(rd_T44 x8_1 (ji19)).f0, (rd_T44 x8_1 (ji19)).f1⟩ : S44)); (case aB => exact (hB0 HB.out)); (case aF => exact (fun k_ hk => Kd.fresh' (Kd.R_lt (rK HO_8.out)) k_ hk)); (case aO => exact (rK HO_9.out)); (case aS => exact (below_size (hB0 HB.out))); (case aL => have := LMc22.out; omega); intro v117 w24 ho hb hg hat; rw [← Ny116.out] at ho; have n0_ := Aside0.mk (Kd.R_after (ok := (fun _ => True)) (by (with_reducible repeat (first | apply Kd.R_alloc | apply Kd.R_drewN | apply Kd.R_drew)); exact Kd.R_mono HO_8.out (fun _ hk => ⟨trivial, hk⟩)) hg hat); have n1_ := Aside0.mk (hb); have n2_ := Aside0.mk (ho); clear HO_8 HB HO_9; have HO_8 := n0_; have HB := n1_; have HO118 := n2_; clear n0_ n1_ n2_; clear ho hb hg hat))
             go_roundg k2
             case measure => have := HK1.out; have := HK2.out; omega
             case rel => exact ⟨(y116), (wrap64 (x11_2 + 1)), rS, H', ⟨by have := HK1.out; have := HK2.out; omega⟩, ⟨by (with_reducible repeat (first | apply Kd.R_alloc | apply Kd.R_drewN | apply Kd.R_drew)); exact Kd.R_mono HO_8.out (fun _ hk => hk.2)⟩, ⟨rK HO118.out⟩, ⟨hB0 HB.out⟩⟩
            ·rw [if_neg c22] at H
             exact absurd H (by simp)
           ·rw [if_neg c21] at H
            exact absurd H (by simp)
          ·rw [if_neg c20] at H
           exact absurd H (by simp)
        ·rw [if_neg c17] at H
         have c17b0 : decide (x11_2 < (x8_1.length : Int)) = false := decide_eq_false c17
         clear c17
         have H' := Aside0.mk H
         clear H
         obtain ⟨Ao25, co25, eo25⟩ := Kd.R_slice HO_8.out
         subst eo25
         go_wp2
         go_loopg [12, 13] k2 (fun kq v12 v13 w' => ∃ (x12_3 : List (S44)) (x13_3 : Int), v13 = .int .i64 x13_3 ∧ Aside0 (timeboundlaw11_FactOrder.l2 kq a2 x8_1 x9_2 x12_3 x13_3 = some r) ∧ Aside0 (kq ≤ k2) ∧ Aside0 (Kd.R k44 44 w' w.heap.size (fun k_ => some k_ ≠ (u9 : Value).ownBlock ∧ some k_ ≠ (v12 : Value).ownBlock) (.slice Ao25 x8_1.length co25) x8_1) ∧ Aside0 (Kd.R k44 44 w' w.heap.size (fun k_ => some k_ ≠ ((.slice Ao25 x8_1.length co25) : Value).ownBlock ∧ some k_ ≠ (v12 : Value).ownBlock) u9 x9_2) ∧ Aside0 (Kd.R k44 44 w' w.heap.size (fun k_ => some k_ ≠ ((.slice Ao25 x8_1.length co25) : Value).ownBlock ∧ some k_ ≠ (u9 : Value).ownBlock) v12 x12_3) ∧ Aside0 (Below w.heap.size w w'))
         case atStart => exact ⟨(([] : List (S44))), (0), rS, H', ⟨Nat.le_refl _⟩, ⟨by (with_reducible repeat (first | apply Kd.R_alloc | apply Kd.R_drewN | apply Kd.R_drew)); exact Kd.R_mono HO_8.out (fun _ hk => ⟨hk, (by simp [Value.ownBlock])⟩)⟩, ⟨by (with_reducible repeat (first | apply Kd.R_alloc | apply Kd.R_drewN | apply Kd.R_drew)); exact Kd.R_mono HO_9.out (fun _ hk => ⟨hk, (by simp [Value.ownBlock])⟩)⟩, ⟨by first | exact Kd.R_nil _ _ _ _ _ | exact Kd.N_nil _ _ _ _ _ | exact Kd.V_nil _ _ _ _ _ | exact Kd.Q_nil _ _ _ _ _ | exact Kd.S_nil _ _ _ _ _⟩, ⟨hB0 HB.out⟩⟩
         case round =>
          clear H'
          try clear c17b0
          obtain ⟨x12_3, x13_3, rfl, HA, HK3, HO_8, HO_9, HO_12, HB⟩ := hrel
          cases gk with
          | zero => exact absurd HA.out (by simp [timeboundlaw11_FactOrder.l2])
          | succ k3 =>
           have H := HA.out
           clear HA
           simp only [timeboundlaw11_FactOrder.l2] at H
           by_cases c26 : x13_3 < (x8_1.length : Int)
           ·rw [if_pos c26] at H
            have c26b0 : decide (x13_3 < (x8_1.length : Int)) = true := decide_eq_true c26
            clear c26
            by_cases c27 : 0 ≤ x13_3
            ·rw [if_pos c27] at H
             have c27b0 : decide (0 ≤ x13_3) = true := decide_eq_true c27
             clear c27
             obtain ⟨y122, hy122⟩ : ∃ y_ : List (S44), y_ = (([(⟨(rd_T44 x8_1 x13_3).f0, (rd_T44 x8_1 x13_3).f1⟩ : S44), (⟨(rd_T44 x8_1 x13_3).f0, wrap64 (-((rd_T44 x8_1 x13_3).f1))⟩ : S44)] : List (S44))) := ⟨_, rfl⟩
             replace H : (if x12_3.length + y122.length < 8796093022208 then (timeboundlaw11_FactOrder.l2 k3 a2 x8_1 x9_2 (x12_3 ++ y122) (wrap64 (x13_3 + 1))) else (none)) = some r := by first | (rw [hy122]; with_reducible exact H) | (have H2_ := (Option.bind_some _ _).symm.trans H; rw [hy122]; with_reducible exact H2_) | (have H2_ := (Option.bind_some _ _).symm.trans H; with_reducible exact H2_) | with_reducible exact H | (rw [hy122]; exact H) | exact H
             have Ny122 := Aside0.mk hy122
             clear hy122
             by_cases c28 : x12_3.length + y122.length < 8796093022208
             ·rw [if_pos c28] at H
              have LMc28 := Aside0.mk c28
              clear c28
              obtain ⟨y125, hy125⟩ : ∃ y_ : List (S44), y_ = (x12_3 ++ y122) := ⟨_, rfl⟩
              replace H : (timeboundlaw11_FactOrder.l2 k3 a2 x8_1 x9_2 y125 (wrap64 (x13_3 + 1))) = some r := by first | (rw [hy125]; with_reducible exact H) | (have H2_ := (Option.bind_some _ _).symm.trans H; rw [hy125]; with_reducible exact H2_) | (have H2_ := (Option.bind_some _ _).symm.trans H; with_reducible exact H2_) | with_reducible exact H | (rw [hy125]; exact H) | exact H
              have Ny125 := Aside0.mk hy125
              clear hy125
              have H' := Aside0.mk H
              clear H
              try go_wp2
              have n0_ := Aside0.mk (Kd.R_drew HO_8.out)
              have n1_ := Aside0.mk (Kd.R_drew HO_9.out)
              have n2_ := Aside0.mk (Kd.R_drew HO_12.out)
              have n3_ := Aside0.mk (below_drew1 HB.out)
              clear HO_8
              clear HO_9
              clear HO_12
              clear HB
              have HO_8 := n0_
              have HO_9 := n1_
              have HO_12 := n2_
              have HB := n3_
              clear n0_ n1_ n2_ n3_
              have p119 : 0 ≤ (x13_3 : Int) := oD
              have q119 : x13_3 < (x8_1.length : Int) := oD
              obtain ⟨ad119, e119, hx119_0, hx119_1⟩ := at_T44 (Kd.R_reads' HO_8.out).2.2 x13_3 p119 q119
              cases e119
              replace p119 := eq_true p119
              replace q119 := eq_true q119
              have p120 : 0 ≤ (x13_3 : Int) := oD
              have q120 : x13_3 < (x8_1.length : Int) := oD
              obtain ⟨ad120, e120, hx120_0, hx120_1⟩ := at_T44 (Kd.R_reads' HO_8.out).2.2 x13_3 p120 q120
              obtain rfl : ad119 = ad120 := (by injection e120)
              replace p120 := eq_true p120
              replace q120 := eq_true q120
              have p121 : 0 ≤ (x13_3 : Int) := oD
              have q121 : x13_3 < (x8_1.length : Int) := oD
              obtain ⟨ad121, e121, hx121_0, hx121_1⟩ := at_T44 (Kd.R_reads' HO_8.out).2.2 x13_3 p121 q121
              obtain rfl : ad119 = ad121 := (by injection e121)
              replace p121 := eq_true p121
              replace q121 := eq_true q121
              refine start_ (n := 20) (S := fun w' => w'.cell? (ad119.add ((x13_3).toNat * 2)) = some (.int .i64 ((rd_T44 x8_1 x13_3).f0)) ∧ w'.cell? ⟨(ad119.add ((x13_3).toNat * 2)).block, (ad119.add ((x13_3).toNat * 2)).off + 1, none⟩ = some (.int .i64 ((rd_T44 x8_1 x13_3).f1)) ∧ w'.cell? (ad119.add ((x13_3).toNat * 2)) = some (.int .i64 ((rd_T44 x8_1 x13_3).f0)) ∧ w'.cell? ⟨(ad119.add ((x13_3).toNat * 2)).block, (ad119.add ((x13_3).toNat * 2)).off + 1, none⟩ = some (.int .i64 ((rd_T44 x8_1 x13_3).f1)) ∧ w'.cell? (ad119.add ((x13_3).toNat * 2)) = some (.int .i64 ((rd_T44 x8_1 x13_3).f0)) ∧ w'.cell? ⟨(ad119.add ((x13_3).toNat * 2)).block, (ad119.add ((x13_3).toNat * 2)).off + 1, none⟩ = some (.int .i64 ((rd_T44 x8_1 x13_3).f1))) (ds := [18]) timeboundlaw11_FactOrder.b0 (by kernel_rfl) rfl rfl ⟨hx119_0, hx119_1, hx120_0, hx120_1, hx121_0, hx121_1⟩ (fun hHeld => ?_); refine with_tabW timeboundlaw11_FactOrder.tab17 timeboundlaw11_FactOrder.bits17 (fun HT_ HW_ => ?_)
              generalize wr.drew = w29 at HO_8 HO_9 HO_12 HB hx119_0 hx119_1 hx120_0 hx120_1 hx121_0 hx121_1 hHeld ⊢
              refine pY 0 (some 68) timeboundlaw11_FactOrder.b1 rfl rfl HT_.out (fun _ _ _ h => h) ?_
              refine pY 1 (some 69) timeboundlaw11_FactOrder.b2 rfl rfl HT_.out (fun _ _ _ h => h) ?_
              refine pY 2 (some 70) timeboundlaw11_FactOrder.b3 rfl rfl HT_.out (fun _ _ _ h => h) ?_
              refine pY 3 (some 71) timeboundlaw11_FactOrder.b4 rfl rfl HT_.out (fun _ _ _ h => h) ?_
              refine pY 5 (some 73) timeboundlaw11_FactOrder.b5 rfl rfl HT_.out (fun _ _ _ h => h) ?_
              refine pY 6 (some 74) timeboundlaw11_FactOrder.b6 rfl rfl HT_.out (fun _ _ _ h => h) ?_
              refine pY 7 (some 75) timeboundlaw11_FactOrder.b7 rfl rfl HT_.out (fun _ _ _ h => h) ?_
              refine pY 8 (some 76) timeboundlaw11_FactOrder.b8 rfl rfl HT_.out (fun _ _ _ h => h) ?_
              refine pY 10 (some 78) timeboundlaw11_FactOrder.b9 rfl rfl HT_.out (fun _ _ _ h => h) ?_
              refine pY 11 (some 79) timeboundlaw11_FactOrder.b10 rfl rfl HT_.out (fun _ _ _ h => h) ?_
              refine pY 12 (some 80) timeboundlaw11_FactOrder.b11 rfl rfl HT_.out (fun _ _ _ h => h) ?_
              refine pY 13 (some 81) timeboundlaw11_FactOrder.b12 rfl rfl HT_.out (fun _ _ _ h => h) ?_
              refine take_ (i := 4) (N := some 72) (v := ?_) (a' := ?_) timeboundlaw11_FactOrder.b13 rfl rfl (take_ofW HT_.out HW_.out (by kernel_rfl)) (fun _ _ _ h => h) (Or.inl ⟨by rfl, ?_⟩) hHeld ?_ ?_
              rotate_left
              ·rintro w' ⟨s0, s1, s2, s3, s4, s5⟩
               go_simp
               with_reducible rfl
              rotate_left
              ·simp only [Act.put, List.setIfInBounds_toArray, List.set_cons_zero, List.set_cons_succ, i64_w, i32_w]
               rfl
              refine take_ (i := 9) (N := some 77) (v := ?_) (a' := ?_) timeboundlaw11_FactOrder.b14 rfl rfl (take_ofW HT_.out HW_.out (by kernel_rfl)) (fun _ _ _ h => h) (Or.inl ⟨by rfl, ?_⟩) hHeld ?_ ?_
              rotate_left
              ·rintro w' ⟨s0, s1, s2, s3, s4, s5⟩
               go_simp
               with_reducible rfl
              rotate_left
              ·simp only [Act.put, List.setIfInBounds_toArray, List.set_cons_zero, List.set_cons_succ, i64_w, i32_w]
               rfl
              refine take_ (i := 14) (N := some 82) (v := ?_) (a' := ?_) timeboundlaw11_FactOrder.b15 rfl rfl (take_ofW HT_.out HW_.out (by kernel_rfl)) (fun _ _ _ h => h) (Or.inl ⟨by rfl, ?_⟩) hHeld ?_ ?_
              rotate_left
              ·rintro w' ⟨s0, s1, s2, s3, s4, s5⟩
               go_simp
               with_reducible rfl
              rotate_left
              ·simp only [Act.put, List.setIfInBounds_toArray, List.set_cons_zero, List.set_cons_succ, i64_w, i32_w]
               rfl
              refine pY 15 (some 83) timeboundlaw11_FactOrder.b16 rfl rfl HT_.out (fun _ _ _ h => h) ?_
              refine pY 16 (some 84) timeboundlaw11_FactOrder.b17 rfl rfl HT_.out (fun _ _ _ h => h) ?_
              refine one_ (i := 17) (N := some 85) timeboundlaw11_FactOrder.b18 rfl rfl (one_of HT_.out (by kernel_rfl)) (by decide) (fun K hK => ?_)
              refine Kd.R_lit_step k44 _ 44 ?hg (N := 85) ?hd (xs := ([(⟨(rd_T44 x8_1 x13_3).f0, (rd_T44 x8_1 x13_3).f1⟩ : S44), (⟨(rd_T44 x8_1 x13_3).f0, wrap64 (-((rd_T44 x8_1 x13_3).f1))⟩ : S44)] : List (S44))) (inner := [.int .i64 ((rd_T44 x8_1 x13_3).f0), .int .i64 ((rd_T44 x8_1 x13_3).f1), .int .i64 ((rd_T44 x8_1 x13_3).f0), .int .i64 (wrap64 (-((rd_T44 x8_1 x13_3).f1)))]) (ok := fun _ => True) (okp := fun _ => True) ?hr ?hp (fun _ hk => hk) trivial (Below.refl _ _) (Nat.le_refl _) (by simp) ?_; (case hd => rfl); (case hg => rfl); (case hr => first | (go_simp; done) | (go_simp; rfl)); (case hp => exact (Reps.c2 (show Kd.M k44 _ _ _ (⟨(rd_T44 x8_1 x13_3).f0, (rd_T44 x8_1 x13_3).f1⟩ : S44) [.int .i64 ((rd_T44 x8_1 x13_3).f0), .int .i64 ((rd_T44 x8_1 x13_3).f1)] from (k44_mkM _ _ _ (⟨(rd_T44 x8_1 x13_3).f0, (rd_T44 x8_1 x13_3).f1⟩ : S44) )) (Reps.c2 (show Kd.M k44 _ _ _ (⟨(rd_T44 x8_1 x13_3).f0, wrap64 (-((rd_T44 x8_1 x13_3).f1))⟩ : S44) [.int .i64 ((rd_T44 x8_1 x13_3).f0), .int .i64 (wrap64 (-((rd_T44 x8_1 x13_3).f1)))] from (k44_mkM _ _ _ (⟨(rd_T44 x8_1 x13_3).f0, wrap64 (-((rd_T44 x8_1 x13_3).f1))⟩ : S44) )) (Reps.none _ _))))
              intro v123 w30 ho31 hb hg_ hnew_
              have HS0_ := (hb.cell (World.block_lt_of_cell? _ _ (hHeld.1))).trans (hHeld.1)
              have HS1_ := (hb.cell (World.block_lt_of_cell? _ _ (hHeld.2.1))).trans (hHeld.2.1)
              have HS2_ := (hb.cell (World.block_lt_of_cell? _ _ (hHeld.2.2.1))).trans (hHeld.2.2.1)
              have HS3_ := (hb.cell (World.block_lt_of_cell? _ _ (hHeld.2.2.2.1))).trans (hHeld.2.2.2.1)
              have HS4_ := (hb.cell (World.block_lt_of_cell? _ _ (hHeld.2.2.2.2.1))).trans (hHeld.2.2.2.2.1)
              have HS5_ := (hb.cell (World.block_lt_of_cell? _ _ (hHeld.2.2.2.2.2))).trans (hHeld.2.2.2.2.2)
              clear hg_ hnew_
              (first | rw [← Ny122.out] at ho31 | (simp only [Int.reduceToNat] at ho31; rw [← Ny122.out] at ho31))
              have n0_ := Aside0.mk (Kd.R_elder' (rK HO_8.out) (Kd.R_base ho31) hb)
              have n1_ := Aside0.mk (Kd.R_elder' (rK HO_9.out) (Kd.R_base ho31) hb)
              have n2_ := Aside0.mk (Kd.R_elder' (rK HO_12.out) (Kd.R_base ho31) hb)
              have n3_ := Aside0.mk (Kd.R_lower (Kd.R_new' (Kd.R_new' (Kd.R_new' ho31 (Kd.R_lt (rK HO_8.out))) (Kd.R_lt (rK HO_9.out))) (Kd.R_lt (rK HO_12.out))) (below_size (hB0 HB.out)))
              have n4_ := Aside0.mk (below_step (hB0 HB.out) hb)
              clear HO_8
              clear HO_9
              clear HO_12
              clear HB
              have HO_8 := n0_
              have HO_9 := n1_
              have HO_12 := n2_
              have HO124 := n3_
              have HB := n4_
              clear n0_ n1_ n2_ n3_ n4_
              clear hb ho31
              obtain ⟨Ao33, co33, eo33⟩ := Kd.R_slice HO124.out
              (first | subst eo33 | (injection eo33 with f1_ f2_ f3_; have f4_ := f1_.symm; have f5_ := f3_.symm; clear f1_ f2_ f3_; subst f4_; subst f5_))
              refine hK.out _ _ ⟨HS0_, HS1_, HS2_, HS3_, HS4_, HS5_⟩ (fun hHeld => ?_)
              clear hK K
              refine norm_ (a' := ?_) ?_ ?_
              rotate_left
              ·show Act.put _ (some 85) _ = _
               simp only [Act.put, List.setIfInBounds_toArray, List.set_cons_zero, List.set_cons_succ, i64_w, i32_w]
               rfl
              refine last_ (i := 18) (N := some 86) timeboundlaw11_FactOrder.b19 rfl rfl (one_of HT_.out (by kernel_rfl)) (by decide) (fun K hK => ?_)
              refine Kd.R_append_rows_step k44 (w0 := w) w.heap.size (by rfl) (.tmp 68) (.tmp 85) 28 44 (.agg #[(.int .i64 0), (.int .i64 0)]) 16 rfl Try.underlying28 info44 rfl (by decide) (by omega) u12 x12_3 y122 _ _ _ (fun k_ => some k_ ≠ (.slice (some ad119) x8_1.length co25 : Value).ownBlock ∧ some k_ ≠ (u9 : Value).ownBlock ∧ some k_ ≠ (.slice Ao33 y122.length co33 : Value).ownBlock) (fun _ => False) rfl rfl ?aO ?aR (fun _ _ h => h) (fun _ h => h.elim) ?aF ?aB ?aS ?aL ?_
              (case aR => exact cK (Kd.R_reads' HO124.out).2.2)
              (case aB => exact (hB0 HB.out))
              (case aF => exact (fun k_ hk => ⟨Kd.fresh' (Kd.R_lt (rK HO_8.out)) k_ hk, Kd.fresh' (Kd.R_lt (rK HO_9.out)) k_ hk, Kd.fresh' (Kd.R_lt (rK HO124.out)) k_ hk⟩))
              (case aO => exact (by (with_reducible repeat (first | apply Kd.R_alloc | apply Kd.R_drewN | apply Kd.R_drew)); exact Kd.R_mono HO_12.out (fun _ hk => ⟨hk.1.1, ⟨hk.1.2, hk.2⟩⟩)))
              (case aS => exact (below_size (hB0 HB.out)))
              (case aL => have := LMc28.out; omega)
              intro v126 w32 ho hb hg hat
              rw [← Ny125.out] at ho
              have n0_ := Aside0.mk (Kd.R_after (ok := (fun k_ => some k_ ≠ (u9 : Value).ownBlock ∧ some k_ ≠ (.slice Ao33 y122.length co33 : Value).ownBlock)) (by (with_reducible repeat (first | apply Kd.R_alloc | apply Kd.R_drewN | apply Kd.R_drew)); exact Kd.R_mono HO_8.out (fun _ hk => ⟨⟨hk.1.1, hk.2⟩, hk.1.2⟩)) hg hat)
              have n1_ := Aside0.mk (Kd.R_after (ok := (fun k_ => some k_ ≠ (.slice (some ad119) x8_1.length co25 : Value).ownBlock ∧ some k_ ≠ (.slice Ao33 y122.length co33 : Value).ownBlock)) (by (with_reducible repeat (first | apply Kd.R_alloc | apply Kd.R_drewN | apply Kd.R_drew)); exact Kd.R_mono HO_9.out (fun _ hk => ⟨⟨hk.1.1, hk.2⟩, hk.1.2⟩)) hg hat)
              have n2_ := Aside0.mk (Kd.R_after (ok := (fun k_ => some k_ ≠ (.slice (some ad119) x8_1.length co25 : Value).ownBlock ∧ some k_ ≠ (u9 : Value).ownBlock)) (by (with_reducible repeat (first | apply Kd.R_alloc | apply Kd.R_drewN | apply Kd.R_drew)); exact Kd.R_mono HO124.out (fun _ hk => ⟨⟨hk.1.1.2, hk.1.2⟩, hk.2⟩)) hg hat)
              have n3_ := Aside0.mk (hb)
              have n4_ := Aside0.mk (ho)
              clear HO_8
              clear HO_9
              clear HO124
              clear HB
              clear HO_12
              have HO_8 := n0_
              have HO_9 := n1_
              have HO124 := n2_
              have HB := n3_
              have HO127 := n4_
              clear n0_ n1_ n2_ n3_ n4_
              clear ho hb hg hat
              refine hK.out _ _ ?_
              clear hK K
              refine norm_ (a' := ?_) ?_ ?_
              rotate_left
              ·show Act.put _ (some 86) _ = _
               simp only [Act.put, List.setIfInBounds_toArray, List.set_cons_zero, List.set_cons_succ, i64_w, i32_w]
               rfl
              refine pY 19 (some 12) timeboundlaw11_FactOrder.b20 rfl rfl HT_.out (fun _ _ _ h => h) ?_
              refine done_ (done_of HT_.out (by kernel_rfl)) ?_
              try go_wp2
              go_roundg k3
              case measure => have := HK1.out; have := HK2.out; have := HK3.out; omega
              case rel => exact ⟨(y125), (wrap64 (x13_3 + 1)), rS, H', ⟨by have := HK1.out; have := HK2.out; have := HK3.out; omega⟩, ⟨by (with_reducible repeat (first | apply Kd.R_alloc | apply Kd.R_drewN | apply Kd.R_drew)); exact Kd.R_mono HO_8.out (fun _ hk => ⟨hk.1.1, hk.2⟩)⟩, ⟨by (with_reducible repeat (first | apply Kd.R_alloc | apply Kd.R_drewN | apply Kd.R_drew)); exact Kd.R_mono HO_9.out (fun _ hk => ⟨hk.1.1, hk.2⟩)⟩, ⟨by (with_reducible repeat (first | apply Kd.R_alloc | apply Kd.R_drewN | apply Kd.R_drew)); exact Kd.R_mono HO127.out (fun _ hk => ⟨hk.1, hk.2.1⟩)⟩, ⟨hB0 HB.out⟩⟩
             ·rw [if_neg c28] at H
              exact absurd H (by simp)
            ·rw [if_neg c27] at H
             exact absurd H (by simp)
           ·rw [if_neg c26] at H
            have c26b0 : decide (x13_3 < (x8_1.length : Int)) = false := decide_eq_false c26
            clear c26
            replace H := Option.bind_eq_some_iff.mp H
            obtain ⟨⟨t128, t131, t132⟩, A340, H⟩ := H
            replace H : ((fact_Of.f k3 x9_2 (wrap64 (a2))).bind fun bt134 => ((fact_Of.f k3 t128 t131).bind fun bt140 => ((fact_Of.f k3 x12_3 (wrap64 (a2))).bind fun bt146 => (if t132 = 0 then (if bt134.2.2 = 0 then (if bt140.2.2 = 0 then (if bt146.2.2 = 0 then ((fact_Check.f k3 t128 t131).bind fun t152 => (if t152 = 0 then ((timeboundref11_Same.f k3 t128 t131 bt134.1 bt134.2.1).bind fun t153 => (if t153 = true then ((timeboundref11_Same.f k3 t128 t131 bt140.1 bt140.2.1).bind fun t154 => (if t154 = true then (if (bt146.1.length : Int) = 0 then (if bt146.2.1 = (wrap64 (a2)) then ((timeboundlaw11_awake.f k3).bind fun t155 => (timeboundlaw11_FactOrder.j3 k3 t155)) else (timeboundlaw11_FactOrder.j3 k3 false)) else (timeboundlaw11_FactOrder.j3 k3 false)) else (timeboundlaw11_FactOrder.j3 k3 false))) else (timeboundlaw11_FactOrder.j3 k3 false))) else (timeboundlaw11_FactOrder.j3 k3 false))) else (timeboundlaw11_FactOrder.j3 k3 false)) else (timeboundlaw11_FactOrder.j3 k3 false)) else (timeboundlaw11_FactOrder.j3 k3 false)) else (timeboundlaw11_FactOrder.j3 k3 false))))) = some r := H
            have A34 := Aside0.mk A340
            clear A340
            replace H := Option.bind_eq_some_iff.mp H
            obtain ⟨⟨t134, t137, t138⟩, A350, H⟩ := H
            replace H : ((fact_Of.f k3 t128 t131).bind fun bt140 => ((fact_Of.f k3 x12_3 (wrap64 (a2))).bind fun bt146 => (if t132 = 0 then (if t138 = 0 then (if bt140.2.2 = 0 then (if bt146.2.2 = 0 then ((fact_Check.f k3 t128 t131).bind fun t152 => (if t152 = 0 then ((timeboundref11_Same.f k3 t128 t131 t134 t137).bind fun t153 => (if t153 = true then ((timeboundref11_Same.f k3 t128 t131 bt140.1 bt140.2.1).bind fun t154 => (if t154 = true then (if (bt146.1.length : Int) = 0 then (if bt146.2.1 = (wrap64 (a2)) then ((timeboundlaw11_awake.f k3).bind fun t155 => (timeboundlaw11_FactOrder.j3 k3 t155)) else (timeboundlaw11_FactOrder.j3 k3 false)) else (timeboundlaw11_FactOrder.j3 k3 false)) else (timeboundlaw11_FactOrder.j3 k3 false))) else (timeboundlaw11_FactOrder.j3 k3 false))) else (timeboundlaw11_FactOrder.j3 k3 false))) else (timeboundlaw11_FactOrder.j3 k3 false)) else (timeboundlaw11_FactOrder.j3 k3 false)) else (timeboundlaw11_FactOrder.j3 k3 false)) else (timeboundlaw11_FactOrder.j3 k3 false)))) = some r := H
            have A35 := Aside0.mk A350
            clear A350
            replace H := Option.bind_eq_some_iff.mp H
            obtain ⟨⟨t140, t143, t144⟩, A360, H⟩ := H
            replace H : ((fact_Of.f k3 x12_3 (wrap64 (a2))).bind fun bt146 => (if t132 = 0 then (if t138 = 0 then (if t144 = 0 then (if bt146.2.2 = 0 then ((fact_Check.f k3 t128 t131).bind fun t152 => (if t152 = 0 then ((timeboundref11_Same.f k3 t128 t131 t134 t137).bind fun t153 => (if t153 = true then ((timeboundref11_Same.f k3 t128 t131 t140 t143).bind fun t154 => (if t154 = true then (if (bt146.1.length : Int) = 0 then (if bt146.2.1 = (wrap64 (a2)) then ((timeboundlaw11_awake.f k3).bind fun t155 => (timeboundlaw11_FactOrder.j3 k3 t155)) else (timeboundlaw11_FactOrder.j3 k3 false)) else (timeboundlaw11_FactOrder.j3 k3 false)) else (timeboundlaw11_FactOrder.j3 k3 false))) else (timeboundlaw11_FactOrder.j3 k3 false))) else (timeboundlaw11_FactOrder.j3 k3 false))) else (timeboundlaw11_FactOrder.j3 k3 false)) else (timeboundlaw11_FactOrder.j3 k3 false)) else (timeboundlaw11_FactOrder.j3 k3 false)) else (timeboundlaw11_FactOrder.j3 k3 false))) = some r := H
            have A36 := Aside0.mk A360
            clear A360
            replace H := Option.bind_eq_some_iff.mp H
            obtain ⟨⟨t146, t149, t150⟩, A370, H⟩ := H
            replace H : (if t132 = 0 then (if t138 = 0 then (if t144 = 0 then (if t150 = 0 then ((fact_Check.f k3 t128 t131).bind fun t152 => (if t152 = 0 then ((timeboundref11_Same.f k3 t128 t131 t134 t137).bind fun t153 => (if t153 = true then ((timeboundref11_Same.f k3 t128 t131 t140 t143).bind fun t154 => (if t154 = true then (if (t146.length : Int) = 0 then (if t149 = (wrap64 (a2)) then ((timeboundlaw11_awake.f k3).bind fun t155 => (timeboundlaw11_FactOrder.j3 k3 t155)) else (timeboundlaw11_FactOrder.j3 k3 false)) else (timeboundlaw11_FactOrder.j3 k3 false)) else (timeboundlaw11_FactOrder.j3 k3 false))) else (timeboundlaw11_FactOrder.j3 k3 false))) else (timeboundlaw11_FactOrder.j3 k3 false))) else (timeboundlaw11_FactOrder.j3 k3 false)) else (timeboundlaw11_FactOrder.j3 k3 false)) else (timeboundlaw11_FactOrder.j3 k3 false)) else (timeboundlaw11_FactOrder.j3 k3 false)) = some r := H
            have A37 := Aside0.mk A370
            clear A370
            have HC38 := Aside0.mk H
            clear H
            go_upto_region 22 with (first | ((with_reducible refine gate_callee (f := 19) rfl ?_); refine goesL_ (some 91) rfl rfl Try.func19 (by kernel_rfl) rfl #[.slice Ao25 x8_1.length co25, .int .i64 (wrap64 (a2))] rfl aM ?_; (with_reducible refine (fact_Of.calls k3 _ _ x8_1 (wrap64 (a2)) t128 t131 t132 _ ?side1 ?side2 A34.out).mono ?_); (case side1 => exact cK (Kd.R_reads' HO_8.out).2.2); (case side2 => exact (Kd.R_reads' HO_8.out).2.1); rintro e w39 ⟨v129, rfl, ho0, hb⟩; refine ⟨_, rfl, ?_⟩; have n0_ := Aside0.mk (Kd.R_elder' (rK HO_8.out) (Kd.R_base ho0) hb); have n1_ := Aside0.mk (Kd.R_elder' (rK HO_9.out) (Kd.R_base ho0) hb); have n2_ := Aside0.mk (Kd.R_elder' (rK HO_12.out) (Kd.R_base ho0) hb); have n3_ := Aside0.mk (Kd.R_lower (Kd.R_new' (Kd.R_new' (Kd.R_new' ho0 (Kd.R_lt (rK HO_8.out))) (Kd.R_lt (rK HO_9.out))) (Kd.R_lt (rK HO_12.out))) (below_size (hB0 HB.out))); have n4_ := Aside0.mk (below_step (hB0 HB.out) hb); clear HO_8 HO_9 HO_12 HB; have HO_8 := n0_; have HO_9 := n1_; have HO_12 := n2_; have HO130 := n3_; have HB := n4_; clear n0_ n1_ n2_ n3_ n4_; (try clear hb); (try clear ho0)) | ((with_reducible refine gate_dst (N := 14) rfl ?_); (try (refine gate_guard (by rfl) ?_; dsimp only)); refine box_event ?hg (N := 14) ?hd (cs := #[.slice none 0 0, .int .i64 0]) (t := 30) ?hr ?_; (case hd => rfl); (case hg => rfl); (case hr => first | (go_simp; done) | (go_simp; rfl)); intro gb133 hg w40 hbox hb; have n0_ := Aside0.mk (Kd.R_below (rK HO_8.out) hb); have n1_ := Aside0.mk (Kd.R_below (rK HO_9.out) hb); have n2_ := Aside0.mk (Kd.R_below (rK HO_12.out) hb); have n3_ := Aside0.mk (Kd.R_below (rK HO130.out) hb); have n4_ := Aside0.mk (below_step (hB0 HB.out) hb); have n5_ := Aside0.mk (hbox); have n6_ := Aside0.mk ((by rw [hg]; exact (below_size (hB0 HB.out)) : w.heap.size ≤ gb133)); have n7_ := Aside0.mk ((by rw [hg]; exact (below_size (hB0 HB.out)) : w.heap.size ≤ gb133)); clear HO_8 HO_9 HO_12 HO130 HB; have HO_8 := n0_; have HO_9 := n1_; have HO_12 := n2_; have HO130 := n3_; have HB := n4_; have BK133 := n5_; have GW133 := n6_; have GE133 := n7_; clear n0_ n1_ n2_ n3_ n4_ n5_ n6_ n7_; clear hb hbox hg; obtain ⟨Ao41, co41, eo41⟩ := Kd.R_slice HO130.out; subst eo41; have hcz42_0 : w40.cell? ⟨gb133, 0, none⟩ = some (.slice none 0 0) := (blk_cell BK133.out 0).trans rfl; have hcz42_1 : w40.cell? ⟨gb133, 1, none⟩ = some (.int .i64 0) := (blk_cell BK133.out 1).trans rfl; have hfz42_0 := blk_frozen BK133.out 0; have hfz42_1 := blk_frozen BK133.out 1; obtain ⟨Ao43, co43, eo43⟩ := Kd.R_slice HO_9.out; subst eo43) | ((with_reducible refine gate_callee (f := 19) rfl ?_); refine goesL_ (some 98) rfl rfl Try.func19 (by kernel_rfl) rfl #[.slice Ao43 x9_2.length co43, .int .i64 (wrap64 (a2))] rfl aM ?_; (with_reducible refine (fact_Of.calls k3 _ _ x9_2 (wrap64 (a2)) t134 t137 t138 _ ?side1 ?side2 A35.out).mono ?_); (case side1 => refine (Kd.R_reads' (e := 44) (base := w.heap.size) (ok := fun k_ => ((some k_ ≠ (.slice Ao25 x8_1.length co25 : Value).ownBlock ∧ some k_ ≠ (u12 : Value).ownBlock) ∧ some k_ ≠ (.slice Ao41 t128.length co41 : Value).ownBlock)) (n := x9_2.length) (c := co43) ?_).2.2; exact (by (with_reducible repeat (first | apply Kd.R_alloc | apply Kd.R_drewN | apply Kd.R_drew)); exact (Kd.R_mono (Kd.R_far (p := ⟨gb133, 1, none⟩) (Kd.R_far (p := ⟨gb133, 0, none⟩) (Kd.R_types HO_9.out BK133.out (by decide)) (fun _ hk => hk.2) (.slice Ao41 t128.length co41)) (fun _ hk => hk.2) (.int .i64 t131)) (fun _ h_ => h_.1)))); (case side2 => exact (Kd.R_reads' HO_9.out).2.1); rintro e w44 ⟨v135, rfl, ho0, hb⟩; refine ⟨_, rfl, ?_⟩; have n0_ := Aside0.mk (Kd.R_elder' (by (with_reducible repeat (first | apply Kd.R_alloc | apply Kd.R_drewN | apply Kd.R_drew)); exact (Kd.R_mono (Kd.R_far (p := ⟨gb133, 1, none⟩) (Kd.R_far (p := ⟨gb133, 0, none⟩) (Kd.R_types HO_8.out BK133.out (by decide)) (fun _ hk => hk.2) (.slice Ao41 t128.length co41)) (fun _ hk => hk.2) (.int .i64 t131)) (fun _ h_ => h_.1))) (Kd.R_base ho0) hb); have n1_ := Aside0.mk (Kd.R_elder' (by (with_reducible repeat (first | apply Kd.R_alloc | apply Kd.R_drewN | apply Kd.R_drew)); exact (Kd.R_mono (Kd.R_far (p := ⟨gb133, 1, none⟩) (Kd.R_far (p := ⟨gb133, 0, none⟩) (Kd.R_types HO_9.out BK133.out (by decide)) (fun _ hk => hk.2) (.slice Ao41 t128.length co41)) (fun _ hk => hk.2) (.int .i64 t131)) (fun _ h_ => h_.1))) (Kd.R_base ho0) hb); have n2_ := Aside0.mk (Kd.R_elder' (by (with_reducible repeat (first | apply Kd.R_alloc | apply Kd.R_drewN | apply Kd.R_drew)); exact (Kd.R_mono (Kd.R_far (p := ⟨gb133, 1, none⟩) (Kd.R_far (p := ⟨gb133, 0, none⟩) (Kd.R_types HO_12.out BK133.out (by decide)) (fun _ hk => hk.2) (.slice Ao41 t128.length co41)) (fun _ hk => hk.2) (.int .i64 t131)) (fun _ h_ => h_.1))) (Kd.R_base ho0) hb); have n3_ := Aside0.mk (Kd.R_elder' (by (with_reducible repeat (first | apply Kd.R_alloc | apply Kd.R_drewN | apply Kd.R_drew)); exact (Kd.R_mono (Kd.R_far (p := ⟨gb133, 1, none⟩) (Kd.R_far (p := ⟨gb133, 0, none⟩) (Kd.R_types HO130.out BK133.out (by decide)) (fun _ hk => hk.2) (.slice Ao41 t128.length co41)) (fun _ hk => hk.2) (.int .i64 t131)) (fun _ h_ => h_.1))) (Kd.R_base ho0) hb); have n4_ := Aside0.mk (Kd.R_lower (Kd.R_new' (Kd.R_new' (Kd.R_new' (Kd.R_new' ho0 (Kd.R_lt (by (with_reducible repeat (first | apply Kd.R_alloc | apply Kd.R_drewN | apply Kd.R_drew)); exact (Kd.R_mono (Kd.R_far (p := ⟨gb133, 1, none⟩) (Kd.R_far (p := ⟨gb133, 0, none⟩) (Kd.R_types HO_8.out BK133.out (by decide)) (fun _ hk => hk.2) (.slice Ao41 t128.length co41)) (fun _ hk => hk.2) (.int .i64 t131)) (fun _ h_ => h_.1))))) (Kd.R_lt (by (with_reducible repeat (first | apply Kd.R_alloc | apply Kd.R_drewN | apply Kd.R_drew)); exact (Kd.R_mono (Kd.R_far (p := ⟨gb133, 1, none⟩) (Kd.R_far (p := ⟨gb133, 0, none⟩) (Kd.R_types HO_9.out BK133.out (by decide)) (fun _ hk => hk.2) (.slice Ao41 t128.length co41)) (fun _ hk => hk.2) (.int .i64 t131)) (fun _ h_ => h_.1))))) (Kd.R_lt (by (with_reducible repeat (first | apply Kd.R_alloc | apply Kd.R_drewN | apply Kd.R_drew)); exact (Kd.R_mono (Kd.R_far (p := ⟨gb133, 1, none⟩) (Kd.R_far (p := ⟨gb133, 0, none⟩) (Kd.R_types HO_12.out BK133.out (by decide)) (fun _ hk => hk.2) (.slice Ao41 t128.length co41)) (fun _ hk => hk.2) (.int .i64 t131)) (fun _ h_ => h_.1))))) (Kd.R_lt (by (with_reducible repeat (first | apply Kd.R_alloc | apply Kd.R_drewN | apply Kd.R_drew)); exact (Kd.R_mono (Kd.R_far (p := ⟨gb133, 1, none⟩) (Kd.R_far (p := ⟨gb133, 0, none⟩) (Kd.R_types HO130.out BK133.out (by decide)) (fun _ hk => hk.2) (.slice Ao41 t128.length co41)) (fun _ hk => hk.2) (.int .i64 t131)) (fun _ h_ => h_.1))))) (below_size (hB1 HB.out GE133.out))); have n5_ := Aside0.mk (blk_below (g := gb133) (o := .cells #[.slice Ao41 t128.length co41, .int .i64 t131] 30 (0, 0)) (by (with_reducible repeat (first | refine blk_drewN ?_ _ | refine blk_drew ?_ | refine blk_alloc ?_ _)); refine blk_put (cs := #[.slice Ao41 t128.length co41, .int .i64 0]) ?_ 1 _ rfl; (with_reducible repeat (first | refine blk_drewN ?_ _ | refine blk_drew ?_ | refine blk_alloc ?_ _)); refine blk_put (cs := #[.slice none 0 0, .int .i64 0]) ?_ 0 _ rfl; (with_reducible repeat (first | refine blk_drewN ?_ _ | refine blk_drew ?_ | refine blk_alloc ?_ _)); exact BK133.out) hb); have n6_ := Aside0.mk (below_step (hB1 HB.out GE133.out) hb); clear HO_8 HO_9 HO_12 HO130 BK133 HB; have HO_8 := n0_; have HO_9 := n1_; have HO_12 := n2_; have HO130 := n3_; have HO136 := n4_; have BK133 := n5_; have HB := n6_; clear n0_ n1_ n2_ n3_ n4_ n5_ n6_; (try clear hb); (try clear ho0)) | ((with_reducible refine gate_dst (N := 16) rfl ?_); (try (refine gate_guard (by rfl) ?_; dsimp only)); refine box_event ?hg (N := 16) ?hd (cs := #[.slice none 0 0, .int .i64 0]) (t := 30) ?hr ?_; (case hd => rfl); (case hg => rfl); (case hr => first | (go_simp; done) | (go_simp; rfl)); intro gb139 hg w45 hbox hb; have n0_ := Aside0.mk (Kd.R_below (rK HO_8.out) hb); have n1_ := Aside0.mk (Kd.R_below (rK HO_9.out) hb); have n2_ := Aside0.mk (Kd.R_below (rK HO_12.out) hb); have n3_ := Aside0.mk (Kd.R_below (rK HO130.out) hb); have n4_ := Aside0.mk (Kd.R_below (rK HO136.out) hb); have n5_ := Aside0.mk (blk_below (g := gb133) (o := .cells #[.slice Ao41 t128.length co41, .int .i64 t131] 30 (0, 0)) (bK BK133.out) hb); have n6_ := Aside0.mk (below_step (hB1 HB.out GE133.out) hb); have n7_ := Aside0.mk (hbox); have n8_ := Aside0.mk ((by rw [hg]; exact (below_size (hB1 HB.out GE133.out)) : w.heap.size ≤ gb139)); have n9_ := Aside0.mk ((by rw [hg]; exact (below_size (hB1 HB.out GE133.out)) : w.heap.size ≤ gb139)); have n10_ := Aside0.mk ((by rw [hg]; exact Nat.ne_of_lt (blk_lt (g := gb133) (o := .cells #[.slice Ao41 t128.length co41, .int .i64 t131] 30 (0, 0)) (bK BK133.out)) : gb133 ≠ gb139)); have n11_ := Aside0.mk ((by rw [hg]; exact Nat.ne_of_gt (blk_lt (g := gb133) (o := .cells #[.slice Ao41 t128.length co41, .int .i64 t131] 30 (0, 0)) (bK BK133.out)) : gb139 ≠ gb133)); clear HO_8 HO_9 HO_12 HO130 HO136 BK133 HB; have HO_8 := n0_; have HO_9 := n1_; have HO_12 := n2_; have HO130 := n3_; have HO136 := n4_; have BK133 := n5_; have HB := n6_; have BK139 := n7_; have GW139 := n8_; have GE139 := n9_; have NB133_139 := n10_; have NB139_133 := n11_; clear n0_ n1_ n2_ n3_ n4_ n5_ n6_ n7_ n8_ n9_ n10_ n11_; clear hb hbox hg; obtain ⟨Ao46, co46, eo46⟩ := Kd.R_slice HO136.out; subst eo46; have hnb47 := NB139_133.out; have hnc47 := NB133_139.out; have hcz48_0 : w45.cell? ⟨gb139, 0, none⟩ = some (.slice none 0 0) := (blk_cell BK139.out 0).trans rfl; have hcz48_1 : w45.cell? ⟨gb139, 1, none⟩ = some (.int .i64 0) := (blk_cell BK139.out 1).trans rfl; have hfz48_0 := blk_frozen BK139.out 0; have hfz48_1 := blk_frozen BK139.out 1; have hcz49_0 : w45.cell? ⟨gb133, 0, none⟩ = some (.slice Ao41 t128.length co41) := (blk_cell BK133.out 0).trans rfl; have hcz49_1 : w45.cell? ⟨gb133, 1, none⟩ = some (.int .i64 t131) := (blk_cell BK133.out 1).trans rfl; have hfz49_0 := blk_frozen BK133.out 0; have hfz49_1 := blk_frozen BK133.out 1) | ((with_reducible refine gate_callee (f := 19) rfl ?_); refine goesL_ (some 106) rfl rfl Try.func19 (by kernel_rfl) rfl #[.slice Ao41 t128.length co41, .int .i64 t131] rfl aM ?_; (with_reducible refine (fact_Of.calls k3 _ _ t128 t131 t140 t143 t144 _ ?side1 ?side2 A36.out).mono ?_); (case side1 => refine (Kd.R_reads' (e := 44) (base := w.heap.size) (ok := fun k_ => ((((True ∧ some k_ ≠ (.slice Ao25 x8_1.length co25 : Value).ownBlock) ∧ some k_ ≠ (.slice Ao43 x9_2.length co43 : Value).ownBlock) ∧ some k_ ≠ (u12 : Value).ownBlock) ∧ some k_ ≠ (.slice Ao46 t134.length co46 : Value).ownBlock)) (n := t128.length) (c := co41) ?_).2.2; exact (by (with_reducible repeat (first | apply Kd.R_alloc | apply Kd.R_drewN | apply Kd.R_drew)); exact (Kd.R_mono (Kd.R_far (p := ⟨gb139, 1, none⟩) (Kd.R_far (p := ⟨gb139, 0, none⟩) (Kd.R_types HO130.out BK139.out (by decide)) (fun _ hk => hk.2) (.slice Ao46 t134.length co46)) (fun _ hk => hk.2) (.int .i64 t137)) (fun _ h_ => h_.1)))); (case side2 => exact (Kd.R_reads' HO130.out).2.1); rintro e w50 ⟨v141, rfl, ho0, hb⟩; refine ⟨_, rfl, ?_⟩; have n0_ := Aside0.mk (Kd.R_elder' (by (with_reducible repeat (first | apply Kd.R_alloc | apply Kd.R_drewN | apply Kd.R_drew)); exact (Kd.R_mono (Kd.R_far (p := ⟨gb139, 1, none⟩) (Kd.R_far (p := ⟨gb139, 0, none⟩) (Kd.R_types HO_8.out BK139.out (by decide)) (fun _ hk => hk.2) (.slice Ao46 t134.length co46)) (fun _ hk => hk.2) (.int .i64 t137)) (fun _ h_ => h_.1))) (Kd.R_base ho0) hb); have n1_ := Aside0.mk (Kd.R_elder' (by (with_reducible repeat (first | apply Kd.R_alloc | apply Kd.R_drewN | apply Kd.R_drew)); exact (Kd.R_mono (Kd.R_far (p := ⟨gb139, 1, none⟩) (Kd.R_far (p := ⟨gb139, 0, none⟩) (Kd.R_types HO_9.out BK139.out (by decide)) (fun _ hk => hk.2) (.slice Ao46 t134.length co46)) (fun _ hk => hk.2) (.int .i64 t137)) (fun _ h_ => h_.1))) (Kd.R_base ho0) hb); have n2_ := Aside0.mk (Kd.R_elder' (by (with_reducible repeat (first | apply Kd.R_alloc | apply Kd.R_drewN | apply Kd.R_drew)); exact (Kd.R_mono (Kd.R_far (p := ⟨gb139, 1, none⟩) (Kd.R_far (p := ⟨gb139, 0, none⟩) (Kd.R_types HO_12.out BK139.out (by decide)) (fun _ hk => hk.2) (.slice Ao46 t134.length co46)) (fun _ hk => hk.2) (.int .i64 t137)) (fun _ h_ => h_.1))) (Kd.R_base ho0) hb); have n3_ := Aside0.mk (Kd.R_elder' (by (with_reducible repeat (first | apply Kd.R_alloc | apply Kd.R_drewN | apply Kd.R_drew)); exact (Kd.R_mono (Kd.R_far (p := ⟨gb139, 1, none⟩) (Kd.R_far (p := ⟨gb139, 0, none⟩) (Kd.R_types HO130.out BK139.out (by decide)) (fun _ hk => hk.2) (.slice Ao46 t134.length co46)) (fun _ hk => hk.2) (.int .i64 t137)) (fun _ h_ => h_.1))) (Kd.R_base ho0) hb); have n4_ := Aside0.mk (Kd.R_elder' (by (with_reducible repeat (first | apply Kd.R_alloc | apply Kd.R_drewN | apply Kd.R_drew)); exact (Kd.R_mono (Kd.R_far (p := ⟨gb139, 1, none⟩) (Kd.R_far (p := ⟨gb139, 0, none⟩) (Kd.R_types HO136.out BK139.out (by decide)) (fun _ hk => hk.2) (.slice Ao46 t134.length co46)) (fun _ hk => hk.2) (.int .i64 t137)) (fun _ h_ => h_.1))) (Kd.R_base ho0) hb); have n5_ := Aside0.mk (Kd.R_lower (Kd.R_new' (Kd.R_new' (Kd.R_new' (Kd.R_new' (Kd.R_new' ho0 (Kd.R_lt (by (with_reducible repeat (first | apply Kd.R_alloc | apply Kd.R_drewN | apply Kd.R_drew)); exact (Kd.R_mono (Kd.R_far (p := ⟨gb139, 1, none⟩) (Kd.R_far (p := ⟨gb139, 0, none⟩) (Kd.R_types HO_8.out BK139.out (by decide)) (fun _ hk => hk.2) (.slice Ao46 t134.length co46)) (fun _ hk => hk.2) (.int .i64 t137)) (fun _ h_ => h_.1))))) (Kd.R_lt (by (with_reducible repeat (first | apply Kd.R_alloc | apply Kd.R_drewN | apply Kd.R_drew)); exact (Kd.R_mono (Kd.R_far (p := ⟨gb139, 1, none⟩) (Kd.R_far (p := ⟨gb139, 0, none⟩) (Kd.R_types HO_9.out BK139.out (by decide)) (fun _ hk => hk.2) (.slice Ao46 t134.length co46)) (fun _ hk => hk.2) (.int .i64 t137)) (fun _ h_ => h_.1))))) (Kd.R_lt (by (with_reducible repeat (first | apply Kd.R_alloc | apply Kd.R_drewN | apply Kd.R_drew)); exact (Kd.R_mono (Kd.R_far (p := ⟨gb139, 1, none⟩) (Kd.R_far (p := ⟨gb139, 0, none⟩) (Kd.R_types HO_12.out BK139.out (by decide)) (fun _ hk => hk.2) (.slice Ao46 t134.length co46)) (fun _ hk => hk.2) (.int .i64 t137)) (fun _ h_ => h_.1))))) (Kd.R_lt (by (with_reducible repeat (first | apply Kd.R_alloc | apply Kd.R_drewN | apply Kd.R_drew)); exact (Kd.R_mono (Kd.R_far (p := ⟨gb139, 1, none⟩) (Kd.R_far (p := ⟨gb139, 0, none⟩) (Kd.R_types HO130.out BK139.out (by decide)) (fun _ hk => hk.2) (.slice Ao46 t134.length co46)) (fun _ hk => hk.2) (.int .i64 t137)) (fun _ h_ => h_.1))))) (Kd.R_lt (by (with_reducible repeat (first | apply Kd.R_alloc | apply Kd.R_drewN | apply Kd.R_drew)); exact (Kd.R_mono (Kd.R_far (p := ⟨gb139, 1, none⟩) (Kd.R_far (p := ⟨gb139, 0, none⟩) (Kd.R_types HO136.out BK139.out (by decide)) (fun _ hk => hk.2) (.slice Ao46 t134.length co46)) (fun _ hk => hk.2) (.int .i64 t137)) (fun _ h_ => h_.1))))) (below_size (hB2 HB.out GE133.out GE139.out))); have n6_ := Aside0.mk (blk_below (g := gb133) (o := .cells #[.slice Ao41 t128.length co41, .int .i64 t131] 30 (0, 0)) (by (with_reducible repeat (first | refine blk_drewN ?_ _ | refine blk_drew ?_ | refine blk_alloc ?_ _)); refine blk_far ?_ NB133_139.out _; (with_reducible repeat (first | refine blk_drewN ?_ _ | refine blk_drew ?_ | refine blk_alloc ?_ _)); refine blk_far ?_ NB133_139.out _; (with_reducible repeat (first | refine blk_drewN ?_ _ | refine blk_drew ?_ | refine blk_alloc ?_ _)); exact BK133.out) hb); have n7_ := Aside0.mk (blk_below (g := gb139) (o := .cells #[.slice Ao46 t134.length co46, .int .i64 t137] 30 (0, 0)) (by (with_reducible repeat (first | refine blk_drewN ?_ _ | refine blk_drew ?_ | refine blk_alloc ?_ _)); refine blk_put (cs := #[.slice Ao46 t134.length co46, .int .i64 0]) ?_ 1 _ rfl; (with_reducible repeat (first | refine blk_drewN ?_ _ | refine blk_drew ?_ | refine blk_alloc ?_ _)); refine blk_put (cs := #[.slice none 0 0, .int .i64 0]) ?_ 0 _ rfl; (with_reducible repeat (first | refine blk_drewN ?_ _ | refine blk_drew ?_ | refine blk_alloc ?_ _)); exact BK139.out) hb); have n8_ := Aside0.mk (below_step (hB2 HB.out GE133.out GE139.out) hb); clear HO_8 HO_9 HO_12 HO130 HO136 BK133 BK139 HB; have HO_8 := n0_; have HO_9 := n1_; have HO_12 := n2_; have HO130 := n3_; have HO136 := n4_; have HO142 := n5_; have BK133 := n6_; have BK139 := n7_; have HB := n8_; clear n0_ n1_ n2_ n3_ n4_ n5_ n6_ n7_ n8_; (try clear hb); (try clear ho0)) | ((with_reducible refine gate_dst (N := 18) rfl ?_); (try (refine gate_guard (by rfl) ?_; dsimp only)); refine box_event ?hg (N := 18) ?hd (cs := #[.slice none 0 0, .int .i64 0]) (t := 30) ?hr ?_; (case hd => rfl); (case hg => rfl); (case hr => first | (go_simp; done) | (go_simp; rfl)); intro gb145 hg w51 hbox hb; have n0_ := Aside0.mk (Kd.R_below (rK HO_8.out) hb); have n1_ := Aside0.mk (Kd.R_below (rK HO_9.out) hb); have n2_ := Aside0.mk (Kd.R_below (rK HO_12.out) hb); have n3_ := Aside0.mk (Kd.R_below (rK HO130.out) hb); have n4_ := Aside0.mk (Kd.R_below (rK HO136.out) hb); have n5_ := Aside0.mk (Kd.R_below (rK HO142.out) hb); have n6_ := Aside0.mk (blk_below (g := gb133) (o := .cells #[.slice Ao41 t128.length co41, .int .i64 t131] 30 (0, 0)) (bK BK133.out) hb); have n7_ := Aside0.mk (blk_below (g := gb139) (o := .cells #[.slice Ao46 t134.length co46, .int .i64 t137] 30 (0, 0)) (bK BK139.out) hb); have n8_ := Aside0.mk (below_step (hB2 HB.out GE133.out GE139.out) hb); have n9_ := Aside0.mk (hbox); have n10_ := Aside0.mk ((by rw [hg]; exact (below_size (hB2 HB.out GE133.out GE139.out)) : w.heap.size ≤ gb145)); have n11_ := Aside0.mk ((by rw [hg]; exact (below_size (hB2 HB.out GE133.out GE139.out)) : w.heap.size ≤ gb145)); have n12_ := Aside0.mk ((by rw [hg]; exact Nat.ne_of_lt (blk_lt (g := gb133) (o := .cells #[.slice Ao41 t128.length co41, .int .i64 t131] 30 (0, 0)) (bK BK133.out)) : gb133 ≠ gb145)); have n13_ := Aside0.mk ((by rw [hg]; exact Nat.ne_of_gt (blk_lt (g := gb133) (o := .cells #[.slice Ao41 t128.length co41, .int .i64 t131] 30 (0, 0)) (bK BK133.out)) : gb145 ≠ gb133)); have n14_ := Aside0.mk ((by rw [hg]; exact Nat.ne_of_lt (blk_lt (g := gb139) (o := .cells #[.slice Ao46 t134.length co46, .int .i64 t137] 30 (0, 0)) (bK BK139.out)) : gb139 ≠ gb145)); have n15_ := Aside0.mk ((by rw [hg]; exact Nat.ne_of_gt (blk_lt (g := gb139) (o := .cells #[.slice Ao46 t134.length co46, .int .i64 t137] 30 (0, 0)) (bK BK139.out)) : gb145 ≠ gb139)); clear HO_8 HO_9 HO_12 HO130 HO136 HO142 BK133 BK139 HB; have HO_8 := n0_; have HO_9 := n1_; have HO_12 := n2_; have HO130 := n3_; have HO136 := n4_; have HO142 := n5_; have BK133 := n6_; have BK139 := n7_; have HB := n8_; have BK145 := n9_; have GW145 := n10_; have GE145 := n11_; have NB133_145 := n12_; have NB145_133 := n13_; have NB139_145 := n14_; have NB145_139 := n15_; clear n0_ n1_ n2_ n3_ n4_ n5_ n6_ n7_ n8_ n9_ n10_ n11_ n12_ n13_ n14_ n15_; clear hb hbox hg; obtain ⟨Ao52, co52, eo52⟩ := Kd.R_slice HO142.out; subst eo52; have hnb53 := NB145_133.out; have hnc53 := NB133_145.out; have hnb54 := NB145_139.out; have hnc54 := NB139_145.out; have hcz55_0 : w51.cell? ⟨gb145, 0, none⟩ = some (.slice none 0 0) := (blk_cell BK145.out 0).trans rfl; have hcz55_1 : w51.cell? ⟨gb145, 1, none⟩ = some (.int .i64 0) := (blk_cell BK145.out 1).trans rfl; have hfz55_0 := blk_frozen BK145.out 0; have hfz55_1 := blk_frozen BK145.out 1; obtain ⟨Ao56, co56, eo56⟩ := Kd.R_slice HO_12.out; subst eo56) | ((with_reducible refine gate_callee (f := 19) rfl ?_); refine goesL_ (some 113) rfl rfl Try.func19 (by kernel_rfl) rfl #[.slice Ao56 x12_3.length co56, .int .i64 (wrap64 (a2))] rfl aM ?_; (with_reducible refine (fact_Of.calls k3 _ _ x12_3 (wrap64 (a2)) t146 t149 t150 _ ?side1 ?side2 A37.out).mono ?_); (case side1 => refine (Kd.R_reads' (e := 44) (base := w.heap.size) (ok := fun k_ => ((((some k_ ≠ (.slice Ao25 x8_1.length co25 : Value).ownBlock ∧ some k_ ≠ (.slice Ao43 x9_2.length co43 : Value).ownBlock) ∧ some k_ ≠ (.slice Ao41 t128.length co41 : Value).ownBlock) ∧ some k_ ≠ (.slice Ao46 t134.length co46 : Value).ownBlock) ∧ some k_ ≠ (.slice Ao52 t140.length co52 : Value).ownBlock)) (n := x12_3.length) (c := co56) ?_).2.2; exact (by (with_reducible repeat (first | apply Kd.R_alloc | apply Kd.R_drewN | apply Kd.R_drew)); exact (Kd.R_mono (Kd.R_far (p := ⟨gb145, 1, none⟩) (Kd.R_far (p := ⟨gb145, 0, none⟩) (Kd.R_types HO_12.out BK145.out (by decide)) (fun _ hk => hk.2) (.slice Ao52 t140.length co52)) (fun _ hk => hk.2) (.int .i64 t143)) (fun _ h_ => h_.1)))); (case side2 => exact (Kd.R_reads' HO_12.out).2.1); rintro e w57 ⟨v147, rfl, ho0, hb⟩; refine ⟨_, rfl, ?_⟩; have n0_ := Aside0.mk (Kd.R_elder' (by (with_reducible repeat (first | apply Kd.R_alloc | apply Kd.R_drewN | apply Kd.R_drew)); exact (Kd.R_mono (Kd.R_far (p := ⟨gb145, 1, none⟩) (Kd.R_far (p := ⟨gb145, 0, none⟩) (Kd.R_types HO_8.out BK145.out (by decide)) (fun _ hk => hk.2) (.slice Ao52 t140.length co52)) (fun _ hk => hk.2) (.int .i64 t143)) (fun _ h_ => h_.1))) (Kd.R_base ho0) hb); have n1_ := Aside0.mk (Kd.R_elder' (by (with_reducible repeat (first | apply Kd.R_alloc | apply Kd.R_drewN | apply Kd.R_drew)); exact (Kd.R_mono (Kd.R_far (p := ⟨gb145, 1, none⟩) (Kd.R_far (p := ⟨gb145, 0, none⟩) (Kd.R_types HO_9.out BK145.out (by decide)) (fun _ hk => hk.2) (.slice Ao52 t140.length co52)) (fun _ hk => hk.2) (.int .i64 t143)) (fun _ h_ => h_.1))) (Kd.R_base ho0) hb); have n2_ := Aside0.mk (Kd.R_elder' (by (with_reducible repeat (first | apply Kd.R_alloc | apply Kd.R_drewN | apply Kd.R_drew)); exact (Kd.R_mono (Kd.R_far (p := ⟨gb145, 1, none⟩) (Kd.R_far (p := ⟨gb145, 0, none⟩) (Kd.R_types HO_12.out BK145.out (by decide)) (fun _ hk => hk.2) (.slice Ao52 t140.length co52)) (fun _ hk => hk.2) (.int .i64 t143)) (fun _ h_ => h_.1))) (Kd.R_base ho0) hb); have n3_ := Aside0.mk (Kd.R_elder' (by (with_reducible repeat (first | apply Kd.R_alloc | apply Kd.R_drewN | apply Kd.R_drew)); exact (Kd.R_mono (Kd.R_far (p := ⟨gb145, 1, none⟩) (Kd.R_far (p := ⟨gb145, 0, none⟩) (Kd.R_types HO130.out BK145.out (by decide)) (fun _ hk => hk.2) (.slice Ao52 t140.length co52)) (fun _ hk => hk.2) (.int .i64 t143)) (fun _ h_ => h_.1))) (Kd.R_base ho0) hb); have n4_ := Aside0.mk (Kd.R_elder' (by (with_reducible repeat (first | apply Kd.R_alloc | apply Kd.R_drewN | apply Kd.R_drew)); exact (Kd.R_mono (Kd.R_far (p := ⟨gb145, 1, none⟩) (Kd.R_far (p := ⟨gb145, 0, none⟩) (Kd.R_types HO136.out BK145.out (by decide)) (fun _ hk => hk.2) (.slice Ao52 t140.length co52)) (fun _ hk => hk.2) (.int .i64 t143)) (fun _ h_ => h_.1))) (Kd.R_base ho0) hb); have n5_ := Aside0.mk (Kd.R_elder' (by (with_reducible repeat (first | apply Kd.R_alloc | apply Kd.R_drewN | apply Kd.R_drew)); exact (Kd.R_mono (Kd.R_far (p := ⟨gb145, 1, none⟩) (Kd.R_far (p := ⟨gb145, 0, none⟩) (Kd.R_types HO142.out BK145.out (by decide)) (fun _ hk => hk.2) (.slice Ao52 t140.length co52)) (fun _ hk => hk.2) (.int .i64 t143)) (fun _ h_ => h_.1))) (Kd.R_base ho0) hb); have n6_ := Aside0.mk (Kd.R_lower (Kd.R_new' (Kd.R_new' (Kd.R_new' (Kd.R_new' (Kd.R_new' (Kd.R_new' ho0 (Kd.R_lt (by (with_reducible repeat (first | apply Kd.R_alloc | apply Kd.R_drewN | apply Kd.R_drew)); exact (Kd.R_mono (Kd.R_far (p := ⟨gb145, 1, none⟩) (Kd.R_far (p := ⟨gb145, 0, none⟩) (Kd.R_types HO_8.out BK145.out (by decide)) (fun _ hk => hk.2) (.slice Ao52 t140.length co52)) (fun _ hk => hk.2) (.int .i64 t143)) (fun _ h_ => h_.1))))) (Kd.R_lt (by (with_reducible repeat (first | apply Kd.R_alloc | apply Kd.R_drewN | apply Kd.R_drew)); exact (Kd.R_mono (Kd.R_far (p := ⟨gb145, 1, none⟩) (Kd.R_far (p := ⟨gb145, 0, none⟩) (Kd.R_types HO_9.out BK145.out (by decide)) (fun _ hk => hk.2) (.slice Ao52 t140.length co52)) (fun _ hk => hk.2) (.int .i64 t143)) (fun _ h_ => h_.1))))) (Kd.R_lt (by (with_reducible repeat (first | apply Kd.R_alloc | apply Kd.R_drewN | apply Kd.R_drew)); exact (Kd.R_mono (Kd.R_far (p := ⟨gb145, 1, none⟩) (Kd.R_far (p := ⟨gb145, 0, none⟩) (Kd.R_types HO_12.out BK145.out (by decide)) (fun _ hk => hk.2) (.slice Ao52 t140.length co52)) (fun _ hk => hk.2) (.int .i64 t143)) (fun _ h_ => h_.1))))) (Kd.R_lt (by (with_reducible repeat (first | apply Kd.R_alloc | apply Kd.R_drewN | apply Kd.R_drew)); exact (Kd.R_mono (Kd.R_far (p := ⟨gb145, 1, none⟩) (Kd.R_far (p := ⟨gb145, 0, none⟩) (Kd.R_types HO130.out BK145.out (by decide)) (fun _ hk => hk.2) (.slice Ao52 t140.length co52)) (fun _ hk => hk.2) (.int .i64 t143)) (fun _ h_ => h_.1))))) (Kd.R_lt (by (with_reducible repeat (first | apply Kd.R_alloc | apply Kd.R_drewN | apply Kd.R_drew)); exact (Kd.R_mono (Kd.R_far (p := ⟨gb145, 1, none⟩) (Kd.R_far (p := ⟨gb145, 0, none⟩) (Kd.R_types HO136.out BK145.out (by decide)) (fun _ hk => hk.2) (.slice Ao52 t140.length co52)) (fun _ hk => hk.2) (.int .i64 t143)) (fun _ h_ => h_.1))))) (Kd.R_lt (by (with_reducible repeat (first | apply Kd.R_alloc | apply Kd.R_drewN | apply Kd.R_drew)); exact (Kd.R_mono (Kd.R_far (p := ⟨gb145, 1, none⟩) (Kd.R_far (p := ⟨gb145, 0, none⟩) (Kd.R_types HO142.out BK145.out (by decide)) (fun _ hk => hk.2) (.slice Ao52 t140.length co52)) (fun _ hk => hk.2) (.int .i64 t143)) (fun _ h_ => h_.1))))) (below_size (hB3 HB.out GE133.out GE139.out GE145.out))); have n7_ := Aside0.mk (blk_below (g := gb133) (o := .cells #[.slice Ao41 t128.length co41, .int .i64 t131] 30 (0, 0)) (by (with_reducible repeat (first | refine blk_drewN ?_ _ | refine blk_drew ?_ | refine blk_alloc ?_ _)); refine blk_far ?_ NB133_145.out _; (with_reducible repeat (first | refine blk_drewN ?_ _ | refine blk_drew ?_ | refine blk_alloc ?_ _)); refine blk_far ?_ NB133_145.out _; (with_reducible repeat (first | refine blk_drewN ?_ _ | refine blk_drew ?_ | refine blk_alloc ?_ _)); exact BK133.out) hb); have n8_ := Aside0.mk (blk_below (g := gb139) (o := .cells #[.slice Ao46 t134.length co46, .int .i64 t137] 30 (0, 0)) (by (with_reducible repeat (first | refine blk_drewN ?_ _ | refine blk_drew ?_ | refine blk_alloc ?_ _)); refine blk_far ?_ NB139_145.out _; (with_reducible repeat (first | refine blk_drewN ?_ _ | refine blk_drew ?_ | refine blk_alloc ?_ _)); refine blk_far ?_ NB139_145.out _; (with_reducible repeat (first | refine blk_drewN ?_ _ | refine blk_drew ?_ | refine blk_alloc ?_ _)); exact BK139.out) hb); have n9_ := Aside0.mk (blk_below (g := gb145) (o := .cells #[.slice Ao52 t140.length co52, .int .i64 t143] 30 (0, 0)) (by (with_reducible repeat (first | refine blk_drewN ?_ _ | refine blk_drew ?_ | refine blk_alloc ?_ _)); refine blk_put (cs := #[.slice Ao52 t140.length co52, .int .i64 0]) ?_ 1 _ rfl; (with_reducible repeat (first | refine blk_drewN ?_ _ | refine blk_drew ?_ | refine blk_alloc ?_ _)); refine blk_put (cs := #[.slice none 0 0, .int .i64 0]) ?_ 0 _ rfl; (with_reducible repeat (first | refine blk_drewN ?_ _ | refine blk_drew ?_ | refine blk_alloc ?_ _)); exact BK145.out) hb); have n10_ := Aside0.mk (below_step (hB3 HB.out GE133.out GE139.out GE145.out) hb); clear HO_8 HO_9 HO_12 HO130 HO136 HO142 BK133 BK139 BK145 HB; have HO_8 := n0_; have HO_9 := n1_; have HO_12 := n2_; have HO130 := n3_; have HO136 := n4_; have HO142 := n5_; have HO148 := n6_; have BK133 := n7_; have BK139 := n8_; have BK145 := n9_; have HB := n10_; clear n0_ n1_ n2_ n3_ n4_ n5_ n6_ n7_ n8_ n9_ n10_; (try clear hb); (try clear ho0)) | ((with_reducible refine gate_dst (N := 20) rfl ?_); (try (refine gate_guard (by rfl) ?_; dsimp only)); refine box_event ?hg (N := 20) ?hd (cs := #[.slice none 0 0, .int .i64 0]) (t := 30) ?hr ?_; (case hd => rfl); (case hg => rfl); (case hr => first | (go_simp; done) | (go_simp; rfl)); intro gb151 hg w58 hbox hb; have n0_ := Aside0.mk (Kd.R_below (rK HO_8.out) hb); have n1_ := Aside0.mk (Kd.R_below (rK HO_9.out) hb); have n2_ := Aside0.mk (Kd.R_below (rK HO_12.out) hb); have n3_ := Aside0.mk (Kd.R_below (rK HO130.out) hb); have n4_ := Aside0.mk (Kd.R_below (rK HO136.out) hb); have n5_ := Aside0.mk (Kd.R_below (rK HO142.out) hb); have n6_ := Aside0.mk (Kd.R_below (rK HO148.out) hb); have n7_ := Aside0.mk (blk_below (g := gb133) (o := .cells #[.slice Ao41 t128.length co41, .int .i64 t131] 30 (0, 0)) (bK BK133.out) hb); have n8_ := Aside0.mk (blk_below (g := gb139) (o := .cells #[.slice Ao46 t134.length co46, .int .i64 t137] 30 (0, 0)) (bK BK139.out) hb); have n9_ := Aside0.mk (blk_below (g := gb145) (o := .cells #[.slice Ao52 t140.length co52, .int .i64 t143] 30 (0, 0)) (bK BK145.out) hb); have n10_ := Aside0.mk (below_step (hB3 HB.out GE133.out GE139.out GE145.out) hb); have n11_ := Aside0.mk (hbox); have n12_ := Aside0.mk ((by rw [hg]; exact (below_size (hB3 HB.out GE133.out GE139.out GE145.out)) : w.heap.size ≤ gb151)); have n13_ := Aside0.mk ((by rw [hg]; exact (below_size (hB3 HB.out GE133.out GE139.out GE145.out)) : w.heap.size ≤ gb151)); have n14_ := Aside0.mk ((by rw [hg]; exact Nat.ne_of_lt (blk_lt (g := gb133) (o := .cells #[.slice Ao41 t128.length co41, .int .i64 t131] 30 (0, 0)) (bK BK133.out)) : gb133 ≠ gb151)); have n15_ := Aside0.mk ((by rw [hg]; exact Nat.ne_of_gt (blk_lt (g := gb133) (o := .cells #[.slice Ao41 t128.length co41, .int .i64 t131] 30 (0, 0)) (bK BK133.out)) : gb151 ≠ gb133)); have n16_ := Aside0.mk ((by rw [hg]; exact Nat.ne_of_lt (blk_lt (g := gb139) (o := .cells #[.slice Ao46 t134.length co46, .int .i64 t137] 30 (0, 0)) (bK BK139.out)) : gb139 ≠ gb151)); have n17_ := Aside0.mk ((by rw [hg]; exact Nat.ne_of_gt (blk_lt (g := gb139) (o := .cells #[.slice Ao46 t134.length co46, .int .i64 t137] 30 (0, 0)) (bK BK139.out)) : gb151 ≠ gb139)); have n18_ := Aside0.mk ((by rw [hg]; exact Nat.ne_of_lt (blk_lt (g := gb145) (o := .cells #[.slice Ao52 t140.length co52, .int .i64 t143] 30 (0, 0)) (bK BK145.out)) : gb145 ≠ gb151)); have n19_ := Aside0.mk ((by rw [hg]; exact Nat.ne_of_gt (blk_lt (g := gb145) (o := .cells #[.slice Ao52 t140.length co52, .int .i64 t143] 30 (0, 0)) (bK BK145.out)) : gb151 ≠ gb145)); clear HO_8 HO_9 HO_12 HO130 HO136 HO142 HO148 BK133 BK139 BK145 HB; have HO_8 := n0_; have HO_9 := n1_; have HO_12 := n2_; have HO130 := n3_; have HO136 := n4_; have HO142 := n5_; have HO148 := n6_; have BK133 := n7_; have BK139 := n8_; have BK145 := n9_; have HB := n10_; have BK151 := n11_; have GW151 := n12_; have GE151 := n13_; have NB133_151 := n14_; have NB151_133 := n15_; have NB139_151 := n16_; have NB151_139 := n17_; have NB145_151 := n18_; have NB151_145 := n19_; clear n0_ n1_ n2_ n3_ n4_ n5_ n6_ n7_ n8_ n9_ n10_ n11_ n12_ n13_ n14_ n15_ n16_ n17_ n18_ n19_; clear hb hbox hg; obtain ⟨Ao59, co59, eo59⟩ := Kd.R_slice HO148.out; subst eo59; have hnb60 := NB151_133.out; have hnc60 := NB133_151.out; have hnb61 := NB151_139.out; have hnc61 := NB139_151.out; have hnb62 := NB151_145.out; have hnc62 := NB145_151.out; have hcz63_0 : w58.cell? ⟨gb151, 0, none⟩ = some (.slice none 0 0) := (blk_cell BK151.out 0).trans rfl; have hcz63_1 : w58.cell? ⟨gb151, 1, none⟩ = some (.int .i64 0) := (blk_cell BK151.out 1).trans rfl; have hfz63_0 := blk_frozen BK151.out 0; have hfz63_1 := blk_frozen BK151.out 1))
            (try simp only [Act.put, List.setIfInBounds_toArray, List.set_cons_zero, List.set_cons_succ])
            go_cut [6] (fun v6 wc => ∃ (kq : Nat) (x6_37 : Bool), v6 = .bool x6_37 ∧ Aside0 (timeboundlaw11_FactOrder.j3 kq x6_37 = some r) ∧ Aside0 (kq ≤ k3) ∧ Aside0 (Kd.R k44 44 wc w.heap.size (fun k_ => some k_ ≠ ((.slice Ao46 t134.length co46) : Value).ownBlock ∧ some k_ ≠ ((.slice Ao52 t140.length co52) : Value).ownBlock ∧ some k_ ≠ ((.slice Ao59 t146.length co59) : Value).ownBlock) (.slice Ao41 t128.length co41) t128) ∧ Aside0 (Kd.R k44 44 wc w.heap.size (fun k_ => some k_ ≠ ((.slice Ao41 t128.length co41) : Value).ownBlock ∧ some k_ ≠ ((.slice Ao52 t140.length co52) : Value).ownBlock ∧ some k_ ≠ ((.slice Ao59 t146.length co59) : Value).ownBlock) (.slice Ao46 t134.length co46) t134) ∧ Aside0 (Kd.R k44 44 wc w.heap.size (fun k_ => some k_ ≠ ((.slice Ao41 t128.length co41) : Value).ownBlock ∧ some k_ ≠ ((.slice Ao46 t134.length co46) : Value).ownBlock ∧ some k_ ≠ ((.slice Ao59 t146.length co59) : Value).ownBlock) (.slice Ao52 t140.length co52) t140) ∧ Aside0 (Kd.R k44 44 wc w.heap.size (fun k_ => some k_ ≠ ((.slice Ao41 t128.length co41) : Value).ownBlock ∧ some k_ ≠ ((.slice Ao46 t134.length co46) : Value).ownBlock ∧ some k_ ≠ ((.slice Ao52 t140.length co52) : Value).ownBlock) (.slice Ao59 t146.length co59) t146) ∧ Aside0 (wc.heap[gb133]? = some (.cells #[(.slice Ao41 t128.length co41), .int .i64 t131] 30 (0, 0))) ∧ Aside0 (wc.heap[gb139]? = some (.cells #[(.slice Ao46 t134.length co46), .int .i64 t137] 30 (0, 0))) ∧ Aside0 (wc.heap[gb145]? = some (.cells #[(.slice Ao52 t140.length co52), .int .i64 t143] 30 (0, 0))) ∧ Aside0 (wc.heap[gb151]? = some (.cells #[(.slice Ao59 t146.length co59), .int .i64 t149] 30 (0, 0))) ∧ Aside0 (Below w.heap.size w wc))
            case first =>
             have H := HC38.out
             clear HC38
             by_cases c64 : t132 = 0
             ·rw [if_pos c64] at H
              have c64b0 : (t132 == 0) = true := beq_iff_eq.mpr c64
              have c64b1 : (t132 != 0) = false := bne_eq_false_iff_eq.mpr c64
              clear c64
              (first | rw [c64b0] | (simp only [i64_w, i32_w]; rw [c64b0]) | skip)
              by_cases c65 : t138 = 0
              ·rw [if_pos c65] at H
               have c65b0 : (t138 == 0) = true := beq_iff_eq.mpr c65
               have c65b1 : (t138 != 0) = false := bne_eq_false_iff_eq.mpr c65
               clear c65
               by_cases c66 : t144 = 0
               ·rw [if_pos c66] at H
                have c66b0 : (t144 == 0) = true := beq_iff_eq.mpr c66
                have c66b1 : (t144 != 0) = false := bne_eq_false_iff_eq.mpr c66
                clear c66
                by_cases c67 : t150 = 0
                ·rw [if_pos c67] at H
                 have c67b0 : (t150 == 0) = true := beq_iff_eq.mpr c67
                 have c67b1 : (t150 != 0) = false := bne_eq_false_iff_eq.mpr c67
                 clear c67
                 replace H := Option.bind_eq_some_iff.mp H
                 obtain ⟨t152, A680, H⟩ := H
                 replace H : (if t152 = 0 then ((timeboundref11_Same.f k3 t128 t131 t134 t137).bind fun t153 => (if t153 = true then ((timeboundref11_Same.f k3 t128 t131 t140 t143).bind fun t154 => (if t154 = true then (if (t146.length : Int) = 0 then (if t149 = (wrap64 (a2)) then ((timeboundlaw11_awake.f k3).bind fun t155 => (timeboundlaw11_FactOrder.j3 k3 t155)) else (timeboundlaw11_FactOrder.j3 k3 false)) else (timeboundlaw11_FactOrder.j3 k3 false)) else (timeboundlaw11_FactOrder.j3 k3 false))) else (timeboundlaw11_FactOrder.j3 k3 false))) else (timeboundlaw11_FactOrder.j3 k3 false)) = some r := H
                 have A68 := Aside0.mk A680
                 clear A680
                 by_cases c69 : t152 = 0
                 ·rw [if_pos c69] at H
                  have c69b0 : (t152 == 0) = true := beq_iff_eq.mpr c69
                  have c69b1 : (t152 != 0) = false := bne_eq_false_iff_eq.mpr c69
                  clear c69
                  replace H := Option.bind_eq_some_iff.mp H
                  obtain ⟨t153, A700, H⟩ := H
                  replace H : (if t153 = true then ((timeboundref11_Same.f k3 t128 t131 t140 t143).bind fun t154 => (if t154 = true then (if (t146.length : Int) = 0 then (if t149 = (wrap64 (a2)) then ((timeboundlaw11_awake.f k3).bind fun t155 => (timeboundlaw11_FactOrder.j3 k3 t155)) else (timeboundlaw11_FactOrder.j3 k3 false)) else (timeboundlaw11_FactOrder.j3 k3 false)) else (timeboundlaw11_FactOrder.j3 k3 false))) else (timeboundlaw11_FactOrder.j3 k3 false)) = some r := H
                  have A70 := Aside0.mk A700
                  clear A700
                  by_cases c71 : t153 = true
                  ·subst c71
                   have H1 : ((timeboundref11_Same.f k3 t128 t131 t140 t143).bind fun t154 => (if t154 = true then (if (t146.length : Int) = 0 then (if t149 = (wrap64 (a2)) then ((timeboundlaw11_awake.f k3).bind fun t155 => (timeboundlaw11_FactOrder.j3 k3 t155)) else (timeboundlaw11_FactOrder.j3 k3 false)) else (timeboundlaw11_FactOrder.j3 k3 false)) else (timeboundlaw11_FactOrder.j3 k3 false))) = some r := by rw [if_pos rfl] at H; exact H
                   clear H
                   have H := H1
                   clear H1
                   replace H := Option.bind_eq_some_iff.mp H
                   obtain ⟨t154, A720, H⟩ := H
                   replace H : (if t154 = true then (if (t146.length : Int) = 0 then (if t149 = (wrap64 (a2)) then ((timeboundlaw11_awake.f k3).bind fun t155 => (timeboundlaw11_FactOrder.j3 k3 t155)) else (timeboundlaw11_FactOrder.j3 k3 false)) else (timeboundlaw11_FactOrder.j3 k3 false)) else (timeboundlaw11_FactOrder.j3 k3 false)) = some r := H
                   have A72 := Aside0.mk A720
                   clear A720
                   by_cases c73 : t154 = true
                   ·subst c73
                    have H1 : (if (t146.length : Int) = 0 then (if t149 = (wrap64 (a2)) then ((timeboundlaw11_awake.f k3).bind fun t155 => (timeboundlaw11_FactOrder.j3 k3 t155)) else (timeboundlaw11_FactOrder.j3 k3 false)) else (timeboundlaw11_FactOrder.j3 k3 false)) = some r := by rw [if_pos rfl] at H; exact H
                    clear H
                    have H := H1
                    clear H1
                    by_cases c74 : (t146.length : Int) = 0
                    ·rw [if_pos c74] at H
                     have c74b0 : ((t146.length : Int) == 0) = true := beq_iff_eq.mpr c74
                     have c74b1 : ((t146.length : Int) != 0) = false := bne_eq_false_iff_eq.mpr c74
                     clear c74
                     by_cases c75 : t149 = (wrap64 (a2))
                     ·rw [if_pos c75] at H
                      have c75b0 : (t149 == (wrap64 (a2))) = true := beq_iff_eq.mpr c75
                      have c75b1 : (t149 != (wrap64 (a2))) = false := bne_eq_false_iff_eq.mpr c75
                      clear c75
                      replace H := Option.bind_eq_some_iff.mp H
                      obtain ⟨t155, A760, H⟩ := H
                      replace H : (timeboundlaw11_FactOrder.j3 k3 t155) = some r := H
                      have A76 := Aside0.mk A760
                      clear A760
                      have H' := Aside0.mk H
                      clear H
                      have hnb77 := NB133_139.out
                      have hnc77 := NB139_133.out
                      have hnb78 := NB133_145.out
                      have hnc78 := NB145_133.out
                      have hnb79 := NB133_151.out
                      have hnc79 := NB151_133.out
                      have hcz80_0 : w58.cell? ⟨gb133, 0, none⟩ = some (.slice Ao41 t128.length co41) := (blk_cell BK133.out 0).trans rfl
                      have hcz80_1 : w58.cell? ⟨gb133, 1, none⟩ = some (.int .i64 t131) := (blk_cell BK133.out 1).trans rfl
                      have hfz80_0 := blk_frozen BK133.out 0
                      have hfz80_1 := blk_frozen BK133.out 1
                      go_wp2_with (first | (go_at_call 18; (with_reducible refine (fact_Check.calls k3 _ _ t128 t131 t152 _ ?side1 ?side2 A68.out).mono ?_); (case side1 => refine (Kd.R_reads' (e := 44) (base := w.heap.size) (ok := fun k_ => ((((((True ∧ some k_ ≠ (.slice Ao25 x8_1.length co25 : Value).ownBlock) ∧ some k_ ≠ (.slice Ao43 x9_2.length co43 : Value).ownBlock) ∧ some k_ ≠ (.slice Ao56 x12_3.length co56 : Value).ownBlock) ∧ some k_ ≠ (.slice Ao46 t134.length co46 : Value).ownBlock) ∧ some k_ ≠ (.slice Ao52 t140.length co52 : Value).ownBlock) ∧ some k_ ≠ (.slice Ao59 t146.length co59 : Value).ownBlock)) (n := t128.length) (c := co41) ?_).2.2; exact (by (with_reducible repeat (first | apply Kd.R_alloc | apply Kd.R_drewN | apply Kd.R_drew)); exact (Kd.R_mono (Kd.R_far (p := ⟨gb151, 1, none⟩) (Kd.R_far (p := ⟨gb151, 0, none⟩) (Kd.R_types HO130.out BK151.out (by decide)) (fun _ hk => hk.2) (.slice Ao59 t146.length co59)) (fun _ hk => hk.2) (.int .i64 t149)) (fun _ h_ => h_.1)))); (case side2 => exact (Kd.R_reads' HO130.out).2.1); rintro e w81 ⟨rfl, hb⟩; have n0_ := Aside0.mk (Kd.R_below (by (with_reducible repeat (first | apply Kd.R_alloc | apply Kd.R_drewN | apply Kd.R_drew)); exact (Kd.R_mono (Kd.R_far (p := ⟨gb151, 1, none⟩) (Kd.R_far (p := ⟨gb151, 0, none⟩) (Kd.R_types HO_8.out BK151.out (by decide)) (fun _ hk => hk.2) (.slice Ao59 t146.length co59)) (fun _ hk => hk.2) (.int .i64 t149)) (fun _ h_ => h_.1))) hb); have n1_ := Aside0.mk (Kd.R_below (by (with_reducible repeat (first | apply Kd.R_alloc | apply Kd.R_drewN | apply Kd.R_drew)); exact (Kd.R_mono (Kd.R_far (p := ⟨gb151, 1, none⟩) (Kd.R_far (p := ⟨gb151, 0, none⟩) (Kd.R_types HO_9.out BK151.out (by decide)) (fun _ hk => hk.2) (.slice Ao59 t146.length co59)) (fun _ hk => hk.2) (.int .i64 t149)) (fun _ h_ => h_.1))) hb); have n2_ := Aside0.mk (Kd.R_below (by (with_reducible repeat (first | apply Kd.R_alloc | apply Kd.R_drewN | apply Kd.R_drew)); exact (Kd.R_mono (Kd.R_far (p := ⟨gb151, 1, none⟩) (Kd.R_far (p := ⟨gb151, 0, none⟩) (Kd.R_types HO_12.out BK151.out (by decide)) (fun _ hk => hk.2) (.slice Ao59 t146.length co59)) (fun _ hk => hk.2) (.int .i64 t149)) (fun _ h_ => h_.1))) hb); have n3_ := Aside0.mk (Kd.R_below (by (with_reducible repeat (first | apply Kd.R_alloc | apply Kd.R_drewN | apply Kd.R_drew)); exact (Kd.R_mono (Kd.R_far (p := ⟨gb151, 1, none⟩) (Kd.R_far (p := ⟨gb151, 0, none⟩) (Kd.R_types HO130.out BK151.out (by decide)) (fun _ hk => hk.2) (.slice Ao59 t146.length co59)) (fun _ hk => hk.2) (.int .i64 t149)) (fun _ h_ => h_.1))) hb); have n4_ := Aside0.mk (Kd.R_below (by (with_reducible repeat (first | apply Kd.R_alloc | apply Kd.R_drewN | apply Kd.R_drew)); exact (Kd.R_mono (Kd.R_far (p := ⟨gb151, 1, none⟩) (Kd.R_far (p := ⟨gb151, 0, none⟩) (Kd.R_types HO136.out BK151.out (by decide)) (fun _ hk => hk.2) (.slice Ao59 t146.length co59)) (fun _ hk => hk.2) (.int .i64 t149)) (fun _ h_ => h_.1))) hb); have n5_ := Aside0.mk (Kd.R_below (by (with_reducible repeat (first | apply Kd.R_alloc | apply Kd.R_drewN | apply Kd.R_drew)); exact (Kd.R_mono (Kd.R_far (p := ⟨gb151, 1, none⟩) (Kd.R_far (p := ⟨gb151, 0, none⟩) (Kd.R_types HO142.out BK151.out (by decide)) (fun _ hk => hk.2) (.slice Ao59 t146.length co59)) (fun _ hk => hk.2) (.int .i64 t149)) (fun _ h_ => h_.1))) hb); have n6_ := Aside0.mk (Kd.R_below (by (with_reducible repeat (first | apply Kd.R_alloc | apply Kd.R_drewN | apply Kd.R_drew)); exact (Kd.R_mono (Kd.R_far (p := ⟨gb151, 1, none⟩) (Kd.R_far (p := ⟨gb151, 0, none⟩) (Kd.R_types HO148.out BK151.out (by decide)) (fun _ hk => hk.2) (.slice Ao59 t146.length co59)) (fun _ hk => hk.2) (.int .i64 t149)) (fun _ h_ => h_.1))) hb); have n7_ := Aside0.mk (blk_below (g := gb133) (o := .cells #[.slice Ao41 t128.length co41, .int .i64 t131] 30 (0, 0)) (by (with_reducible repeat (first | refine blk_drewN ?_ _ | refine blk_drew ?_ | refine blk_alloc ?_ _)); refine blk_far ?_ NB133_151.out _; (with_reducible repeat (first | refine blk_drewN ?_ _ | refine blk_drew ?_ | refine blk_alloc ?_ _)); refine blk_far ?_ NB133_151.out _; (with_reducible repeat (first | refine blk_drewN ?_ _ | refine blk_drew ?_ | refine blk_alloc ?_ _)); exact BK133.out) hb); have n8_ := Aside0.mk (blk_below (g := gb139) (o := .cells #[.slice Ao46 t134.length co46, .int .i64 t137] 30 (0, 0)) (by (with_reducible repeat (first | refine blk_drewN ?_ _ | refine blk_drew ?_ | refine blk_alloc ?_ _)); refine blk_far ?_ NB139_151.out _; (with_reducible repeat (first | refine blk_drewN ?_ _ | refine blk_drew ?_ | refine blk_alloc ?_ _)); refine blk_far ?_ NB139_151.out _; (with_reducible repeat (first | refine blk_drewN ?_ _ | refine blk_drew ?_ | refine blk_alloc ?_ _)); exact BK139.out) hb); have n9_ := Aside0.mk (blk_below (g := gb145) (o := .cells #[.slice Ao52 t140.length co52, .int .i64 t143] 30 (0, 0)) (by (with_reducible repeat (first | refine blk_drewN ?_ _ | refine blk_drew ?_ | refine blk_alloc ?_ _)); refine blk_far ?_ NB145_151.out _; (with_reducible repeat (first | refine blk_drewN ?_ _ | refine blk_drew ?_ | refine blk_alloc ?_ _)); refine blk_far ?_ NB145_151.out _; (with_reducible repeat (first | refine blk_drewN ?_ _ | refine blk_drew ?_ | refine blk_alloc ?_ _)); exact BK145.out) hb); have n10_ := Aside0.mk (blk_below (g := gb151) (o := .cells #[.slice Ao59 t146.length co59, .int .i64 t149] 30 (0, 0)) (by (with_reducible repeat (first | refine blk_drewN ?_ _ | refine blk_drew ?_ | refine blk_alloc ?_ _)); refine blk_put (cs := #[.slice Ao59 t146.length co59, .int .i64 0]) ?_ 1 _ rfl; (with_reducible repeat (first | refine blk_drewN ?_ _ | refine blk_drew ?_ | refine blk_alloc ?_ _)); refine blk_put (cs := #[.slice none 0 0, .int .i64 0]) ?_ 0 _ rfl; (with_reducible repeat (first | refine blk_drewN ?_ _ | refine blk_drew ?_ | refine blk_alloc ?_ _)); exact BK151.out) hb); have n11_ := Aside0.mk (below_step (hB4 HB.out GE133.out GE139.out GE145.out GE151.out) hb); clear HO_8 HO_9 HO_12 HO130 HO136 HO142 HO148 BK133 BK139 BK145 BK151 HB; have HO_8 := n0_; have HO_9 := n1_; have HO_12 := n2_; have HO130 := n3_; have HO136 := n4_; have HO142 := n5_; have HO148 := n6_; have BK133 := n7_; have BK139 := n8_; have BK145 := n9_; have BK151 := n10_; have HB := n11_; clear n0_ n1_ n2_ n3_ n4_ n5_ n6_ n7_ n8_ n9_ n10_ n11_; (try clear hb); (try clear hk); have hcz82_0 : w81.cell? ⟨gb133, 0, none⟩ = some (.slice Ao41 t128.length co41) := (blk_cell BK133.out 0).trans rfl; have hcz82_1 : w81.cell? ⟨gb133, 1, none⟩ = some (.int .i64 t131) := (blk_cell BK133.out 1).trans rfl; have hfz82_0 := blk_frozen BK133.out 0; have hfz82_1 := blk_frozen BK133.out 1; have hnb83 := NB139_145.out; have hnc83 := NB145_139.out; have hnb84 := NB139_151.out; have hnc84 := NB151_139.out; have hcz85_0 : w81.cell? ⟨gb139, 0, none⟩ = some (.slice Ao46 t134.length co46) := (blk_cell BK139.out 0).trans rfl; have hcz85_1 : w81.cell? ⟨gb139, 1, none⟩ = some (.int .i64 t137) := (blk_cell BK139.out 1).trans rfl; have hfz85_0 := blk_frozen BK139.out 0; have hfz85_1 := blk_frozen BK139.out 1) | (go_at_call 20; (with_reducible refine (timeboundref11_Same.calls k3 _ _ t128 t131 _ _ t134 t137 true _ ?side1 ?side2 ?side3 ?side4 A70.out).mono ?_); (case side1 => exact cK (Kd.R_reads' HO130.out).2.2); (case side2 => exact (Kd.R_reads' HO130.out).2.1); (case side3 => exact cK (Kd.R_reads' HO136.out).2.2); (case side4 => exact (Kd.R_reads' HO136.out).2.1); rintro e w86 ⟨rfl, hb⟩; have n0_ := Aside0.mk (Kd.R_below (rK HO_8.out) hb); have n1_ := Aside0.mk (Kd.R_below (rK HO_9.out) hb); have n2_ := Aside0.mk (Kd.R_below (rK HO_12.out) hb); have n3_ := Aside0.mk (Kd.R_below (rK HO130.out) hb); have n4_ := Aside0.mk (Kd.R_below (rK HO136.out) hb); have n5_ := Aside0.mk (Kd.R_below (rK HO142.out) hb); have n6_ := Aside0.mk (Kd.R_below (rK HO148.out) hb); have n7_ := Aside0.mk (blk_below (g := gb133) (o := .cells #[.slice Ao41 t128.length co41, .int .i64 t131] 30 (0, 0)) (bK BK133.out) hb); have n8_ := Aside0.mk (blk_below (g := gb139) (o := .cells #[.slice Ao46 t134.length co46, .int .i64 t137] 30 (0, 0)) (bK BK139.out) hb); have n9_ := Aside0.mk (blk_below (g := gb145) (o := .cells #[.slice Ao52 t140.length co52, .int .i64 t143] 30 (0, 0)) (bK BK145.out) hb); have n10_ := Aside0.mk (blk_below (g := gb151) (o := .cells #[.slice Ao59 t146.length co59, .int .i64 t149] 30 (0, 0)) (bK BK151.out) hb); have n11_ := Aside0.mk (below_step (hB4 HB.out GE133.out GE139.out GE145.out GE151.out) hb); clear HO_8 HO_9 HO_12 HO130 HO136 HO142 HO148 BK133 BK139 BK145 BK151 HB; have HO_8 := n0_; have HO_9 := n1_; have HO_12 := n2_; have HO130 := n3_; have HO136 := n4_; have HO142 := n5_; have HO148 := n6_; have BK133 := n7_; have BK139 := n8_; have BK145 := n9_; have BK151 := n10_; have HB := n11_; clear n0_ n1_ n2_ n3_ n4_ n5_ n6_ n7_ n8_ n9_ n10_ n11_; (try clear hb); have hcz87_0 : w86.cell? ⟨gb133, 0, none⟩ = some (.slice Ao41 t128.length co41) := (blk_cell BK133.out 0).trans rfl; have hcz87_1 : w86.cell? ⟨gb133, 1, none⟩ = some (.int .i64 t131) := (blk_cell BK133.out 1).trans rfl; have hfz87_0 := blk_frozen BK133.out 0; have hfz87_1 := blk_frozen BK133.out 1; have hnb88 := NB145_151.out; have hnc88 := NB151_145.out; have hcz89_0 : w86.cell? ⟨gb145, 0, none⟩ = some (.slice Ao52 t140.length co52) := (blk_cell BK145.out 0).trans rfl; have hcz89_1 : w86.cell? ⟨gb145, 1, none⟩ = some (.int .i64 t143) := (blk_cell BK145.out 1).trans rfl; have hfz89_0 := blk_frozen BK145.out 0; have hfz89_1 := blk_frozen BK145.out 1) | (go_at_call 20; (with_reducible refine (timeboundref11_Same.calls k3 _ _ t128 t131 _ _ t140 t143 true _ ?side1 ?side2 ?side3 ?side4 A72.out).mono ?_); (case side1 => exact cK (Kd.R_reads' HO130.out).2.2); (case side2 => exact (Kd.R_reads' HO130.out).2.1); (case side3 => exact cK (Kd.R_reads' HO142.out).2.2); (case side4 => exact (Kd.R_reads' HO142.out).2.1); rintro e w90 ⟨rfl, hb⟩; have n0_ := Aside0.mk (Kd.R_below (rK HO_8.out) hb); have n1_ := Aside0.mk (Kd.R_below (rK HO_9.out) hb); have n2_ := Aside0.mk (Kd.R_below (rK HO_12.out) hb); have n3_ := Aside0.mk (Kd.R_below (rK HO130.out) hb); have n4_ := Aside0.mk (Kd.R_below (rK HO136.out) hb); have n5_ := Aside0.mk (Kd.R_below (rK HO142.out) hb); have n6_ := Aside0.mk (Kd.R_below (rK HO148.out) hb); have n7_ := Aside0.mk (blk_below (g := gb133) (o := .cells #[.slice Ao41 t128.length co41, .int .i64 t131] 30 (0, 0)) (bK BK133.out) hb); have n8_ := Aside0.mk (blk_below (g := gb139) (o := .cells #[.slice Ao46 t134.length co46, .int .i64 t137] 30 (0, 0)) (bK BK139.out) hb); have n9_ := Aside0.mk (blk_below (g := gb145) (o := .cells #[.slice Ao52 t140.length co52, .int .i64 t143] 30 (0, 0)) (bK BK145.out) hb); have n10_ := Aside0.mk (blk_below (g := gb151) (o := .cells #[.slice Ao59 t146.length co59, .int .i64 t149] 30 (0, 0)) (bK BK151.out) hb); have n11_ := Aside0.mk (below_step (hB4 HB.out GE133.out GE139.out GE145.out GE151.out) hb); clear HO_8 HO_9 HO_12 HO130 HO136 HO142 HO148 BK133 BK139 BK145 BK151 HB; have HO_8 := n0_; have HO_9 := n1_; have HO_12 := n2_; have HO130 := n3_; have HO136 := n4_; have HO142 := n5_; have HO148 := n6_; have BK133 := n7_; have BK139 := n8_; have BK145 := n9_; have BK151 := n10_; have HB := n11_; clear n0_ n1_ n2_ n3_ n4_ n5_ n6_ n7_ n8_ n9_ n10_ n11_; (try clear hb); have hcz91_0 : w90.cell? ⟨gb151, 0, none⟩ = some (.slice Ao59 t146.length co59) := (blk_cell BK151.out 0).trans rfl; have hcz91_1 : w90.cell? ⟨gb151, 1, none⟩ = some (.int .i64 t149) := (blk_cell BK151.out 1).trans rfl; have hfz91_0 := blk_frozen BK151.out 0; have hfz91_1 := blk_frozen BK151.out 1) | (go_at_call 9; (with_reducible refine (timeboundlaw11_awake.calls k3  t155 _ A76.out).mono ?_); rintro e w92 ⟨rfl, hb⟩; have n0_ := Aside0.mk (Kd.R_below (rK HO_8.out) hb); have n1_ := Aside0.mk (Kd.R_below (rK HO_9.out) hb); have n2_ := Aside0.mk (Kd.R_below (rK HO_12.out) hb); have n3_ := Aside0.mk (Kd.R_below (rK HO130.out) hb); have n4_ := Aside0.mk (Kd.R_below (rK HO136.out) hb); have n5_ := Aside0.mk (Kd.R_below (rK HO142.out) hb); have n6_ := Aside0.mk (Kd.R_below (rK HO148.out) hb); have n7_ := Aside0.mk (blk_below (g := gb133) (o := .cells #[.slice Ao41 t128.length co41, .int .i64 t131] 30 (0, 0)) (bK BK133.out) hb); have n8_ := Aside0.mk (blk_below (g := gb139) (o := .cells #[.slice Ao46 t134.length co46, .int .i64 t137] 30 (0, 0)) (bK BK139.out) hb); have n9_ := Aside0.mk (blk_below (g := gb145) (o := .cells #[.slice Ao52 t140.length co52, .int .i64 t143] 30 (0, 0)) (bK BK145.out) hb); have n10_ := Aside0.mk (blk_below (g := gb151) (o := .cells #[.slice Ao59 t146.length co59, .int .i64 t149] 30 (0, 0)) (bK BK151.out) hb); have n11_ := Aside0.mk (below_step (hB4 HB.out GE133.out GE139.out GE145.out GE151.out) hb); clear HO_8 HO_9 HO_12 HO130 HO136 HO142 HO148 BK133 BK139 BK145 BK151 HB; have HO_8 := n0_; have HO_9 := n1_; have HO_12 := n2_; have HO130 := n3_; have HO136 := n4_; have HO142 := n5_; have HO148 := n6_; have BK133 := n7_; have BK139 := n8_; have BK145 := n9_; have BK151 := n10_; have HB := n11_; clear n0_ n1_ n2_ n3_ n4_ n5_ n6_ n7_ n8_ n9_ n10_ n11_; (try clear hb)))
                      go_meet
                      case rel => exact ⟨_, (t155), rS, H', ⟨by have := HK1.out; have := HK2.out; have := HK3.out; first | omega | exact Nat.le_refl _⟩, ⟨by (with_reducible repeat (first | apply Kd.R_alloc | apply Kd.R_drewN | apply Kd.R_drew)); exact Kd.R_mono HO130.out (fun _ hk => ⟨hk.1.1.2, ⟨hk.1.2, hk.2⟩⟩)⟩, ⟨by (with_reducible repeat (first | apply Kd.R_alloc | apply Kd.R_drewN | apply Kd.R_drew)); exact Kd.R_mono HO136.out (fun _ hk => ⟨hk.1.1.2, ⟨hk.1.2, hk.2⟩⟩)⟩, ⟨by (with_reducible repeat (first | apply Kd.R_alloc | apply Kd.R_drewN | apply Kd.R_drew)); exact Kd.R_mono HO142.out (fun _ hk => ⟨hk.1.1.2, ⟨hk.1.2, hk.2⟩⟩)⟩, ⟨by (with_reducible repeat (first | apply Kd.R_alloc | apply Kd.R_drewN | apply Kd.R_drew)); exact Kd.R_mono HO148.out (fun _ hk => ⟨hk.1.1.2, ⟨hk.1.2, hk.2⟩⟩)⟩, ⟨bK BK133.out⟩, ⟨bK BK139.out⟩, ⟨bK BK145.out⟩, ⟨bK BK151.out⟩, ⟨hB4 HB.out GE133.out GE139.out GE145.out GE151.out⟩⟩
                     ·rw [if_neg c75] at H
                      have c75b0 : (t149 == (wrap64 (a2))) = false := beq_eq_false_iff_ne.mpr c75
                      have c75b1 : (t149 != (wrap64 (a2))) = true := bne_iff_ne.mpr c75
                      have H' := Aside0.mk H
                      clear H
                      have hnb93 := NB133_139.out
                      have hnc93 := NB139_133.out
                      have hnb94 := NB133_145.out
                      have hnc94 := NB145_133.out
                      have hnb95 := NB133_151.out
                      have hnc95 := NB151_133.out
                      have hcz96_0 : w58.cell? ⟨gb133, 0, none⟩ = some (.slice Ao41 t128.length co41) := (blk_cell BK133.out 0).trans rfl
                      have hcz96_1 : w58.cell? ⟨gb133, 1, none⟩ = some (.int .i64 t131) := (blk_cell BK133.out 1).trans rfl
                      have hfz96_0 := blk_frozen BK133.out 0
                      have hfz96_1 := blk_frozen BK133.out 1
                      go_wp2_with (first | (go_at_call 18; (with_reducible refine (fact_Check.calls k3 _ _ t128 t131 t152 _ ?side1 ?side2 A68.out).mono ?_); (case side1 => refine (Kd.R_reads' (e := 44) (base := w.heap.size) (ok := fun k_ => ((((((True ∧ some k_ ≠ (.slice Ao25 x8_1.length co25 : Value).ownBlock) ∧ some k_ ≠ (.slice Ao43 x9_2.length co43 : Value).ownBlock) ∧ some k_ ≠ (.slice Ao56 x12_3.length co56 : Value).ownBlock) ∧ some k_ ≠ (.slice Ao46 t134.length co46 : Value).ownBlock) ∧ some k_ ≠ (.slice Ao52 t140.length co52 : Value).ownBlock) ∧ some k_ ≠ (.slice Ao59 t146.length co59 : Value).ownBlock)) (n := t128.length) (c := co41) ?_).2.2; exact (by (with_reducible repeat (first | apply Kd.R_alloc | apply Kd.R_drewN | apply Kd.R_drew)); exact (Kd.R_mono (Kd.R_far (p := ⟨gb151, 1, none⟩) (Kd.R_far (p := ⟨gb151, 0, none⟩) (Kd.R_types HO130.out BK151.out (by decide)) (fun _ hk => hk.2) (.slice Ao59 t146.length co59)) (fun _ hk => hk.2) (.int .i64 t149)) (fun _ h_ => h_.1)))); (case side2 => exact (Kd.R_reads' HO130.out).2.1); rintro e w97 ⟨rfl, hb⟩; have n0_ := Aside0.mk (Kd.R_below (by (with_reducible repeat (first | apply Kd.R_alloc | apply Kd.R_drewN | apply Kd.R_drew)); exact (Kd.R_mono (Kd.R_far (p := ⟨gb151, 1, none⟩) (Kd.R_far (p := ⟨gb151, 0, none⟩) (Kd.R_types HO_8.out BK151.out (by decide)) (fun _ hk => hk.2) (.slice Ao59 t146.length co59)) (fun _ hk => hk.2) (.int .i64 t149)) (fun _ h_ => h_.1))) hb); have n1_ := Aside0.mk (Kd.R_below (by (with_reducible repeat (first | apply Kd.R_alloc | apply Kd.R_drewN | apply Kd.R_drew)); exact (Kd.R_mono (Kd.R_far (p := ⟨gb151, 1, none⟩) (Kd.R_far (p := ⟨gb151, 0, none⟩) (Kd.R_types HO_9.out BK151.out (by decide)) (fun _ hk => hk.2) (.slice Ao59 t146.length co59)) (fun _ hk => hk.2) (.int .i64 t149)) (fun _ h_ => h_.1))) hb); have n2_ := Aside0.mk (Kd.R_below (by (with_reducible repeat (first | apply Kd.R_alloc | apply Kd.R_drewN | apply Kd.R_drew)); exact (Kd.R_mono (Kd.R_far (p := ⟨gb151, 1, none⟩) (Kd.R_far (p := ⟨gb151, 0, none⟩) (Kd.R_types HO_12.out BK151.out (by decide)) (fun _ hk => hk.2) (.slice Ao59 t146.length co59)) (fun _ hk => hk.2) (.int .i64 t149)) (fun _ h_ => h_.1))) hb); have n3_ := Aside0.mk (Kd.R_below (by (with_reducible repeat (first | apply Kd.R_alloc | apply Kd.R_drewN | apply Kd.R_drew)); exact (Kd.R_mono (Kd.R_far (p := ⟨gb151, 1, none⟩) (Kd.R_far (p := ⟨gb151, 0, none⟩) (Kd.R_types HO130.out BK151.out (by decide)) (fun _ hk => hk.2) (.slice Ao59 t146.length co59)) (fun _ hk => hk.2) (.int .i64 t149)) (fun _ h_ => h_.1))) hb); have n4_ := Aside0.mk (Kd.R_below (by (with_reducible repeat (first | apply Kd.R_alloc | apply Kd.R_drewN | apply Kd.R_drew)); exact (Kd.R_mono (Kd.R_far (p := ⟨gb151, 1, none⟩) (Kd.R_far (p := ⟨gb151, 0, none⟩) (Kd.R_types HO136.out BK151.out (by decide)) (fun _ hk => hk.2) (.slice Ao59 t146.length co59)) (fun _ hk => hk.2) (.int .i64 t149)) (fun _ h_ => h_.1))) hb); have n5_ := Aside0.mk (Kd.R_below (by (with_reducible repeat (first | apply Kd.R_alloc | apply Kd.R_drewN | apply Kd.R_drew)); exact (Kd.R_mono (Kd.R_far (p := ⟨gb151, 1, none⟩) (Kd.R_far (p := ⟨gb151, 0, none⟩) (Kd.R_types HO142.out BK151.out (by decide)) (fun _ hk => hk.2) (.slice Ao59 t146.length co59)) (fun _ hk => hk.2) (.int .i64 t149)) (fun _ h_ => h_.1))) hb); have n6_ := Aside0.mk (Kd.R_below (by (with_reducible repeat (first | apply Kd.R_alloc | apply Kd.R_drewN | apply Kd.R_drew)); exact (Kd.R_mono (Kd.R_far (p := ⟨gb151, 1, none⟩) (Kd.R_far (p := ⟨gb151, 0, none⟩) (Kd.R_types HO148.out BK151.out (by decide)) (fun _ hk => hk.2) (.slice Ao59 t146.length co59)) (fun _ hk => hk.2) (.int .i64 t149)) (fun _ h_ => h_.1))) hb); have n7_ := Aside0.mk (blk_below (g := gb133) (o := .cells #[.slice Ao41 t128.length co41, .int .i64 t131] 30 (0, 0)) (by (with_reducible repeat (first | refine blk_drewN ?_ _ | refine blk_drew ?_ | refine blk_alloc ?_ _)); refine blk_far ?_ NB133_151.out _; (with_reducible repeat (first | refine blk_drewN ?_ _ | refine blk_drew ?_ | refine blk_alloc ?_ _)); refine blk_far ?_ NB133_151.out _; (with_reducible repeat (first | refine blk_drewN ?_ _ | refine blk_drew ?_ | refine blk_alloc ?_ _)); exact BK133.out) hb); have n8_ := Aside0.mk (blk_below (g := gb139) (o := .cells #[.slice Ao46 t134.length co46, .int .i64 t137] 30 (0, 0)) (by (with_reducible repeat (first | refine blk_drewN ?_ _ | refine blk_drew ?_ | refine blk_alloc ?_ _)); refine blk_far ?_ NB139_151.out _; (with_reducible repeat (first | refine blk_drewN ?_ _ | refine blk_drew ?_ | refine blk_alloc ?_ _)); refine blk_far ?_ NB139_151.out _; (with_reducible repeat (first | refine blk_drewN ?_ _ | refine blk_drew ?_ | refine blk_alloc ?_ _)); exact BK139.out) hb); have n9_ := Aside0.mk (blk_below (g := gb145) (o := .cells #[.slice Ao52 t140.length co52, .int .i64 t143] 30 (0, 0)) (by (with_reducible repeat (first | refine blk_drewN ?_ _ | refine blk_drew ?_ | refine blk_alloc ?_ _)); refine blk_far ?_ NB145_151.out _; (with_reducible repeat (first | refine blk_drewN ?_ _ | refine blk_drew ?_ | refine blk_alloc ?_ _)); refine blk_far ?_ NB145_151.out _; (with_reducible repeat (first | refine blk_drewN ?_ _ | refine blk_drew ?_ | refine blk_alloc ?_ _)); exact BK145.out) hb); have n10_ := Aside0.mk (blk_below (g := gb151) (o := .cells #[.slice Ao59 t146.length co59, .int .i64 t149] 30 (0, 0)) (by (with_reducible repeat (first | refine blk_drewN ?_ _ | refine blk_drew ?_ | refine blk_alloc ?_ _)); refine blk_put (cs := #[.slice Ao59 t146.length co59, .int .i64 0]) ?_ 1 _ rfl; (with_reducible repeat (first | refine blk_drewN ?_ _ | refine blk_drew ?_ | refine blk_alloc ?_ _)); refine blk_put (cs := #[.slice none 0 0, .int .i64 0]) ?_ 0 _ rfl; (with_reducible repeat (first | refine blk_drewN ?_ _ | refine blk_drew ?_ | refine blk_alloc ?_ _)); exact BK151.out) hb); have n11_ := Aside0.mk (below_step (hB4 HB.out GE133.out GE139.out GE145.out GE151.out) hb); clear HO_8 HO_9 HO_12 HO130 HO136 HO142 HO148 BK133 BK139 BK145 BK151 HB; have HO_8 := n0_; have HO_9 := n1_; have HO_12 := n2_; have HO130 := n3_; have HO136 := n4_; have HO142 := n5_; have HO148 := n6_; have BK133 := n7_; have BK139 := n8_; have BK145 := n9_; have BK151 := n10_; have HB := n11_; clear n0_ n1_ n2_ n3_ n4_ n5_ n6_ n7_ n8_ n9_ n10_ n11_; (try clear hb); (try clear hk); have hcz98_0 : w97.cell? ⟨gb133, 0, none⟩ = some (.slice Ao41 t128.length co41) := (blk_cell BK133.out 0).trans rfl; have hcz98_1 : w97.cell? ⟨gb133, 1, none⟩ = some (.int .i64 t131) := (blk_cell BK133.out 1).trans rfl; have hfz98_0 := blk_frozen BK133.out 0; have hfz98_1 := blk_frozen BK133.out 1; have hnb99 := NB139_145.out; have hnc99 := NB145_139.out; have hnb100 := NB139_151.out; have hnc100 := NB151_139.out; have hcz101_0 : w97.cell? ⟨gb139, 0, none⟩ = some (.slice Ao46 t134.length co46) := (blk_cell BK139.out 0).trans rfl; have hcz101_1 : w97.cell? ⟨gb139, 1, none⟩ = some (.int .i64 t137) := (blk_cell BK139.out 1).trans rfl; have hfz101_0 := blk_frozen BK139.out 0; have hfz101_1 := blk_frozen BK139.out 1) | (go_at_call 20; (with_reducible refine (timeboundref11_Same.calls k3 _ _ t128 t131 _ _ t134 t137 true _ ?side1 ?side2 ?side3 ?side4 A70.out).mono ?_); (case side1 => exact cK (Kd.R_reads' HO130.out).2.2); (case side2 => exact (Kd.R_reads' HO130.out).2.1); (case side3 => exact cK (Kd.R_reads' HO136.out).2.2); (case side4 => exact (Kd.R_reads' HO136.out).2.1); rintro e w102 ⟨rfl, hb⟩; have n0_ := Aside0.mk (Kd.R_below (rK HO_8.out) hb); have n1_ := Aside0.mk (Kd.R_below (rK HO_9.out) hb); have n2_ := Aside0.mk (Kd.R_below (rK HO_12.out) hb); have n3_ := Aside0.mk (Kd.R_below (rK HO130.out) hb); have n4_ := Aside0.mk (Kd.R_below (rK HO136.out) hb); have n5_ := Aside0.mk (Kd.R_below (rK HO142.out) hb); have n6_ := Aside0.mk (Kd.R_below (rK HO148.out) hb); have n7_ := Aside0.mk (blk_below (g := gb133) (o := .cells #[.slice Ao41 t128.length co41, .int .i64 t131] 30 (0, 0)) (bK BK133.out) hb); have n8_ := Aside0.mk (blk_below (g := gb139) (o := .cells #[.slice Ao46 t134.length co46, .int .i64 t137] 30 (0, 0)) (bK BK139.out) hb); have n9_ := Aside0.mk (blk_below (g := gb145) (o := .cells #[.slice Ao52 t140.length co52, .int .i64 t143] 30 (0, 0)) (bK BK145.out) hb); have n10_ := Aside0.mk (blk_below (g := gb151) (o := .cells #[.slice Ao59 t146.length co59, .int .i64 t149] 30 (0, 0)) (bK BK151.out) hb); have n11_ := Aside0.mk (below_step (hB4 HB.out GE133.out GE139.out GE145.out GE151.out) hb); clear HO_8 HO_9 HO_12 HO130 HO136 HO142 HO148 BK133 BK139 BK145 BK151 HB; have HO_8 := n0_; have HO_9 := n1_; have HO_12 := n2_; have HO130 := n3_; have HO136 := n4_; have HO142 := n5_; have HO148 := n6_; have BK133 := n7_; have BK139 := n8_; have BK145 := n9_; have BK151 := n10_; have HB := n11_; clear n0_ n1_ n2_ n3_ n4_ n5_ n6_ n7_ n8_ n9_ n10_ n11_; (try clear hb); have hcz103_0 : w102.cell? ⟨gb133, 0, none⟩ = some (.slice Ao41 t128.length co41) := (blk_cell BK133.out 0).trans rfl; have hcz103_1 : w102.cell? ⟨gb133, 1, none⟩ = some (.int .i64 t131) := (blk_cell BK133.out 1).trans rfl; have hfz103_0 := blk_frozen BK133.out 0; have hfz103_1 := blk_frozen BK133.out 1; have hnb104 := NB145_151.out; have hnc104 := NB151_145.out; have hcz105_0 : w102.cell? ⟨gb145, 0, none⟩ = some (.slice Ao52 t140.length co52) := (blk_cell BK145.out 0).trans rfl; have hcz105_1 : w102.cell? ⟨gb145, 1, none⟩ = some (.int .i64 t143) := (blk_cell BK145.out 1).trans rfl; have hfz105_0 := blk_frozen BK145.out 0; have hfz105_1 := blk_frozen BK145.out 1) | (go_at_call 20; (with_reducible refine (timeboundref11_Same.calls k3 _ _ t128 t131 _ _ t140 t143 true _ ?side1 ?side2 ?side3 ?side4 A72.out).mono ?_); (case side1 => exact cK (Kd.R_reads' HO130.out).2.2); (case side2 => exact (Kd.R_reads' HO130.out).2.1); (case side3 => exact cK (Kd.R_reads' HO142.out).2.2); (case side4 => exact (Kd.R_reads' HO142.out).2.1); rintro e w106 ⟨rfl, hb⟩; have n0_ := Aside0.mk (Kd.R_below (rK HO_8.out) hb); have n1_ := Aside0.mk (Kd.R_below (rK HO_9.out) hb); have n2_ := Aside0.mk (Kd.R_below (rK HO_12.out) hb); have n3_ := Aside0.mk (Kd.R_below (rK HO130.out) hb); have n4_ := Aside0.mk (Kd.R_below (rK HO136.out) hb); have n5_ := Aside0.mk (Kd.R_below (rK HO142.out) hb); have n6_ := Aside0.mk (Kd.R_below (rK HO148.out) hb); have n7_ := Aside0.mk (blk_below (g := gb133) (o := .cells #[.slice Ao41 t128.length co41, .int .i64 t131] 30 (0, 0)) (bK BK133.out) hb); have n8_ := Aside0.mk (blk_below (g := gb139) (o := .cells #[.slice Ao46 t134.length co46, .int .i64 t137] 30 (0, 0)) (bK BK139.out) hb); have n9_ := Aside0.mk (blk_below (g := gb145) (o := .cells #[.slice Ao52 t140.length co52, .int .i64 t143] 30 (0, 0)) (bK BK145.out) hb); have n10_ := Aside0.mk (blk_below (g := gb151) (o := .cells #[.slice Ao59 t146.length co59, .int .i64 t149] 30 (0, 0)) (bK BK151.out) hb); have n11_ := Aside0.mk (below_step (hB4 HB.out GE133.out GE139.out GE145.out GE151.out) hb); clear HO_8 HO_9 HO_12 HO130 HO136 HO142 HO148 BK133 BK139 BK145 BK151 HB; have HO_8 := n0_; have HO_9 := n1_; have HO_12 := n2_; have HO130 := n3_; have HO136 := n4_; have HO142 := n5_; have HO148 := n6_; have BK133 := n7_; have BK139 := n8_; have BK145 := n9_; have BK151 := n10_; have HB := n11_; clear n0_ n1_ n2_ n3_ n4_ n5_ n6_ n7_ n8_ n9_ n10_ n11_; (try clear hb); have hcz107_0 : w106.cell? ⟨gb151, 0, none⟩ = some (.slice Ao59 t146.length co59) := (blk_cell BK151.out 0).trans rfl; have hcz107_1 : w106.cell? ⟨gb151, 1, none⟩ = some (.int .i64 t149) := (blk_cell BK151.out 1).trans rfl; have hfz107_0 := blk_frozen BK151.out 0; have hfz107_1 := blk_frozen BK151.out 1))
                      go_meet
                      case rel => exact ⟨_, (false), rS, H', ⟨by have := HK1.out; have := HK2.out; have := HK3.out; first | omega | exact Nat.le_refl _⟩, ⟨by (with_reducible repeat (first | apply Kd.R_alloc | apply Kd.R_drewN | apply Kd.R_drew)); exact Kd.R_mono HO130.out (fun _ hk => ⟨hk.1.1.2, ⟨hk.1.2, hk.2⟩⟩)⟩, ⟨by (with_reducible repeat (first | apply Kd.R_alloc | apply Kd.R_drewN | apply Kd.R_drew)); exact Kd.R_mono HO136.out (fun _ hk => ⟨hk.1.1.2, ⟨hk.1.2, hk.2⟩⟩)⟩, ⟨by (with_reducible repeat (first | apply Kd.R_alloc | apply Kd.R_drewN | apply Kd.R_drew)); exact Kd.R_mono HO142.out (fun _ hk => ⟨hk.1.1.2, ⟨hk.1.2, hk.2⟩⟩)⟩, ⟨by (with_reducible repeat (first | apply Kd.R_alloc | apply Kd.R_drewN | apply Kd.R_drew)); exact Kd.R_mono HO148.out (fun _ hk => ⟨hk.1.1.2, ⟨hk.1.2, hk.2⟩⟩)⟩, ⟨bK BK133.out⟩, ⟨bK BK139.out⟩, ⟨bK BK145.out⟩, ⟨bK BK151.out⟩, ⟨hB4 HB.out GE133.out GE139.out GE145.out GE151.out⟩⟩
                    ·rw [if_neg c74] at H
                     have c74b0 : ((t146.length : Int) == 0) = false := beq_eq_false_iff_ne.mpr c74
                     have c74b1 : ((t146.length : Int) != 0) = true := bne_iff_ne.mpr c74
                     have c74b2 : ¬ (t146 = []) := fun h_ => c74 (by rw [h_]; rfl)
                     have H' := Aside0.mk H
                     clear H
                     have hnb108 := NB133_139.out
                     have hnc108 := NB139_133.out
                     have hnb109 := NB133_145.out
                     have hnc109 := NB145_133.out
                     have hnb110 := NB133_151.out
                     have hnc110 := NB151_133.out
                     have hcz111_0 : w58.cell? ⟨gb133, 0, none⟩ = some (.slice Ao41 t128.length co41) := (blk_cell BK133.out 0).trans rfl
                     have hcz111_1 : w58.cell? ⟨gb133, 1, none⟩ = some (.int .i64 t131) := (blk_cell BK133.out 1).trans rfl
                     have hfz111_0 := blk_frozen BK133.out 0
                     have hfz111_1 := blk_frozen BK133.out 1
                     go_wp2_with (first | (go_at_call 18; (with_reducible refine (fact_Check.calls k3 _ _ t128 t131 t152 _ ?side1 ?side2 A68.out).mono ?_); (case side1 => refine (Kd.R_reads' (e := 44) (base := w.heap.size) (ok := fun k_ => ((((((True ∧ some k_ ≠ (.slice Ao25 x8_1.length co25 : Value).ownBlock) ∧ some k_ ≠ (.slice Ao43 x9_2.length co43 : Value).ownBlock) ∧ some k_ ≠ (.slice Ao56 x12_3.length co56 : Value).ownBlock) ∧ some k_ ≠ (.slice Ao46 t134.length co46 : Value).ownBlock) ∧ some k_ ≠ (.slice Ao52 t140.length co52 : Value).ownBlock) ∧ some k_ ≠ (.slice Ao59 t146.length co59 : Value).ownBlock)) (n := t128.length) (c := co41) ?_).2.2; exact (by (with_reducible repeat (first | apply Kd.R_alloc | apply Kd.R_drewN | apply Kd.R_drew)); exact (Kd.R_mono (Kd.R_far (p := ⟨gb151, 1, none⟩) (Kd.R_far (p := ⟨gb151, 0, none⟩) (Kd.R_types HO130.out BK151.out (by decide)) (fun _ hk => hk.2) (.slice Ao59 t146.length co59)) (fun _ hk => hk.2) (.int .i64 t149)) (fun _ h_ => h_.1)))); (case side2 => exact (Kd.R_reads' HO130.out).2.1); rintro e w112 ⟨rfl, hb⟩; have n0_ := Aside0.mk (Kd.R_below (by (with_reducible repeat (first | apply Kd.R_alloc | apply Kd.R_drewN | apply Kd.R_drew)); exact (Kd.R_mono (Kd.R_far (p := ⟨gb151, 1, none⟩) (Kd.R_far (p := ⟨gb151, 0, none⟩) (Kd.R_types HO_8.out BK151.out (by decide)) (fun _ hk => hk.2) (.slice Ao59 t146.length co59)) (fun _ hk => hk.2) (.int .i64 t149)) (fun _ h_ => h_.1))) hb); have n1_ := Aside0.mk (Kd.R_below (by (with_reducible repeat (first | apply Kd.R_alloc | apply Kd.R_drewN | apply Kd.R_drew)); exact (Kd.R_mono (Kd.R_far (p := ⟨gb151, 1, none⟩) (Kd.R_far (p := ⟨gb151, 0, none⟩) (Kd.R_types HO_9.out BK151.out (by decide)) (fun _ hk => hk.2) (.slice Ao59 t146.length co59)) (fun _ hk => hk.2) (.int .i64 t149)) (fun _ h_ => h_.1))) hb); have n2_ := Aside0.mk (Kd.R_below (by (with_reducible repeat (first | apply Kd.R_alloc | apply Kd.R_drewN | apply Kd.R_drew)); exact (Kd.R_mono (Kd.R_far (p := ⟨gb151, 1, none⟩) (Kd.R_far (p := ⟨gb151, 0, none⟩) (Kd.R_types HO_12.out BK151.out (by decide)) (fun _ hk => hk.2) (.slice Ao59 t146.length co59)) (fun _ hk => hk.2) (.int .i64 t149)) (fun _ h_ => h_.1))) hb); have n3_ := Aside0.mk (Kd.R_below (by (with_reducible repeat (first | apply Kd.R_alloc | apply Kd.R_drewN | apply Kd.R_drew)); exact (Kd.R_mono (Kd.R_far (p := ⟨gb151, 1, none⟩) (Kd.R_far (p := ⟨gb151, 0, none⟩) (Kd.R_types HO130.out BK151.out (by decide)) (fun _ hk => hk.2) (.slice Ao59 t146.length co59)) (fun _ hk => hk.2) (.int .i64 t149)) (fun _ h_ => h_.1))) hb); have n4_ := Aside0.mk (Kd.R_below (by (with_reducible repeat (first | apply Kd.R_alloc | apply Kd.R_drewN | apply Kd.R_drew)); exact (Kd.R_mono (Kd.R_far (p := ⟨gb151, 1, none⟩) (Kd.R_far (p := ⟨gb151, 0, none⟩) (Kd.R_types HO136.out BK151.out (by decide)) (fun _ hk => hk.2) (.slice Ao59 t146.length co59)) (fun _ hk => hk.2) (.int .i64 t149)) (fun _ h_ => h_.1))) hb); have n5_ := Aside0.mk (Kd.R_below (by (with_reducible repeat (first | apply Kd.R_alloc | apply Kd.R_drewN | apply Kd.R_drew)); exact (Kd.R_mono (Kd.R_far (p := ⟨gb151, 1, none⟩) (Kd.R_far (p := ⟨gb151, 0, none⟩) (Kd.R_types HO142.out BK151.out (by decide)) (fun _ hk => hk.2) (.slice Ao59 t146.length co59)) (fun _ hk => hk.2) (.int .i64 t149)) (fun _ h_ => h_.1))) hb); have n6_ := Aside0.mk (Kd.R_below (by (with_reducible repeat (first | apply Kd.R_alloc | apply Kd.R_drewN | apply Kd.R_drew)); exact (Kd.R_mono (Kd.R_far (p := ⟨gb151, 1, none⟩) (Kd.R_far (p := ⟨gb151, 0, none⟩) (Kd.R_types HO148.out BK151.out (by decide)) (fun _ hk => hk.2) (.slice Ao59 t146.length co59)) (fun _ hk => hk.2) (.int .i64 t149)) (fun _ h_ => h_.1))) hb); have n7_ := Aside0.mk (blk_below (g := gb133) (o := .cells #[.slice Ao41 t128.length co41, .int .i64 t131] 30 (0, 0)) (by (with_reducible repeat (first | refine blk_drewN ?_ _ | refine blk_drew ?_ | refine blk_alloc ?_ _)); refine blk_far ?_ NB133_151.out _; (with_reducible repeat (first | refine blk_drewN ?_ _ | refine blk_drew ?_ | refine blk_alloc ?_ _)); refine blk_far ?_ NB133_151.out _; (with_reducible repeat (first | refine blk_drewN ?_ _ | refine blk_drew ?_ | refine blk_alloc ?_ _)); exact BK133.out) hb); have n8_ := Aside0.mk (blk_below (g := gb139) (o := .cells #[.slice Ao46 t134.length co46, .int .i64 t137] 30 (0, 0)) (by (with_reducible repeat (first | refine blk_drewN ?_ _ | refine blk_drew ?_ | refine blk_alloc ?_ _)); refine blk_far ?_ NB139_151.out _; (with_reducible repeat (first | refine blk_drewN ?_ _ | refine blk_drew ?_ | refine blk_alloc ?_ _)); refine blk_far ?_ NB139_151.out _; (with_reducible repeat (first | refine blk_drewN ?_ _ | refine blk_drew ?_ | refine blk_alloc ?_ _)); exact BK139.out) hb); have n9_ := Aside0.mk (blk_below (g := gb145) (o := .cells #[.slice Ao52 t140.length co52, .int .i64 t143] 30 (0, 0)) (by (with_reducible repeat (first | refine blk_drewN ?_ _ | refine blk_drew ?_ | refine blk_alloc ?_ _)); refine blk_far ?_ NB145_151.out _; (with_reducible repeat (first | refine blk_drewN ?_ _ | refine blk_drew ?_ | refine blk_alloc ?_ _)); refine blk_far ?_ NB145_151.out _; (with_reducible repeat (first | refine blk_drewN ?_ _ | refine blk_drew ?_ | refine blk_alloc ?_ _)); exact BK145.out) hb); have n10_ := Aside0.mk (blk_below (g := gb151) (o := .cells #[.slice Ao59 t146.length co59, .int .i64 t149] 30 (0, 0)) (by (with_reducible repeat (first | refine blk_drewN ?_ _ | refine blk_drew ?_ | refine blk_alloc ?_ _)); refine blk_put (cs := #[.slice Ao59 t146.length co59, .int .i64 0]) ?_ 1 _ rfl; (with_reducible repeat (first | refine blk_drewN ?_ _ | refine blk_drew ?_ | refine blk_alloc ?_ _)); refine blk_put (cs := #[.slice none 0 0, .int .i64 0]) ?_ 0 _ rfl; (with_reducible repeat (first | refine blk_drewN ?_ _ | refine blk_drew ?_ | refine blk_alloc ?_ _)); exact BK151.out) hb); have n11_ := Aside0.mk (below_step (hB4 HB.out GE133.out GE139.out GE145.out GE151.out) hb); clear HO_8 HO_9 HO_12 HO130 HO136 HO142 HO148 BK133 BK139 BK145 BK151 HB; have HO_8 := n0_; have HO_9 := n1_; have HO_12 := n2_; have HO130 := n3_; have HO136 := n4_; have HO142 := n5_; have HO148 := n6_; have BK133 := n7_; have BK139 := n8_; have BK145 := n9_; have BK151 := n10_; have HB := n11_; clear n0_ n1_ n2_ n3_ n4_ n5_ n6_ n7_ n8_ n9_ n10_ n11_; (try clear hb); (try clear hk); have hcz113_0 : w112.cell? ⟨gb133, 0, none⟩ = some (.slice Ao41 t128.length co41) := (blk_cell BK133.out 0).trans rfl; have hcz113_1 : w112.cell? ⟨gb133, 1, none⟩ = some (.int .i64 t131) := (blk_cell BK133.out 1).trans rfl; have hfz113_0 := blk_frozen BK133.out 0; have hfz113_1 := blk_frozen BK133.out 1; have hnb114 := NB139_145.out; have hnc114 := NB145_139.out; have hnb115 := NB139_151.out; have hnc115 := NB151_139.out; have hcz116_0 : w112.cell? ⟨gb139, 0, none⟩ = some (.slice Ao46 t134.length co46) := (blk_cell BK139.out 0).trans rfl; have hcz116_1 : w112.cell? ⟨gb139, 1, none⟩ = some (.int .i64 t137) := (blk_cell BK139.out 1).trans rfl; have hfz116_0 := blk_frozen BK139.out 0; have hfz116_1 := blk_frozen BK139.out 1) | (go_at_call 20; (with_reducible refine (timeboundref11_Same.calls k3 _ _ t128 t131 _ _ t134 t137 true _ ?side1 ?side2 ?side3 ?side4 A70.out).mono ?_); (case side1 => exact cK (Kd.R_reads' HO130.out).2.2); (case side2 => exact (Kd.R_reads' HO130.out).2.1); (case side3 => exact cK (Kd.R_reads' HO136.out).2.2); (case side4 => exact (Kd.R_reads' HO136.out).2.1); rintro e w117 ⟨rfl, hb⟩; have n0_ := Aside0.mk (Kd.R_below (rK HO_8.out) hb); have n1_ := Aside0.mk (Kd.R_below (rK HO_9.out) hb); have n2_ := Aside0.mk (Kd.R_below (rK HO_12.out) hb); have n3_ := Aside0.mk (Kd.R_below (rK HO130.out) hb); have n4_ := Aside0.mk (Kd.R_below (rK HO136.out) hb); have n5_ := Aside0.mk (Kd.R_below (rK HO142.out) hb); have n6_ := Aside0.mk (Kd.R_below (rK HO148.out) hb); have n7_ := Aside0.mk (blk_below (g := gb133) (o := .cells #[.slice Ao41 t128.length co41, .int .i64 t131] 30 (0, 0)) (bK BK133.out) hb); have n8_ := Aside0.mk (blk_below (g := gb139) (o := .cells #[.slice Ao46 t134.length co46, .int .i64 t137] 30 (0, 0)) (bK BK139.out) hb); have n9_ := Aside0.mk (blk_below (g := gb145) (o := .cells #[.slice Ao52 t140.length co52, .int .i64 t143] 30 (0, 0)) (bK BK145.out) hb); have n10_ := Aside0.mk (blk_below (g := gb151) (o := .cells #[.slice Ao59 t146.length co59, .int .i64 t149] 30 (0, 0)) (bK BK151.out) hb); have n11_ := Aside0.mk (below_step (hB4 HB.out GE133.out GE139.out GE145.out GE151.out) hb); clear HO_8 HO_9 HO_12 HO130 HO136 HO142 HO148 BK133 BK139 BK145 BK151 HB; have HO_8 := n0_; have HO_9 := n1_; have HO_12 := n2_; have HO130 := n3_; have HO136 := n4_; have HO142 := n5_; have HO148 := n6_; have BK133 := n7_; have BK139 := n8_; have BK145 := n9_; have BK151 := n10_; have HB := n11_; clear n0_ n1_ n2_ n3_ n4_ n5_ n6_ n7_ n8_ n9_ n10_ n11_; (try clear hb); have hcz118_0 : w117.cell? ⟨gb133, 0, none⟩ = some (.slice Ao41 t128.length co41) := (blk_cell BK133.out 0).trans rfl; have hcz118_1 : w117.cell? ⟨gb133, 1, none⟩ = some (.int .i64 t131) := (blk_cell BK133.out 1).trans rfl; have hfz118_0 := blk_frozen BK133.out 0; have hfz118_1 := blk_frozen BK133.out 1; have hnb119 := NB145_151.out; have hnc119 := NB151_145.out; have hcz120_0 : w117.cell? ⟨gb145, 0, none⟩ = some (.slice Ao52 t140.length co52) := (blk_cell BK145.out 0).trans rfl; have hcz120_1 : w117.cell? ⟨gb145, 1, none⟩ = some (.int .i64 t143) := (blk_cell BK145.out 1).trans rfl; have hfz120_0 := blk_frozen BK145.out 0; have hfz120_1 := blk_frozen BK145.out 1) | (go_at_call 20; (with_reducible refine (timeboundref11_Same.calls k3 _ _ t128 t131 _ _ t140 t143 true _ ?side1 ?side2 ?side3 ?side4 A72.out).mono ?_); (case side1 => exact cK (Kd.R_reads' HO130.out).2.2); (case side2 => exact (Kd.R_reads' HO130.out).2.1); (case side3 => exact cK (Kd.R_reads' HO142.out).2.2); (case side4 => exact (Kd.R_reads' HO142.out).2.1); rintro e w121 ⟨rfl, hb⟩; have n0_ := Aside0.mk (Kd.R_below (rK HO_8.out) hb); have n1_ := Aside0.mk (Kd.R_below (rK HO_9.out) hb); have n2_ := Aside0.mk (Kd.R_below (rK HO_12.out) hb); have n3_ := Aside0.mk (Kd.R_below (rK HO130.out) hb); have n4_ := Aside0.mk (Kd.R_below (rK HO136.out) hb); have n5_ := Aside0.mk (Kd.R_below (rK HO142.out) hb); have n6_ := Aside0.mk (Kd.R_below (rK HO148.out) hb); have n7_ := Aside0.mk (blk_below (g := gb133) (o := .cells #[.slice Ao41 t128.length co41, .int .i64 t131] 30 (0, 0)) (bK BK133.out) hb); have n8_ := Aside0.mk (blk_below (g := gb139) (o := .cells #[.slice Ao46 t134.length co46, .int .i64 t137] 30 (0, 0)) (bK BK139.out) hb); have n9_ := Aside0.mk (blk_below (g := gb145) (o := .cells #[.slice Ao52 t140.length co52, .int .i64 t143] 30 (0, 0)) (bK BK145.out) hb); have n10_ := Aside0.mk (blk_below (g := gb151) (o := .cells #[.slice Ao59 t146.length co59, .int .i64 t149] 30 (0, 0)) (bK BK151.out) hb); have n11_ := Aside0.mk (below_step (hB4 HB.out GE133.out GE139.out GE145.out GE151.out) hb); clear HO_8 HO_9 HO_12 HO130 HO136 HO142 HO148 BK133 BK139 BK145 BK151 HB; have HO_8 := n0_; have HO_9 := n1_; have HO_12 := n2_; have HO130 := n3_; have HO136 := n4_; have HO142 := n5_; have HO148 := n6_; have BK133 := n7_; have BK139 := n8_; have BK145 := n9_; have BK151 := n10_; have HB := n11_; clear n0_ n1_ n2_ n3_ n4_ n5_ n6_ n7_ n8_ n9_ n10_ n11_; (try clear hb); have hcz122_0 : w121.cell? ⟨gb151, 0, none⟩ = some (.slice Ao59 t146.length co59) := (blk_cell BK151.out 0).trans rfl; have hcz122_1 : w121.cell? ⟨gb151, 1, none⟩ = some (.int .i64 t149) := (blk_cell BK151.out 1).trans rfl; have hfz122_0 := blk_frozen BK151.out 0; have hfz122_1 := blk_frozen BK151.out 1))
                     go_meet
                     case rel => exact ⟨_, (false), rS, H', ⟨by have := HK1.out; have := HK2.out; have := HK3.out; first | omega | exact Nat.le_refl _⟩, ⟨by (with_reducible repeat (first | apply Kd.R_alloc | apply Kd.R_drewN | apply Kd.R_drew)); exact Kd.R_mono HO130.out (fun _ hk => ⟨hk.1.1.2, ⟨hk.1.2, hk.2⟩⟩)⟩, ⟨by (with_reducible repeat (first | apply Kd.R_alloc | apply Kd.R_drewN | apply Kd.R_drew)); exact Kd.R_mono HO136.out (fun _ hk => ⟨hk.1.1.2, ⟨hk.1.2, hk.2⟩⟩)⟩, ⟨by (with_reducible repeat (first | apply Kd.R_alloc | apply Kd.R_drewN | apply Kd.R_drew)); exact Kd.R_mono HO142.out (fun _ hk => ⟨hk.1.1.2, ⟨hk.1.2, hk.2⟩⟩)⟩, ⟨by (with_reducible repeat (first | apply Kd.R_alloc | apply Kd.R_drewN | apply Kd.R_drew)); exact Kd.R_mono HO148.out (fun _ hk => ⟨hk.1.1.2, ⟨hk.1.2, hk.2⟩⟩)⟩, ⟨bK BK133.out⟩, ⟨bK BK139.out⟩, ⟨bK BK145.out⟩, ⟨bK BK151.out⟩, ⟨hB4 HB.out GE133.out GE139.out GE145.out GE151.out⟩⟩
                   ·replace c73 := Bool.eq_false_iff.mpr c73
                    subst c73
                    have H1 : (timeboundlaw11_FactOrder.j3 k3 false) = some r := by rw [if_neg (show ¬ (false = true) by decide)] at H; exact H
                    clear H
                    have H := H1
                    clear H1
                    have H' := Aside0.mk H
                    clear H
                    have hnb123 := NB133_139.out
                    have hnc123 := NB139_133.out
                    have hnb124 := NB133_145.out
                    have hnc124 := NB145_133.out
                    have hnb125 := NB133_151.out
                    have hnc125 := NB151_133.out
                    have hcz126_0 : w58.cell? ⟨gb133, 0, none⟩ = some (.slice Ao41 t128.length co41) := (blk_cell BK133.out 0).trans rfl
                    have hcz126_1 : w58.cell? ⟨gb133, 1, none⟩ = some (.int .i64 t131) := (blk_cell BK133.out 1).trans rfl
                    have hfz126_0 := blk_frozen BK133.out 0
                    have hfz126_1 := blk_frozen BK133.out 1
                    go_wp2_with (first | (go_at_call 18; (with_reducible refine (fact_Check.calls k3 _ _ t128 t131 t152 _ ?side1 ?side2 A68.out).mono ?_); (case side1 => refine (Kd.R_reads' (e := 44) (base := w.heap.size) (ok := fun k_ => ((((((True ∧ some k_ ≠ (.slice Ao25 x8_1.length co25 : Value).ownBlock) ∧ some k_ ≠ (.slice Ao43 x9_2.length co43 : Value).ownBlock) ∧ some k_ ≠ (.slice Ao56 x12_3.length co56 : Value).ownBlock) ∧ some k_ ≠ (.slice Ao46 t134.length co46 : Value).ownBlock) ∧ some k_ ≠ (.slice Ao52 t140.length co52 : Value).ownBlock) ∧ some k_ ≠ (.slice Ao59 t146.length co59 : Value).ownBlock)) (n := t128.length) (c := co41) ?_).2.2; exact (by (with_reducible repeat (first | apply Kd.R_alloc | apply Kd.R_drewN | apply Kd.R_drew)); exact (Kd.R_mono (Kd.R_far (p := ⟨gb151, 1, none⟩) (Kd.R_far (p := ⟨gb151, 0, none⟩) (Kd.R_types HO130.out BK151.out (by decide)) (fun _ hk => hk.2) (.slice Ao59 t146.length co59)) (fun _ hk => hk.2) (.int .i64 t149)) (fun _ h_ => h_.1)))); (case side2 => exact (Kd.R_reads' HO130.out).2.1); rintro e w127 ⟨rfl, hb⟩; have n0_ := Aside0.mk (Kd.R_below (by (with_reducible repeat (first | apply Kd.R_alloc | apply Kd.R_drewN | apply Kd.R_drew)); exact (Kd.R_mono (Kd.R_far (p := ⟨gb151, 1, none⟩) (Kd.R_far (p := ⟨gb151, 0, none⟩) (Kd.R_types HO_8.out BK151.out (by decide)) (fun _ hk => hk.2) (.slice Ao59 t146.length co59)) (fun _ hk => hk.2) (.int .i64 t149)) (fun _ h_ => h_.1))) hb); have n1_ := Aside0.mk (Kd.R_below (by (with_reducible repeat (first | apply Kd.R_alloc | apply Kd.R_drewN | apply Kd.R_drew)); exact (Kd.R_mono (Kd.R_far (p := ⟨gb151, 1, none⟩) (Kd.R_far (p := ⟨gb151, 0, none⟩) (Kd.R_types HO_9.out BK151.out (by decide)) (fun _ hk => hk.2) (.slice Ao59 t146.length co59)) (fun _ hk => hk.2) (.int .i64 t149)) (fun _ h_ => h_.1))) hb); have n2_ := Aside0.mk (Kd.R_below (by (with_reducible repeat (first | apply Kd.R_alloc | apply Kd.R_drewN | apply Kd.R_drew)); exact (Kd.R_mono (Kd.R_far (p := ⟨gb151, 1, none⟩) (Kd.R_far (p := ⟨gb151, 0, none⟩) (Kd.R_types HO_12.out BK151.out (by decide)) (fun _ hk => hk.2) (.slice Ao59 t146.length co59)) (fun _ hk => hk.2) (.int .i64 t149)) (fun _ h_ => h_.1))) hb); have n3_ := Aside0.mk (Kd.R_below (by (with_reducible repeat (first | apply Kd.R_alloc | apply Kd.R_drewN | apply Kd.R_drew)); exact (Kd.R_mono (Kd.R_far (p := ⟨gb151, 1, none⟩) (Kd.R_far (p := ⟨gb151, 0, none⟩) (Kd.R_types HO130.out BK151.out (by decide)) (fun _ hk => hk.2) (.slice Ao59 t146.length co59)) (fun _ hk => hk.2) (.int .i64 t149)) (fun _ h_ => h_.1))) hb); have n4_ := Aside0.mk (Kd.R_below (by (with_reducible repeat (first | apply Kd.R_alloc | apply Kd.R_drewN | apply Kd.R_drew)); exact (Kd.R_mono (Kd.R_far (p := ⟨gb151, 1, none⟩) (Kd.R_far (p := ⟨gb151, 0, none⟩) (Kd.R_types HO136.out BK151.out (by decide)) (fun _ hk => hk.2) (.slice Ao59 t146.length co59)) (fun _ hk => hk.2) (.int .i64 t149)) (fun _ h_ => h_.1))) hb); have n5_ := Aside0.mk (Kd.R_below (by (with_reducible repeat (first | apply Kd.R_alloc | apply Kd.R_drewN | apply Kd.R_drew)); exact (Kd.R_mono (Kd.R_far (p := ⟨gb151, 1, none⟩) (Kd.R_far (p := ⟨gb151, 0, none⟩) (Kd.R_types HO142.out BK151.out (by decide)) (fun _ hk => hk.2) (.slice Ao59 t146.length co59)) (fun _ hk => hk.2) (.int .i64 t149)) (fun _ h_ => h_.1))) hb); have n6_ := Aside0.mk (Kd.R_below (by (with_reducible repeat (first | apply Kd.R_alloc | apply Kd.R_drewN | apply Kd.R_drew)); exact (Kd.R_mono (Kd.R_far (p := ⟨gb151, 1, none⟩) (Kd.R_far (p := ⟨gb151, 0, none⟩) (Kd.R_types HO148.out BK151.out (by decide)) (fun _ hk => hk.2) (.slice Ao59 t146.length co59)) (fun _ hk => hk.2) (.int .i64 t149)) (fun _ h_ => h_.1))) hb); have n7_ := Aside0.mk (blk_below (g := gb133) (o := .cells #[.slice Ao41 t128.length co41, .int .i64 t131] 30 (0, 0)) (by (with_reducible repeat (first | refine blk_drewN ?_ _ | refine blk_drew ?_ | refine blk_alloc ?_ _)); refine blk_far ?_ NB133_151.out _; (with_reducible repeat (first | refine blk_drewN ?_ _ | refine blk_drew ?_ | refine blk_alloc ?_ _)); refine blk_far ?_ NB133_151.out _; (with_reducible repeat (first | refine blk_drewN ?_ _ | refine blk_drew ?_ | refine blk_alloc ?_ _)); exact BK133.out) hb); have n8_ := Aside0.mk (blk_below (g := gb139) (o := .cells #[.slice Ao46 t134.length co46, .int .i64 t137] 30 (0, 0)) (by (with_reducible repeat (first | refine blk_drewN ?_ _ | refine blk_drew ?_ | refine blk_alloc ?_ _)); refine blk_far ?_ NB139_151.out _; (with_reducible repeat (first | refine blk_drewN ?_ _ | refine blk_drew ?_ | refine blk_alloc ?_ _)); refine blk_far ?_ NB139_151.out _; (with_reducible repeat (first | refine blk_drewN ?_ _ | refine blk_drew ?_ | refine blk_alloc ?_ _)); exact BK139.out) hb); have n9_ := Aside0.mk (blk_below (g := gb145) (o := .cells #[.slice Ao52 t140.length co52, .int .i64 t143] 30 (0, 0)) (by (with_reducible repeat (first | refine blk_drewN ?_ _ | refine blk_drew ?_ | refine blk_alloc ?_ _)); refine blk_far ?_ NB145_151.out _; (with_reducible repeat (first | refine blk_drewN ?_ _ | refine blk_drew ?_ | refine blk_alloc ?_ _)); refine blk_far ?_ NB145_151.out _; (with_reducible repeat (first | refine blk_drewN ?_ _ | refine blk_drew ?_ | refine blk_alloc ?_ _)); exact BK145.out) hb); have n10_ := Aside0.mk (blk_below (g := gb151) (o := .cells #[.slice Ao59 t146.length co59, .int .i64 t149] 30 (0, 0)) (by (with_reducible repeat (first | refine blk_drewN ?_ _ | refine blk_drew ?_ | refine blk_alloc ?_ _)); refine blk_put (cs := #[.slice Ao59 t146.length co59, .int .i64 0]) ?_ 1 _ rfl; (with_reducible repeat (first | refine blk_drewN ?_ _ | refine blk_drew ?_ | refine blk_alloc ?_ _)); refine blk_put (cs := #[.slice none 0 0, .int .i64 0]) ?_ 0 _ rfl; (with_reducible repeat (first | refine blk_drewN ?_ _ | refine blk_drew ?_ | refine blk_alloc ?_ _)); exact BK151.out) hb); have n11_ := Aside0.mk (below_step (hB4 HB.out GE133.out GE139.out GE145.out GE151.out) hb); clear HO_8 HO_9 HO_12 HO130 HO136 HO142 HO148 BK133 BK139 BK145 BK151 HB; have HO_8 := n0_; have HO_9 := n1_; have HO_12 := n2_; have HO130 := n3_; have HO136 := n4_; have HO142 := n5_; have HO148 := n6_; have BK133 := n7_; have BK139 := n8_; have BK145 := n9_; have BK151 := n10_; have HB := n11_; clear n0_ n1_ n2_ n3_ n4_ n5_ n6_ n7_ n8_ n9_ n10_ n11_; (try clear hb); (try clear hk); have hcz128_0 : w127.cell? ⟨gb133, 0, none⟩ = some (.slice Ao41 t128.length co41) := (blk_cell BK133.out 0).trans rfl; have hcz128_1 : w127.cell? ⟨gb133, 1, none⟩ = some (.int .i64 t131) := (blk_cell BK133.out 1).trans rfl; have hfz128_0 := blk_frozen BK133.out 0; have hfz128_1 := blk_frozen BK133.out 1; have hnb129 := NB139_145.out; have hnc129 := NB145_139.out; have hnb130 := NB139_151.out; have hnc130 := NB151_139.out; have hcz131_0 : w127.cell? ⟨gb139, 0, none⟩ = some (.slice Ao46 t134.length co46) := (blk_cell BK139.out 0).trans rfl; have hcz131_1 : w127.cell? ⟨gb139, 1, none⟩ = some (.int .i64 t137) := (blk_cell BK139.out 1).trans rfl; have hfz131_0 := blk_frozen BK139.out 0; have hfz131_1 := blk_frozen BK139.out 1) | (go_at_call 20; (with_reducible refine (timeboundref11_Same.calls k3 _ _ t128 t131 _ _ t134 t137 true _ ?side1 ?side2 ?side3 ?side4 A70.out).mono ?_); (case side1 => exact cK (Kd.R_reads' HO130.out).2.2); (case side2 => exact (Kd.R_reads' HO130.out).2.1); (case side3 => exact cK (Kd.R_reads' HO136.out).2.2); (case side4 => exact (Kd.R_reads' HO136.out).2.1); rintro e w132 ⟨rfl, hb⟩; have n0_ := Aside0.mk (Kd.R_below (rK HO_8.out) hb); have n1_ := Aside0.mk (Kd.R_below (rK HO_9.out) hb); have n2_ := Aside0.mk (Kd.R_below (rK HO_12.out) hb); have n3_ := Aside0.mk (Kd.R_below (rK HO130.out) hb); have n4_ := Aside0.mk (Kd.R_below (rK HO136.out) hb); have n5_ := Aside0.mk (Kd.R_below (rK HO142.out) hb); have n6_ := Aside0.mk (Kd.R_below (rK HO148.out) hb); have n7_ := Aside0.mk (blk_below (g := gb133) (o := .cells #[.slice Ao41 t128.length co41, .int .i64 t131] 30 (0, 0)) (bK BK133.out) hb); have n8_ := Aside0.mk (blk_below (g := gb139) (o := .cells #[.slice Ao46 t134.length co46, .int .i64 t137] 30 (0, 0)) (bK BK139.out) hb); have n9_ := Aside0.mk (blk_below (g := gb145) (o := .cells #[.slice Ao52 t140.length co52, .int .i64 t143] 30 (0, 0)) (bK BK145.out) hb); have n10_ := Aside0.mk (blk_below (g := gb151) (o := .cells #[.slice Ao59 t146.length co59, .int .i64 t149] 30 (0, 0)) (bK BK151.out) hb); have n11_ := Aside0.mk (below_step (hB4 HB.out GE133.out GE139.out GE145.out GE151.out) hb); clear HO_8 HO_9 HO_12 HO130 HO136 HO142 HO148 BK133 BK139 BK145 BK151 HB; have HO_8 := n0_; have HO_9 := n1_; have HO_12 := n2_; have HO130 := n3_; have HO136 := n4_; have HO142 := n5_; have HO148 := n6_; have BK133 := n7_; have BK139 := n8_; have BK145 := n9_; have BK151 := n10_; have HB := n11_; clear n0_ n1_ n2_ n3_ n4_ n5_ n6_ n7_ n8_ n9_ n10_ n11_; (try clear hb); have hcz133_0 : w132.cell? ⟨gb133, 0, none⟩ = some (.slice Ao41 t128.length co41) := (blk_cell BK133.out 0).trans rfl; have hcz133_1 : w132.cell? ⟨gb133, 1, none⟩ = some (.int .i64 t131) := (blk_cell BK133.out 1).trans rfl; have hfz133_0 := blk_frozen BK133.out 0; have hfz133_1 := blk_frozen BK133.out 1; have hnb134 := NB145_151.out; have hnc134 := NB151_145.out; have hcz135_0 : w132.cell? ⟨gb145, 0, none⟩ = some (.slice Ao52 t140.length co52) := (blk_cell BK145.out 0).trans rfl; have hcz135_1 : w132.cell? ⟨gb145, 1, none⟩ = some (.int .i64 t143) := (blk_cell BK145.out 1).trans rfl; have hfz135_0 := blk_frozen BK145.out 0; have hfz135_1 := blk_frozen BK145.out 1) | (go_at_call 20; (with_reducible refine (timeboundref11_Same.calls k3 _ _ t128 t131 _ _ t140 t143 false _ ?side1 ?side2 ?side3 ?side4 A72.out).mono ?_); (case side1 => exact cK (Kd.R_reads' HO130.out).2.2); (case side2 => exact (Kd.R_reads' HO130.out).2.1); (case side3 => exact cK (Kd.R_reads' HO142.out).2.2); (case side4 => exact (Kd.R_reads' HO142.out).2.1); rintro e w136 ⟨rfl, hb⟩; have n0_ := Aside0.mk (Kd.R_below (rK HO_8.out) hb); have n1_ := Aside0.mk (Kd.R_below (rK HO_9.out) hb); have n2_ := Aside0.mk (Kd.R_below (rK HO_12.out) hb); have n3_ := Aside0.mk (Kd.R_below (rK HO130.out) hb); have n4_ := Aside0.mk (Kd.R_below (rK HO136.out) hb); have n5_ := Aside0.mk (Kd.R_below (rK HO142.out) hb); have n6_ := Aside0.mk (Kd.R_below (rK HO148.out) hb); have n7_ := Aside0.mk (blk_below (g := gb133) (o := .cells #[.slice Ao41 t128.length co41, .int .i64 t131] 30 (0, 0)) (bK BK133.out) hb); have n8_ := Aside0.mk (blk_below (g := gb139) (o := .cells #[.slice Ao46 t134.length co46, .int .i64 t137] 30 (0, 0)) (bK BK139.out) hb); have n9_ := Aside0.mk (blk_below (g := gb145) (o := .cells #[.slice Ao52 t140.length co52, .int .i64 t143] 30 (0, 0)) (bK BK145.out) hb); have n10_ := Aside0.mk (blk_below (g := gb151) (o := .cells #[.slice Ao59 t146.length co59, .int .i64 t149] 30 (0, 0)) (bK BK151.out) hb); have n11_ := Aside0.mk (below_step (hB4 HB.out GE133.out GE139.out GE145.out GE151.out) hb); clear HO_8 HO_9 HO_12 HO130 HO136 HO142 HO148 BK133 BK139 BK145 BK151 HB; have HO_8 := n0_; have HO_9 := n1_; have HO_12 := n2_; have HO130 := n3_; have HO136 := n4_; have HO142 := n5_; have HO148 := n6_; have BK133 := n7_; have BK139 := n8_; have BK145 := n9_; have BK151 := n10_; have HB := n11_; clear n0_ n1_ n2_ n3_ n4_ n5_ n6_ n7_ n8_ n9_ n10_ n11_; (try clear hb)))
                    go_meet
                    case rel => exact ⟨_, (false), rS, H', ⟨by have := HK1.out; have := HK2.out; have := HK3.out; first | omega | exact Nat.le_refl _⟩, ⟨by (with_reducible repeat (first | apply Kd.R_alloc | apply Kd.R_drewN | apply Kd.R_drew)); exact Kd.R_mono HO130.out (fun _ hk => ⟨hk.1.1.2, ⟨hk.1.2, hk.2⟩⟩)⟩, ⟨by (with_reducible repeat (first | apply Kd.R_alloc | apply Kd.R_drewN | apply Kd.R_drew)); exact Kd.R_mono HO136.out (fun _ hk => ⟨hk.1.1.2, ⟨hk.1.2, hk.2⟩⟩)⟩, ⟨by (with_reducible repeat (first | apply Kd.R_alloc | apply Kd.R_drewN | apply Kd.R_drew)); exact Kd.R_mono HO142.out (fun _ hk => ⟨hk.1.1.2, ⟨hk.1.2, hk.2⟩⟩)⟩, ⟨by (with_reducible repeat (first | apply Kd.R_alloc | apply Kd.R_drewN | apply Kd.R_drew)); exact Kd.R_mono HO148.out (fun _ hk => ⟨hk.1.1.2, ⟨hk.1.2, hk.2⟩⟩)⟩, ⟨bK BK133.out⟩, ⟨bK BK139.out⟩, ⟨bK BK145.out⟩, ⟨bK BK151.out⟩, ⟨hB4 HB.out GE133.out GE139.out GE145.out GE151.out⟩⟩
                  ·replace c71 := Bool.eq_false_iff.mpr c71
                   subst c71
                   have H1 : (timeboundlaw11_FactOrder.j3 k3 false) = some r := by rw [if_neg (show ¬ (false = true) by decide)] at H; exact H
                   clear H
                   have H := H1
                   clear H1
                   have H' := Aside0.mk H
                   clear H
                   have hnb137 := NB133_139.out
                   have hnc137 := NB139_133.out
                   have hnb138 := NB133_145.out
                   have hnc138 := NB145_133.out
                   have hnb139 := NB133_151.out
                   have hnc139 := NB151_133.out
                   have hcz140_0 : w58.cell? ⟨gb133, 0, none⟩ = some (.slice Ao41 t128.length co41) := (blk_cell BK133.out 0).trans rfl
                   have hcz140_1 : w58.cell? ⟨gb133, 1, none⟩ = some (.int .i64 t131) := (blk_cell BK133.out 1).trans rfl
                   have hfz140_0 := blk_frozen BK133.out 0
                   have hfz140_1 := blk_frozen BK133.out 1
                   go_wp2_with (first | (go_at_call 18; (with_reducible refine (fact_Check.calls k3 _ _ t128 t131 t152 _ ?side1 ?side2 A68.out).mono ?_); (case side1 => refine (Kd.R_reads' (e := 44) (base := w.heap.size) (ok := fun k_ => ((((((True ∧ some k_ ≠ (.slice Ao25 x8_1.length co25 : Value).ownBlock) ∧ some k_ ≠ (.slice Ao43 x9_2.length co43 : Value).ownBlock) ∧ some k_ ≠ (.slice Ao56 x12_3.length co56 : Value).ownBlock) ∧ some k_ ≠ (.slice Ao46 t134.length co46 : Value).ownBlock) ∧ some k_ ≠ (.slice Ao52 t140.length co52 : Value).ownBlock) ∧ some k_ ≠ (.slice Ao59 t146.length co59 : Value).ownBlock)) (n := t128.length) (c := co41) ?_).2.2; exact (by (with_reducible repeat (first | apply Kd.R_alloc | apply Kd.R_drewN | apply Kd.R_drew)); exact (Kd.R_mono (Kd.R_far (p := ⟨gb151, 1, none⟩) (Kd.R_far (p := ⟨gb151, 0, none⟩) (Kd.R_types HO130.out BK151.out (by decide)) (fun _ hk => hk.2) (.slice Ao59 t146.length co59)) (fun _ hk => hk.2) (.int .i64 t149)) (fun _ h_ => h_.1)))); (case side2 => exact (Kd.R_reads' HO130.out).2.1); rintro e w141 ⟨rfl, hb⟩; have n0_ := Aside0.mk (Kd.R_below (by (with_reducible repeat (first | apply Kd.R_alloc | apply Kd.R_drewN | apply Kd.R_drew)); exact (Kd.R_mono (Kd.R_far (p := ⟨gb151, 1, none⟩) (Kd.R_far (p := ⟨gb151, 0, none⟩) (Kd.R_types HO_8.out BK151.out (by decide)) (fun _ hk => hk.2) (.slice Ao59 t146.length co59)) (fun _ hk => hk.2) (.int .i64 t149)) (fun _ h_ => h_.1))) hb); have n1_ := Aside0.mk (Kd.R_below (by (with_reducible repeat (first | apply Kd.R_alloc | apply Kd.R_drewN | apply Kd.R_drew)); exact (Kd.R_mono (Kd.R_far (p := ⟨gb151, 1, none⟩) (Kd.R_far (p := ⟨gb151, 0, none⟩) (Kd.R_types HO_9.out BK151.out (by decide)) (fun _ hk => hk.2) (.slice Ao59 t146.length co59)) (fun _ hk => hk.2) (.int .i64 t149)) (fun _ h_ => h_.1))) hb); have n2_ := Aside0.mk (Kd.R_below (by (with_reducible repeat (first | apply Kd.R_alloc | apply Kd.R_drewN | apply Kd.R_drew)); exact (Kd.R_mono (Kd.R_far (p := ⟨gb151, 1, none⟩) (Kd.R_far (p := ⟨gb151, 0, none⟩) (Kd.R_types HO_12.out BK151.out (by decide)) (fun _ hk => hk.2) (.slice Ao59 t146.length co59)) (fun _ hk => hk.2) (.int .i64 t149)) (fun _ h_ => h_.1))) hb); have n3_ := Aside0.mk (Kd.R_below (by (with_reducible repeat (first | apply Kd.R_alloc | apply Kd.R_drewN | apply Kd.R_drew)); exact (Kd.R_mono (Kd.R_far (p := ⟨gb151, 1, none⟩) (Kd.R_far (p := ⟨gb151, 0, none⟩) (Kd.R_types HO130.out BK151.out (by decide)) (fun _ hk => hk.2) (.slice Ao59 t146.length co59)) (fun _ hk => hk.2) (.int .i64 t149)) (fun _ h_ => h_.1))) hb); have n4_ := Aside0.mk (Kd.R_below (by (with_reducible repeat (first | apply Kd.R_alloc | apply Kd.R_drewN | apply Kd.R_drew)); exact (Kd.R_mono (Kd.R_far (p := ⟨gb151, 1, none⟩) (Kd.R_far (p := ⟨gb151, 0, none⟩) (Kd.R_types HO136.out BK151.out (by decide)) (fun _ hk => hk.2) (.slice Ao59 t146.length co59)) (fun _ hk => hk.2) (.int .i64 t149)) (fun _ h_ => h_.1))) hb); have n5_ := Aside0.mk (Kd.R_below (by (with_reducible repeat (first | apply Kd.R_alloc | apply Kd.R_drewN | apply Kd.R_drew)); exact (Kd.R_mono (Kd.R_far (p := ⟨gb151, 1, none⟩) (Kd.R_far (p := ⟨gb151, 0, none⟩) (Kd.R_types HO142.out BK151.out (by decide)) (fun _ hk => hk.2) (.slice Ao59 t146.length co59)) (fun _ hk => hk.2) (.int .i64 t149)) (fun _ h_ => h_.1))) hb); have n6_ := Aside0.mk (Kd.R_below (by (with_reducible repeat (first | apply Kd.R_alloc | apply Kd.R_drewN | apply Kd.R_drew)); exact (Kd.R_mono (Kd.R_far (p := ⟨gb151, 1, none⟩) (Kd.R_far (p := ⟨gb151, 0, none⟩) (Kd.R_types HO148.out BK151.out (by decide)) (fun _ hk => hk.2) (.slice Ao59 t146.length co59)) (fun _ hk => hk.2) (.int .i64 t149)) (fun _ h_ => h_.1))) hb); have n7_ := Aside0.mk (blk_below (g := gb133) (o := .cells #[.slice Ao41 t128.length co41, .int .i64 t131] 30 (0, 0)) (by (with_reducible repeat (first | refine blk_drewN ?_ _ | refine blk_drew ?_ | refine blk_alloc ?_ _)); refine blk_far ?_ NB133_151.out _; (with_reducible repeat (first | refine blk_drewN ?_ _ | refine blk_drew ?_ | refine blk_alloc ?_ _)); refine blk_far ?_ NB133_151.out _; (with_reducible repeat (first | refine blk_drewN ?_ _ | refine blk_drew ?_ | refine blk_alloc ?_ _)); exact BK133.out) hb); have n8_ := Aside0.mk (blk_below (g := gb139) (o := .cells #[.slice Ao46 t134.length co46, .int .i64 t137] 30 (0, 0)) (by (with_reducible repeat (first | refine blk_drewN ?_ _ | refine blk_drew ?_ | refine blk_alloc ?_ _)); refine blk_far ?_ NB139_151.out _; (with_reducible repeat (first | refine blk_drewN ?_ _ | refine blk_drew ?_ | refine blk_alloc ?_ _)); refine blk_far ?_ NB139_151.out _; (with_reducible repeat (first | refine blk_drewN ?_ _ | refine blk_drew ?_ | refine blk_alloc ?_ _)); exact BK139.out) hb); have n9_ := Aside0.mk (blk_below (g := gb145) (o := .cells #[.slice Ao52 t140.length co52, .int .i64 t143] 30 (0, 0)) (by (with_reducible repeat (first | refine blk_drewN ?_ _ | refine blk_drew ?_ | refine blk_alloc ?_ _)); refine blk_far ?_ NB145_151.out _; (with_reducible repeat (first | refine blk_drewN ?_ _ | refine blk_drew ?_ | refine blk_alloc ?_ _)); refine blk_far ?_ NB145_151.out _; (with_reducible repeat (first | refine blk_drewN ?_ _ | refine blk_drew ?_ | refine blk_alloc ?_ _)); exact BK145.out) hb); have n10_ := Aside0.mk (blk_below (g := gb151) (o := .cells #[.slice Ao59 t146.length co59, .int .i64 t149] 30 (0, 0)) (by (with_reducible repeat (first | refine blk_drewN ?_ _ | refine blk_drew ?_ | refine blk_alloc ?_ _)); refine blk_put (cs := #[.slice Ao59 t146.length co59, .int .i64 0]) ?_ 1 _ rfl; (with_reducible repeat (first | refine blk_drewN ?_ _ | refine blk_drew ?_ | refine blk_alloc ?_ _)); refine blk_put (cs := #[.slice none 0 0, .int .i64 0]) ?_ 0 _ rfl; (with_reducible repeat (first | refine blk_drewN ?_ _ | refine blk_drew ?_ | refine blk_alloc ?_ _)); exact BK151.out) hb); have n11_ := Aside0.mk (below_step (hB4 HB.out GE133.out GE139.out GE145.out GE151.out) hb); clear HO_8 HO_9 HO_12 HO130 HO136 HO142 HO148 BK133 BK139 BK145 BK151 HB; have HO_8 := n0_; have HO_9 := n1_; have HO_12 := n2_; have HO130 := n3_; have HO136 := n4_; have HO142 := n5_; have HO148 := n6_; have BK133 := n7_; have BK139 := n8_; have BK145 := n9_; have BK151 := n10_; have HB := n11_; clear n0_ n1_ n2_ n3_ n4_ n5_ n6_ n7_ n8_ n9_ n10_ n11_; (try clear hb); (try clear hk); have hcz142_0 : w141.cell? ⟨gb133, 0, none⟩ = some (.slice Ao41 t128.length co41) := (blk_cell BK133.out 0).trans rfl; have hcz142_1 : w141.cell? ⟨gb133, 1, none⟩ = some (.int .i64 t131) := (blk_cell BK133.out 1).trans rfl; have hfz142_0 := blk_frozen BK133.out 0; have hfz142_1 := blk_frozen BK133.out 1; have hnb143 := NB139_145.out; have hnc143 := NB145_139.out; have hnb144 := NB139_151.out; have hnc144 := NB151_139.out; have hcz145_0 : w141.cell? ⟨gb139, 0, none⟩ = some (.slice Ao46 t134.length co46) := (blk_cell BK139.out 0).trans rfl; have hcz145_1 : w141.cell? ⟨gb139, 1, none⟩ = some (.int .i64 t137) := (blk_cell BK139.out 1).trans rfl; have hfz145_0 := blk_frozen BK139.out 0; have hfz145_1 := blk_frozen BK139.out 1) | (go_at_call 20; (with_reducible refine (timeboundref11_Same.calls k3 _ _ t128 t131 _ _ t134 t137 false _ ?side1 ?side2 ?side3 ?side4 A70.out).mono ?_); (case side1 => exact cK (Kd.R_reads' HO130.out).2.2); (case side2 => exact (Kd.R_reads' HO130.out).2.1); (case side3 => exact cK (Kd.R_reads' HO136.out).2.2); (case side4 => exact (Kd.R_reads' HO136.out).2.1); rintro e w146 ⟨rfl, hb⟩; have n0_ := Aside0.mk (Kd.R_below (rK HO_8.out) hb); have n1_ := Aside0.mk (Kd.R_below (rK HO_9.out) hb); have n2_ := Aside0.mk (Kd.R_below (rK HO_12.out) hb); have n3_ := Aside0.mk (Kd.R_below (rK HO130.out) hb); have n4_ := Aside0.mk (Kd.R_below (rK HO136.out) hb); have n5_ := Aside0.mk (Kd.R_below (rK HO142.out) hb); have n6_ := Aside0.mk (Kd.R_below (rK HO148.out) hb); have n7_ := Aside0.mk (blk_below (g := gb133) (o := .cells #[.slice Ao41 t128.length co41, .int .i64 t131] 30 (0, 0)) (bK BK133.out) hb); have n8_ := Aside0.mk (blk_below (g := gb139) (o := .cells #[.slice Ao46 t134.length co46, .int .i64 t137] 30 (0, 0)) (bK BK139.out) hb); have n9_ := Aside0.mk (blk_below (g := gb145) (o := .cells #[.slice Ao52 t140.length co52, .int .i64 t143] 30 (0, 0)) (bK BK145.out) hb); have n10_ := Aside0.mk (blk_below (g := gb151) (o := .cells #[.slice Ao59 t146.length co59, .int .i64 t149] 30 (0, 0)) (bK BK151.out) hb); have n11_ := Aside0.mk (below_step (hB4 HB.out GE133.out GE139.out GE145.out GE151.out) hb); clear HO_8 HO_9 HO_12 HO130 HO136 HO142 HO148 BK133 BK139 BK145 BK151 HB; have HO_8 := n0_; have HO_9 := n1_; have HO_12 := n2_; have HO130 := n3_; have HO136 := n4_; have HO142 := n5_; have HO148 := n6_; have BK133 := n7_; have BK139 := n8_; have BK145 := n9_; have BK151 := n10_; have HB := n11_; clear n0_ n1_ n2_ n3_ n4_ n5_ n6_ n7_ n8_ n9_ n10_ n11_; (try clear hb)))
                   go_meet
                   case rel => exact ⟨_, (false), rS, H', ⟨by have := HK1.out; have := HK2.out; have := HK3.out; first | omega | exact Nat.le_refl _⟩, ⟨by (with_reducible repeat (first | apply Kd.R_alloc | apply Kd.R_drewN | apply Kd.R_drew)); exact Kd.R_mono HO130.out (fun _ hk => ⟨hk.1.1.2, ⟨hk.1.2, hk.2⟩⟩)⟩, ⟨by (with_reducible repeat (first | apply Kd.R_alloc | apply Kd.R_drewN | apply Kd.R_drew)); exact Kd.R_mono HO136.out (fun _ hk => ⟨hk.1.1.2, ⟨hk.1.2, hk.2⟩⟩)⟩, ⟨by (with_reducible repeat (first | apply Kd.R_alloc | apply Kd.R_drewN | apply Kd.R_drew)); exact Kd.R_mono HO142.out (fun _ hk => ⟨hk.1.1.2, ⟨hk.1.2, hk.2⟩⟩)⟩, ⟨by (with_reducible repeat (first | apply Kd.R_alloc | apply Kd.R_drewN | apply Kd.R_drew)); exact Kd.R_mono HO148.out (fun _ hk => ⟨hk.1.1.2, ⟨hk.1.2, hk.2⟩⟩)⟩, ⟨bK BK133.out⟩, ⟨bK BK139.out⟩, ⟨bK BK145.out⟩, ⟨bK BK151.out⟩, ⟨hB4 HB.out GE133.out GE139.out GE145.out GE151.out⟩⟩
                 ·rw [if_neg c69] at H
                  have c69b0 : (t152 == 0) = false := beq_eq_false_iff_ne.mpr c69
                  have c69b1 : (t152 != 0) = true := bne_iff_ne.mpr c69
                  have H' := Aside0.mk H
                  clear H
                  have hnb147 := NB133_139.out
                  have hnc147 := NB139_133.out
                  have hnb148 := NB133_145.out
                  have hnc148 := NB145_133.out
                  have hnb149 := NB133_151.out
                  have hnc149 := NB151_133.out
                  have hcz150_0 : w58.cell? ⟨gb133, 0, none⟩ = some (.slice Ao41 t128.length co41) := (blk_cell BK133.out 0).trans rfl
                  have hcz150_1 : w58.cell? ⟨gb133, 1, none⟩ = some (.int .i64 t131) := (blk_cell BK133.out 1).trans rfl
                  have hfz150_0 := blk_frozen BK133.out 0
                  have hfz150_1 := blk_frozen BK133.out 1
                  go_wp2_with (first | (go_at_call 18; (with_reducible refine (fact_Check.calls k3 _ _ t128 t131 t152 _ ?side1 ?side2 A68.out).mono ?_); (case side1 => refine (Kd.R_reads' (e := 44) (base := w.heap.size) (ok := fun k_ => ((((((True ∧ some k_ ≠ (.slice Ao25 x8_1.length co25 : Value).ownBlock) ∧ some k_ ≠ (.slice Ao43 x9_2.length co43 : Value).ownBlock) ∧ some k_ ≠ (.slice Ao56 x12_3.length co56 : Value).ownBlock) ∧ some k_ ≠ (.slice Ao46 t134.length co46 : Value).ownBlock) ∧ some k_ ≠ (.slice Ao52 t140.length co52 : Value).ownBlock) ∧ some k_ ≠ (.slice Ao59 t146.length co59 : Value).ownBlock)) (n := t128.length) (c := co41) ?_).2.2; exact (by (with_reducible repeat (first | apply Kd.R_alloc | apply Kd.R_drewN | apply Kd.R_drew)); exact (Kd.R_mono (Kd.R_far (p := ⟨gb151, 1, none⟩) (Kd.R_far (p := ⟨gb151, 0, none⟩) (Kd.R_types HO130.out BK151.out (by decide)) (fun _ hk => hk.2) (.slice Ao59 t146.length co59)) (fun _ hk => hk.2) (.int .i64 t149)) (fun _ h_ => h_.1)))); (case side2 => exact (Kd.R_reads' HO130.out).2.1); rintro e w151 ⟨rfl, hb⟩; have n0_ := Aside0.mk (Kd.R_below (by (with_reducible repeat (first | apply Kd.R_alloc | apply Kd.R_drewN | apply Kd.R_drew)); exact (Kd.R_mono (Kd.R_far (p := ⟨gb151, 1, none⟩) (Kd.R_far (p := ⟨gb151, 0, none⟩) (Kd.R_types HO_8.out BK151.out (by decide)) (fun _ hk => hk.2) (.slice Ao59 t146.length co59)) (fun _ hk => hk.2) (.int .i64 t149)) (fun _ h_ => h_.1))) hb); have n1_ := Aside0.mk (Kd.R_below (by (with_reducible repeat (first | apply Kd.R_alloc | apply Kd.R_drewN | apply Kd.R_drew)); exact (Kd.R_mono (Kd.R_far (p := ⟨gb151, 1, none⟩) (Kd.R_far (p := ⟨gb151, 0, none⟩) (Kd.R_types HO_9.out BK151.out (by decide)) (fun _ hk => hk.2) (.slice Ao59 t146.length co59)) (fun _ hk => hk.2) (.int .i64 t149)) (fun _ h_ => h_.1))) hb); have n2_ := Aside0.mk (Kd.R_below (by (with_reducible repeat (first | apply Kd.R_alloc | apply Kd.R_drewN | apply Kd.R_drew)); exact (Kd.R_mono (Kd.R_far (p := ⟨gb151, 1, none⟩) (Kd.R_far (p := ⟨gb151, 0, none⟩) (Kd.R_types HO_12.out BK151.out (by decide)) (fun _ hk => hk.2) (.slice Ao59 t146.length co59)) (fun _ hk => hk.2) (.int .i64 t149)) (fun _ h_ => h_.1))) hb); have n3_ := Aside0.mk (Kd.R_below (by (with_reducible repeat (first | apply Kd.R_alloc | apply Kd.R_drewN | apply Kd.R_drew)); exact (Kd.R_mono (Kd.R_far (p := ⟨gb151, 1, none⟩) (Kd.R_far (p := ⟨gb151, 0, none⟩) (Kd.R_types HO130.out BK151.out (by decide)) (fun _ hk => hk.2) (.slice Ao59 t146.length co59)) (fun _ hk => hk.2) (.int .i64 t149)) (fun _ h_ => h_.1))) hb); have n4_ := Aside0.mk (Kd.R_below (by (with_reducible repeat (first | apply Kd.R_alloc | apply Kd.R_drewN | apply Kd.R_drew)); exact (Kd.R_mono (Kd.R_far (p := ⟨gb151, 1, none⟩) (Kd.R_far (p := ⟨gb151, 0, none⟩) (Kd.R_types HO136.out BK151.out (by decide)) (fun _ hk => hk.2) (.slice Ao59 t146.length co59)) (fun _ hk => hk.2) (.int .i64 t149)) (fun _ h_ => h_.1))) hb); have n5_ := Aside0.mk (Kd.R_below (by (with_reducible repeat (first | apply Kd.R_alloc | apply Kd.R_drewN | apply Kd.R_drew)); exact (Kd.R_mono (Kd.R_far (p := ⟨gb151, 1, none⟩) (Kd.R_far (p := ⟨gb151, 0, none⟩) (Kd.R_types HO142.out BK151.out (by decide)) (fun _ hk => hk.2) (.slice Ao59 t146.length co59)) (fun _ hk => hk.2) (.int .i64 t149)) (fun _ h_ => h_.1))) hb); have n6_ := Aside0.mk (Kd.R_below (by (with_reducible repeat (first | apply Kd.R_alloc | apply Kd.R_drewN | apply Kd.R_drew)); exact (Kd.R_mono (Kd.R_far (p := ⟨gb151, 1, none⟩) (Kd.R_far (p := ⟨gb151, 0, none⟩) (Kd.R_types HO148.out BK151.out (by decide)) (fun _ hk => hk.2) (.slice Ao59 t146.length co59)) (fun _ hk => hk.2) (.int .i64 t149)) (fun _ h_ => h_.1))) hb); have n7_ := Aside0.mk (blk_below (g := gb133) (o := .cells #[.slice Ao41 t128.length co41, .int .i64 t131] 30 (0, 0)) (by (with_reducible repeat (first | refine blk_drewN ?_ _ | refine blk_drew ?_ | refine blk_alloc ?_ _)); refine blk_far ?_ NB133_151.out _; (with_reducible repeat (first | refine blk_drewN ?_ _ | refine blk_drew ?_ | refine blk_alloc ?_ _)); refine blk_far ?_ NB133_151.out _; (with_reducible repeat (first | refine blk_drewN ?_ _ | refine blk_drew ?_ | refine blk_alloc ?_ _)); exact BK133.out) hb); have n8_ := Aside0.mk (blk_below (g := gb139) (o := .cells #[.slice Ao46 t134.length co46, .int .i64 t137] 30 (0, 0)) (by (with_reducible repeat (first | refine blk_drewN ?_ _ | refine blk_drew ?_ | refine blk_alloc ?_ _)); refine blk_far ?_ NB139_151.out _; (with_reducible repeat (first | refine blk_drewN ?_ _ | refine blk_drew ?_ | refine blk_alloc ?_ _)); refine blk_far ?_ NB139_151.out _; (with_reducible repeat (first | refine blk_drewN ?_ _ | refine blk_drew ?_ | refine blk_alloc ?_ _)); exact BK139.out) hb); have n9_ := Aside0.mk (blk_below (g := gb145) (o := .cells #[.slice Ao52 t140.length co52, .int .i64 t143] 30 (0, 0)) (by (with_reducible repeat (first | refine blk_drewN ?_ _ | refine blk_drew ?_ | refine blk_alloc ?_ _)); refine blk_far ?_ NB145_151.out _; (with_reducible repeat (first | refine blk_drewN ?_ _ | refine blk_drew ?_ | refine blk_alloc ?_ _)); refine blk_far ?_ NB145_151.out _; (with_reducible repeat (first | refine blk_drewN ?_ _ | refine blk_drew ?_ | refine blk_alloc ?_ _)); exact BK145.out) hb); have n10_ := Aside0.mk (blk_below (g := gb151) (o := .cells #[.slice Ao59 t146.length co59, .int .i64 t149] 30 (0, 0)) (by (with_reducible repeat (first | refine blk_drewN ?_ _ | refine blk_drew ?_ | refine blk_alloc ?_ _)); refine blk_put (cs := #[.slice Ao59 t146.length co59, .int .i64 0]) ?_ 1 _ rfl; (with_reducible repeat (first | refine blk_drewN ?_ _ | refine blk_drew ?_ | refine blk_alloc ?_ _)); refine blk_put (cs := #[.slice none 0 0, .int .i64 0]) ?_ 0 _ rfl; (with_reducible repeat (first | refine blk_drewN ?_ _ | refine blk_drew ?_ | refine blk_alloc ?_ _)); exact BK151.out) hb); have n11_ := Aside0.mk (below_step (hB4 HB.out GE133.out GE139.out GE145.out GE151.out) hb); clear HO_8 HO_9 HO_12 HO130 HO136 HO142 HO148 BK133 BK139 BK145 BK151 HB; have HO_8 := n0_; have HO_9 := n1_; have HO_12 := n2_; have HO130 := n3_; have HO136 := n4_; have HO142 := n5_; have HO148 := n6_; have BK133 := n7_; have BK139 := n8_; have BK145 := n9_; have BK151 := n10_; have HB := n11_; clear n0_ n1_ n2_ n3_ n4_ n5_ n6_ n7_ n8_ n9_ n10_ n11_; (try clear hb); (try clear hk)))
                  go_meet
                  case rel => exact ⟨_, (false), rS, H', ⟨by have := HK1.out; have := HK2.out; have := HK3.out; first | omega | exact Nat.le_refl _⟩, ⟨by (with_reducible repeat (first | apply Kd.R_alloc | apply Kd.R_drewN | apply Kd.R_drew)); exact Kd.R_mono HO130.out (fun _ hk => ⟨hk.1.1.2, ⟨hk.1.2, hk.2⟩⟩)⟩, ⟨by (with_reducible repeat (first | apply Kd.R_alloc | apply Kd.R_drewN | apply Kd.R_drew)); exact Kd.R_mono HO136.out (fun _ hk => ⟨hk.1.1.2, ⟨hk.1.2, hk.2⟩⟩)⟩, ⟨by (with_reducible repeat (first | apply Kd.R_alloc | apply Kd.R_drewN | apply Kd.R_drew)); exact Kd.R_mono HO142.out (fun _ hk => ⟨hk.1.1.2, ⟨hk.1.2, hk.2⟩⟩)⟩, ⟨by (with_reducible repeat (first | apply Kd.R_alloc | apply Kd.R_drewN | apply Kd.R_drew)); exact Kd.R_mono HO148.out (fun _ hk => ⟨hk.1.1.2, ⟨hk.1.2, hk.2⟩⟩)⟩, ⟨bK BK133.out⟩, ⟨bK BK139.out⟩, ⟨bK BK145.out⟩, ⟨bK BK151.out⟩, ⟨hB4 HB.out GE133.out GE139.out GE145.out GE151.out⟩⟩
                ·rw [if_neg c67] at H
                 have c67b0 : (t150 == 0) = false := beq_eq_false_iff_ne.mpr c67
                 have c67b1 : (t150 != 0) = true := bne_iff_ne.mpr c67
                 have H' := Aside0.mk H
                 clear H
                 go_wp2
                 go_meet
                 case rel => exact ⟨_, (false), rS, H', ⟨by have := HK1.out; have := HK2.out; have := HK3.out; first | omega | exact Nat.le_refl _⟩, ⟨by (with_reducible repeat (first | apply Kd.R_alloc | apply Kd.R_drewN | apply Kd.R_drew)); exact Kd.R_mono (Kd.R_far (p := ⟨gb151, 1, none⟩) (Kd.R_far (p := ⟨gb151, 0, none⟩) (Kd.R_types HO130.out BK151.out (by decide)) (fun _ hk => hk.2) (.slice Ao59 t146.length co59)) (fun _ hk => hk.2) (.int .i64 t149)) (fun _ hk => ⟨hk.1.1.1.2, ⟨hk.1.1.2, hk.1.2⟩⟩)⟩, ⟨by (with_reducible repeat (first | apply Kd.R_alloc | apply Kd.R_drewN | apply Kd.R_drew)); exact Kd.R_mono (Kd.R_far (p := ⟨gb151, 1, none⟩) (Kd.R_far (p := ⟨gb151, 0, none⟩) (Kd.R_types HO136.out BK151.out (by decide)) (fun _ hk => hk.2) (.slice Ao59 t146.length co59)) (fun _ hk => hk.2) (.int .i64 t149)) (fun _ hk => ⟨hk.1.1.1.2, ⟨hk.1.1.2, hk.1.2⟩⟩)⟩, ⟨by (with_reducible repeat (first | apply Kd.R_alloc | apply Kd.R_drewN | apply Kd.R_drew)); exact Kd.R_mono (Kd.R_far (p := ⟨gb151, 1, none⟩) (Kd.R_far (p := ⟨gb151, 0, none⟩) (Kd.R_types HO142.out BK151.out (by decide)) (fun _ hk => hk.2) (.slice Ao59 t146.length co59)) (fun _ hk => hk.2) (.int .i64 t149)) (fun _ hk => ⟨hk.1.1.1.2, ⟨hk.1.1.2, hk.1.2⟩⟩)⟩, ⟨by (with_reducible repeat (first | apply Kd.R_alloc | apply Kd.R_drewN | apply Kd.R_drew)); exact Kd.R_mono (Kd.R_far (p := ⟨gb151, 1, none⟩) (Kd.R_far (p := ⟨gb151, 0, none⟩) (Kd.R_types HO148.out BK151.out (by decide)) (fun _ hk => hk.2) (.slice Ao59 t146.length co59)) (fun _ hk => hk.2) (.int .i64 t149)) (fun _ hk => ⟨hk.1.1.1.2, ⟨hk.1.1.2, hk.1.2⟩⟩)⟩, ⟨by (with_reducible repeat (first | refine blk_drewN ?_ _ | refine blk_drew ?_ | refine blk_alloc ?_ _)); refine blk_far ?_ NB133_151.out _; (with_reducible repeat (first | refine blk_drewN ?_ _ | refine blk_drew ?_ | refine blk_alloc ?_ _)); refine blk_far ?_ NB133_151.out _; (with_reducible repeat (first | refine blk_drewN ?_ _ | refine blk_drew ?_ | refine blk_alloc ?_ _)); exact BK133.out⟩, ⟨by (with_reducible repeat (first | refine blk_drewN ?_ _ | refine blk_drew ?_ | refine blk_alloc ?_ _)); refine blk_far ?_ NB139_151.out _; (with_reducible repeat (first | refine blk_drewN ?_ _ | refine blk_drew ?_ | refine blk_alloc ?_ _)); refine blk_far ?_ NB139_151.out _; (with_reducible repeat (first | refine blk_drewN ?_ _ | refine blk_drew ?_ | refine blk_alloc ?_ _)); exact BK139.out⟩, ⟨by (with_reducible repeat (first | refine blk_drewN ?_ _ | refine blk_drew ?_ | refine blk_alloc ?_ _)); refine blk_far ?_ NB145_151.out _; (with_reducible repeat (first | refine blk_drewN ?_ _ | refine blk_drew ?_ | refine blk_alloc ?_ _)); refine blk_far ?_ NB145_151.out _; (with_reducible repeat (first | refine blk_drewN ?_ _ | refine blk_drew ?_ | refine blk_alloc ?_ _)); exact BK145.out⟩, ⟨by (with_reducible repeat (first | refine blk_drewN ?_ _ | refine blk_drew ?_ | refine blk_alloc ?_ _)); refine blk_put (cs := #[.slice Ao59 t146.length co59, .int .i64 0]) ?_ 1 _ rfl; (with_reducible repeat (first | refine blk_drewN ?_ _ | refine blk_drew ?_ | refine blk_alloc ?_ _)); refine blk_put (cs := #[.slice none 0 0, .int .i64 0]) ?_ 0 _ rfl; (with_reducible repeat (first | refine blk_drewN ?_ _ | refine blk_drew ?_ | refine blk_alloc ?_ _)); exact BK151.out⟩, ⟨hB4 HB.out GE133.out GE139.out GE145.out GE151.out⟩⟩
               ·rw [if_neg c66] at H
                have c66b0 : (t144 == 0) = false := beq_eq_false_iff_ne.mpr c66
                have c66b1 : (t144 != 0) = true := bne_iff_ne.mpr c66
                have H' := Aside0.mk H
                clear H
                go_wp2
                go_meet
                case rel => exact ⟨_, (false), rS, H', ⟨by have := HK1.out; have := HK2.out; have := HK3.out; first | omega | exact Nat.le_refl _⟩, ⟨by (with_reducible repeat (first | apply Kd.R_alloc | apply Kd.R_drewN | apply Kd.R_drew)); exact Kd.R_mono (Kd.R_far (p := ⟨gb151, 1, none⟩) (Kd.R_far (p := ⟨gb151, 0, none⟩) (Kd.R_types HO130.out BK151.out (by decide)) (fun _ hk => hk.2) (.slice Ao59 t146.length co59)) (fun _ hk => hk.2) (.int .i64 t149)) (fun _ hk => ⟨hk.1.1.1.2, ⟨hk.1.1.2, hk.1.2⟩⟩)⟩, ⟨by (with_reducible repeat (first | apply Kd.R_alloc | apply Kd.R_drewN | apply Kd.R_drew)); exact Kd.R_mono (Kd.R_far (p := ⟨gb151, 1, none⟩) (Kd.R_far (p := ⟨gb151, 0, none⟩) (Kd.R_types HO136.out BK151.out (by decide)) (fun _ hk => hk.2) (.slice Ao59 t146.length co59)) (fun _ hk => hk.2) (.int .i64 t149)) (fun _ hk => ⟨hk.1.1.1.2, ⟨hk.1.1.2, hk.1.2⟩⟩)⟩, ⟨by (with_reducible repeat (first | apply Kd.R_alloc | apply Kd.R_drewN | apply Kd.R_drew)); exact Kd.R_mono (Kd.R_far (p := ⟨gb151, 1, none⟩) (Kd.R_far (p := ⟨gb151, 0, none⟩) (Kd.R_types HO142.out BK151.out (by decide)) (fun _ hk => hk.2) (.slice Ao59 t146.length co59)) (fun _ hk => hk.2) (.int .i64 t149)) (fun _ hk => ⟨hk.1.1.1.2, ⟨hk.1.1.2, hk.1.2⟩⟩)⟩, ⟨by (with_reducible repeat (first | apply Kd.R_alloc | apply Kd.R_drewN | apply Kd.R_drew)); exact Kd.R_mono (Kd.R_far (p := ⟨gb151, 1, none⟩) (Kd.R_far (p := ⟨gb151, 0, none⟩) (Kd.R_types HO148.out BK151.out (by decide)) (fun _ hk => hk.2) (.slice Ao59 t146.length co59)) (fun _ hk => hk.2) (.int .i64 t149)) (fun _ hk => ⟨hk.1.1.1.2, ⟨hk.1.1.2, hk.1.2⟩⟩)⟩, ⟨by (with_reducible repeat (first | refine blk_drewN ?_ _ | refine blk_drew ?_ | refine blk_alloc ?_ _)); refine blk_far ?_ NB133_151.out _; (with_reducible repeat (first | refine blk_drewN ?_ _ | refine blk_drew ?_ | refine blk_alloc ?_ _)); refine blk_far ?_ NB133_151.out _; (with_reducible repeat (first | refine blk_drewN ?_ _ | refine blk_drew ?_ | refine blk_alloc ?_ _)); exact BK133.out⟩, ⟨by (with_reducible repeat (first | refine blk_drewN ?_ _ | refine blk_drew ?_ | refine blk_alloc ?_ _)); refine blk_far ?_ NB139_151.out _; (with_reducible repeat (first | refine blk_drewN ?_ _ | refine blk_drew ?_ | refine blk_alloc ?_ _)); refine blk_far ?_ NB139_151.out _; (with_reducible repeat (first | refine blk_drewN ?_ _ | refine blk_drew ?_ | refine blk_alloc ?_ _)); exact BK139.out⟩, ⟨by (with_reducible repeat (first | refine blk_drewN ?_ _ | refine blk_drew ?_ | refine blk_alloc ?_ _)); refine blk_far ?_ NB145_151.out _; (with_reducible repeat (first | refine blk_drewN ?_ _ | refine blk_drew ?_ | refine blk_alloc ?_ _)); refine blk_far ?_ NB145_151.out _; (with_reducible repeat (first | refine blk_drewN ?_ _ | refine blk_drew ?_ | refine blk_alloc ?_ _)); exact BK145.out⟩, ⟨by (with_reducible repeat (first | refine blk_drewN ?_ _ | refine blk_drew ?_ | refine blk_alloc ?_ _)); refine blk_put (cs := #[.slice Ao59 t146.length co59, .int .i64 0]) ?_ 1 _ rfl; (with_reducible repeat (first | refine blk_drewN ?_ _ | refine blk_drew ?_ | refine blk_alloc ?_ _)); refine blk_put (cs := #[.slice none 0 0, .int .i64 0]) ?_ 0 _ rfl; (with_reducible repeat (first | refine blk_drewN ?_ _ | refine blk_drew ?_ | refine blk_alloc ?_ _)); exact BK151.out⟩, ⟨hB4 HB.out GE133.out GE139.out GE145.out GE151.out⟩⟩
              ·rw [if_neg c65] at H
               have c65b0 : (t138 == 0) = false := beq_eq_false_iff_ne.mpr c65
               have c65b1 : (t138 != 0) = true := bne_iff_ne.mpr c65
               have H' := Aside0.mk H
               clear H
               go_wp2
               go_meet
               case rel => exact ⟨_, (false), rS, H', ⟨by have := HK1.out; have := HK2.out; have := HK3.out; first | omega | exact Nat.le_refl _⟩, ⟨by (with_reducible repeat (first | apply Kd.R_alloc | apply Kd.R_drewN | apply Kd.R_drew)); exact Kd.R_mono (Kd.R_far (p := ⟨gb151, 1, none⟩) (Kd.R_far (p := ⟨gb151, 0, none⟩) (Kd.R_types HO130.out BK151.out (by decide)) (fun _ hk => hk.2) (.slice Ao59 t146.length co59)) (fun _ hk => hk.2) (.int .i64 t149)) (fun _ hk => ⟨hk.1.1.1.2, ⟨hk.1.1.2, hk.1.2⟩⟩)⟩, ⟨by (with_reducible repeat (first | apply Kd.R_alloc | apply Kd.R_drewN | apply Kd.R_drew)); exact Kd.R_mono (Kd.R_far (p := ⟨gb151, 1, none⟩) (Kd.R_far (p := ⟨gb151, 0, none⟩) (Kd.R_types HO136.out BK151.out (by decide)) (fun _ hk => hk.2) (.slice Ao59 t146.length co59)) (fun _ hk => hk.2) (.int .i64 t149)) (fun _ hk => ⟨hk.1.1.1.2, ⟨hk.1.1.2, hk.1.2⟩⟩)⟩, ⟨by (with_reducible repeat (first | apply Kd.R_alloc | apply Kd.R_drewN | apply Kd.R_drew)); exact Kd.R_mono (Kd.R_far (p := ⟨gb151, 1, none⟩) (Kd.R_far (p := ⟨gb151, 0, none⟩) (Kd.R_types HO142.out BK151.out (by decide)) (fun _ hk => hk.2) (.slice Ao59 t146.length co59)) (fun _ hk => hk.2) (.int .i64 t149)) (fun _ hk => ⟨hk.1.1.1.2, ⟨hk.1.1.2, hk.1.2⟩⟩)⟩, ⟨by (with_reducible repeat (first | apply Kd.R_alloc | apply Kd.R_drewN | apply Kd.R_drew)); exact Kd.R_mono (Kd.R_far (p := ⟨gb151, 1, none⟩) (Kd.R_far (p := ⟨gb151, 0, none⟩) (Kd.R_types HO148.out BK151.out (by decide)) (fun _ hk => hk.2) (.slice Ao59 t146.length co59)) (fun _ hk => hk.2) (.int .i64 t149)) (fun _ hk => ⟨hk.1.1.1.2, ⟨hk.1.1.2, hk.1.2⟩⟩)⟩, ⟨by (with_reducible repeat (first | refine blk_drewN ?_ _ | refine blk_drew ?_ | refine blk_alloc ?_ _)); refine blk_far ?_ NB133_151.out _; (with_reducible repeat (first | refine blk_drewN ?_ _ | refine blk_drew ?_ | refine blk_alloc ?_ _)); refine blk_far ?_ NB133_151.out _; (with_reducible repeat (first | refine blk_drewN ?_ _ | refine blk_drew ?_ | refine blk_alloc ?_ _)); exact BK133.out⟩, ⟨by (with_reducible repeat (first | refine blk_drewN ?_ _ | refine blk_drew ?_ | refine blk_alloc ?_ _)); refine blk_far ?_ NB139_151.out _; (with_reducible repeat (first | refine blk_drewN ?_ _ | refine blk_drew ?_ | refine blk_alloc ?_ _)); refine blk_far ?_ NB139_151.out _; (with_reducible repeat (first | refine blk_drewN ?_ _ | refine blk_drew ?_ | refine blk_alloc ?_ _)); exact BK139.out⟩, ⟨by (with_reducible repeat (first | refine blk_drewN ?_ _ | refine blk_drew ?_ | refine blk_alloc ?_ _)); refine blk_far ?_ NB145_151.out _; (with_reducible repeat (first | refine blk_drewN ?_ _ | refine blk_drew ?_ | refine blk_alloc ?_ _)); refine blk_far ?_ NB145_151.out _; (with_reducible repeat (first | refine blk_drewN ?_ _ | refine blk_drew ?_ | refine blk_alloc ?_ _)); exact BK145.out⟩, ⟨by (with_reducible repeat (first | refine blk_drewN ?_ _ | refine blk_drew ?_ | refine blk_alloc ?_ _)); refine blk_put (cs := #[.slice Ao59 t146.length co59, .int .i64 0]) ?_ 1 _ rfl; (with_reducible repeat (first | refine blk_drewN ?_ _ | refine blk_drew ?_ | refine blk_alloc ?_ _)); refine blk_put (cs := #[.slice none 0 0, .int .i64 0]) ?_ 0 _ rfl; (with_reducible repeat (first | refine blk_drewN ?_ _ | refine blk_drew ?_ | refine blk_alloc ?_ _)); exact BK151.out⟩, ⟨hB4 HB.out GE133.out GE139.out GE145.out GE151.out⟩⟩
             ·rw [if_neg c64] at H
              have c64b0 : (t132 == 0) = false := beq_eq_false_iff_ne.mpr c64
              have c64b1 : (t132 != 0) = true := bne_iff_ne.mpr c64
              (first | rw [c64b0] | (simp only [i64_w, i32_w]; rw [c64b0]) | skip)
              have H' := Aside0.mk H
              clear H
              go_wp2
              go_meet
              case rel => exact ⟨_, (false), rS, H', ⟨by have := HK1.out; have := HK2.out; have := HK3.out; first | omega | exact Nat.le_refl _⟩, ⟨by (with_reducible repeat (first | apply Kd.R_alloc | apply Kd.R_drewN | apply Kd.R_drew)); exact Kd.R_mono (Kd.R_far (p := ⟨gb151, 1, none⟩) (Kd.R_far (p := ⟨gb151, 0, none⟩) (Kd.R_types HO130.out BK151.out (by decide)) (fun _ hk => hk.2) (.slice Ao59 t146.length co59)) (fun _ hk => hk.2) (.int .i64 t149)) (fun _ hk => ⟨hk.1.1.1.2, ⟨hk.1.1.2, hk.1.2⟩⟩)⟩, ⟨by (with_reducible repeat (first | apply Kd.R_alloc | apply Kd.R_drewN | apply Kd.R_drew)); exact Kd.R_mono (Kd.R_far (p := ⟨gb151, 1, none⟩) (Kd.R_far (p := ⟨gb151, 0, none⟩) (Kd.R_types HO136.out BK151.out (by decide)) (fun _ hk => hk.2) (.slice Ao59 t146.length co59)) (fun _ hk => hk.2) (.int .i64 t149)) (fun _ hk => ⟨hk.1.1.1.2, ⟨hk.1.1.2, hk.1.2⟩⟩)⟩, ⟨by (with_reducible repeat (first | apply Kd.R_alloc | apply Kd.R_drewN | apply Kd.R_drew)); exact Kd.R_mono (Kd.R_far (p := ⟨gb151, 1, none⟩) (Kd.R_far (p := ⟨gb151, 0, none⟩) (Kd.R_types HO142.out BK151.out (by decide)) (fun _ hk => hk.2) (.slice Ao59 t146.length co59)) (fun _ hk => hk.2) (.int .i64 t149)) (fun _ hk => ⟨hk.1.1.1.2, ⟨hk.1.1.2, hk.1.2⟩⟩)⟩, ⟨by (with_reducible repeat (first | apply Kd.R_alloc | apply Kd.R_drewN | apply Kd.R_drew)); exact Kd.R_mono (Kd.R_far (p := ⟨gb151, 1, none⟩) (Kd.R_far (p := ⟨gb151, 0, none⟩) (Kd.R_types HO148.out BK151.out (by decide)) (fun _ hk => hk.2) (.slice Ao59 t146.length co59)) (fun _ hk => hk.2) (.int .i64 t149)) (fun _ hk => ⟨hk.1.1.1.2, ⟨hk.1.1.2, hk.1.2⟩⟩)⟩, ⟨by (with_reducible repeat (first | refine blk_drewN ?_ _ | refine blk_drew ?_ | refine blk_alloc ?_ _)); refine blk_far ?_ NB133_151.out _; (with_reducible repeat (first | refine blk_drewN ?_ _ | refine blk_drew ?_ | refine blk_alloc ?_ _)); refine blk_far ?_ NB133_151.out _; (with_reducible repeat (first | refine blk_drewN ?_ _ | refine blk_drew ?_ | refine blk_alloc ?_ _)); exact BK133.out⟩, ⟨by (with_reducible repeat (first | refine blk_drewN ?_ _ | refine blk_drew ?_ | refine blk_alloc ?_ _)); refine blk_far ?_ NB139_151.out _; (with_reducible repeat (first | refine blk_drewN ?_ _ | refine blk_drew ?_ | refine blk_alloc ?_ _)); refine blk_far ?_ NB139_151.out _; (with_reducible repeat (first | refine blk_drewN ?_ _ | refine blk_drew ?_ | refine blk_alloc ?_ _)); exact BK139.out⟩, ⟨by (with_reducible repeat (first | refine blk_drewN ?_ _ | refine blk_drew ?_ | refine blk_alloc ?_ _)); refine blk_far ?_ NB145_151.out _; (with_reducible repeat (first | refine blk_drewN ?_ _ | refine blk_drew ?_ | refine blk_alloc ?_ _)); refine blk_far ?_ NB145_151.out _; (with_reducible repeat (first | refine blk_drewN ?_ _ | refine blk_drew ?_ | refine blk_alloc ?_ _)); exact BK145.out⟩, ⟨by (with_reducible repeat (first | refine blk_drewN ?_ _ | refine blk_drew ?_ | refine blk_alloc ?_ _)); refine blk_put (cs := #[.slice Ao59 t146.length co59, .int .i64 0]) ?_ 1 _ rfl; (with_reducible repeat (first | refine blk_drewN ?_ _ | refine blk_drew ?_ | refine blk_alloc ?_ _)); refine blk_put (cs := #[.slice none 0 0, .int .i64 0]) ?_ 0 _ rfl; (with_reducible repeat (first | refine blk_drewN ?_ _ | refine blk_drew ?_ | refine blk_alloc ?_ _)); exact BK151.out⟩, ⟨hB4 HB.out GE133.out GE139.out GE145.out GE151.out⟩⟩
            case rest =>
             clear HC38
             try clear c26b0
             try clear hcz42_0
             try clear hcz42_1
             try clear hcz48_0
             try clear hcz48_1
             try clear hcz49_0
             try clear hcz49_1
             try clear hcz55_0
             try clear hcz55_1
             try clear hcz63_0
             try clear hcz63_1
             try clear hfz42_0
             try clear hfz42_1
             try clear hfz48_0
             try clear hfz48_1
             try clear hfz49_0
             try clear hfz49_1
             try clear hfz55_0
             try clear hfz55_1
             try clear hfz63_0
             try clear hfz63_1
             obtain ⟨kq, x6_37, rfl, HA, HJ37, HO_134000, HO_140000, HO_146000, HO_152000, BK133, BK139, BK145, BK151, HB⟩ := hcut
             cases kq with
             | zero => exact absurd HA.out (by simp [timeboundlaw11_FactOrder.j3])
             | succ kj37 =>
              have H := HA.out
              clear HA
              simp only [timeboundlaw11_FactOrder.j3] at H
              obtain rfl := Option.some.inj H
              go_wp2
              go_ret
              exact ⟨eW, hB4 HB.out GE133.out GE139.out GE145.out GE151.out⟩
  ·replace c5 := Bool.eq_false_iff.mpr c5
   subst c5
   have H1 : ((timeboundlaw11_awake.f k).bind fun t102 => (some t102)) = some r := by rw [if_neg (show ¬ (false = true) by decide)] at H; exact H
   clear H
   have H := H1
   clear H1
   replace H := Option.bind_eq_some_iff.mp H
   obtain ⟨t102, A1520, H⟩ := H
   replace H : (some t102) = some r := H
   have A152 := Aside0.mk A1520
   clear A1520
   obtain rfl := Option.some.inj H
   go_enter Try.func4, Try.ntmps4
   go_wp2_with (first | ((with_reducible refine gate_callee (f := 8) rfl ?_); refine goesL_ (some 23) rfl rfl Try.func8 (by kernel_rfl) rfl #[.slice A0 l0.length c0] rfl aM ?_; (with_reducible refine (timeboundmake_Few.calls _ _ l0 false _ ?side1 ?side2 A4.out).mono ?_); (case side1 => exact cK HR0.out); (case side2 => exact HC0.out); rintro e w' ⟨rfl, ⟨nd, rfl⟩⟩; refine ⟨_, rfl, ?_⟩) | ((with_reducible refine gate_callee (f := 9) rfl ?_); refine goesL_ (some 25) rfl rfl Try.func9 (by kernel_rfl) rfl #[] rfl aM ?_; (with_reducible refine (timeboundlaw11_awake.calls k  t102 _ A152.out).mono ?_); rintro e w153 ⟨rfl, hb⟩; refine ⟨_, rfl, ?_⟩; have n0_ := Aside0.mk (below_step (hB0 HB.out) hb); clear HB; have HB := n0_; clear n0_; (try clear hb)))
   go_ret
   exact ⟨eW, hB0 HB.out⟩
def timeboundlaw11_FactOrder.Pure : Prop := ∀ (l0 : List Int) (a1 : Int) (a2 : Int), l0.length ≤ maxLen → l0.length * 8 ≤ 140737488351232 → (∀ x ∈ l0, (Lit.int .i64 x).wf = true) → (Lit.int .u8 a1).wf = true → (Lit.int .i16 a2).wf = true → ∃ k, timeboundlaw11_FactOrder.f k l0 a1 a2 = some true
theorem timeboundlaw11_FactOrder.walk (P : timeboundlaw11_FactOrder.Pure) (a0 : Option Addr) (len0 cap0 : Nat) (z0 : List Int) (a1 : Int) (a2 : Int) (w : World) (w0 : (a0 = none ∧ len0 = 0 ∧ cap0 = 0 ∧ z0 = []) ∨ ∃ x, a0 = some x ∧ len0 ≤ cap0 ∧ cap0 ≤ maxLen ∧ z0.length = cap0 ∧ (∀ i, i < z0.length → w.cell? (x.add i) = some (.int .i64 (z0.getD i 0))) ∧ ∀ n ∈ z0, (Lit.int .i64 n).wf = true) (y0 : len0 * 8 ≤ 140737488351232) (w1 : (Lit.int .u8 a1).wf = true) (w2 : (Lit.int .i16 a2).wf = true) :
   Calls Try.prog 4 #[.slice a0 len0 cap0, .int .u8 a1, .int .i16 a2] w fun e w' => e = .returned (.bool true) ∧ Below w.heap.size w w' := by
  obtain ⟨l0, rfl, hr0, hm0, hw0, hc0⟩ := ReadsInt.ofRowC w0
  obtain ⟨k, h⟩ := P l0 a1 a2 hm0 y0 hw0 w1 w2
  refine (timeboundlaw11_FactOrder.calls k _ _ l0 a1 a2 true w (Kd.C_of_reads (d := (0 : Int)) (h1 := fun _ => rfl) hr0) hc0 h).mono ?_
  rintro e w' ⟨rfl, hd⟩
  exact ⟨rfl, hd⟩
end Go.Proofs.Ytikpfbfeoifmkaa.X
end
section
namespace Go.Proofs.Ytikpfbfeoifmkaa.Z
open Go.RowKit Go.Proofs.Ytikpfbfeoifmkaa.X Go.Proofs.YtikpfbfeoifmkaaW.PrintWords Go.Proofs.YtikpfbfeoifmkaaW.PrintLast
set_option linter.unusedVariables false
section
variable {α β : Type} {f g : Nat → Option α} {r : α}
theorem evp {c : Prop} [Decidable c] (h : c) (k : Ev f r) : Ev (fun n => if c then f n else g n) r := by
  simpa only [if_pos h] using k
theorem evn {c : Prop} [Decidable c] (h : ¬ c) (k : Ev g r) : Ev (fun n => if c then f n else g n) r := by
  simpa only [if_neg h] using k
theorem evs {a : β} {f : Nat → β → Option α} (k : Ev (fun n => f n a) r) : Ev (fun n => (some a).bind (f n)) r := by
  simpa only [Option.bind_some] using k
theorem evb {g : Nat → Option β} {f : Nat → β → Option α} {a : β} (h : Ev g a) (k : Ev (fun n => f n a) r) : Ev (fun n => (g n).bind (f n)) r := Ev.bind h k
theorem evr (r : α) : Ev (fun _ => some r) r := Ev.now r
theorem evr' {r s : α} (h : s = r) : Ev (fun _ => some s) r := h ▸ Ev.now r
theorem evc {f g : Nat → Option α} (h : ∀ k, g k = f k) (k : Ev f r) : Ev g r := Ev.congr h k
end
theorem w64 {n : Int} (h0 : -9223372036854775808 ≤ n) (h1 : n < 9223372036854775808) : wrap64 n = n := by
  unfold wrap64
  omega
theorem half {i j : Int} (h0 : 0 ≤ i) (h1 : 0 ≤ j) (h2 : i + j < 4611686018427387904) : wrap64 (IntKind.u64.wrap (wrap64 (i + j)) / 2) = (i + j) / 2 := by
  rw [w64 (n := i + j) (by omega) (by omega)]
  have : IntKind.u64.wrap (i + j) = i + j := by
   simp [IntKind.wrap, IntKind.signed, IntKind.bits]
   omega
  rw [this, w64 (by omega) (by omega)]
def gd (l : List S44) (i : Nat) : S44 := l.getD i z44
theorem rd_gd (l : List S44) (i : Nat) : rd_T44 l (i : Int) = gd l i := by simp [rd_T44, gd]
theorem gd_lt {l : List S44} {i : Nat} (h : i < l.length) : gd l i = l[i] := by
  simp [gd, h]
theorem gd_ge {l : List S44} {i : Nat} (h : l.length ≤ i) : gd l i = z44 := by
  simp [gd, List.getD_eq_getElem?_getD, h]
theorem gd_ext {l l' : List S44} (hl : l.length = l'.length) (h : ∀ i, i < l.length → gd l i = gd l' i) : l = l' := by
  apply List.ext_getElem hl
  intro i h1 h2
  have := h i h1
  rwa [gd_lt h1, gd_lt h2] at this
theorem gd_set {l : List S44} {i : Nat} (x : S44) (j : Nat) (h : i < l.length) : gd (l.set i x) j = if i = j then x else gd l j := by
  simp only [gd, List.getD_eq_getElem?_getD, List.getElem?_set]
  split
  ·simp [h]
  ·rfl
def sw (l : List S44) (i j : Nat) : List S44 := (l.set i (gd l j)).set j (gd l i)
theorem sw_length (l : List S44) (i j : Nat) : (sw l i j).length = l.length := by simp [sw]
theorem gd_sw {l : List S44} {i j : Nat} (hi : i < l.length) (hj : j < l.length) (p : Nat) : gd (sw l i j) p = if j = p then gd l i else if i = p then gd l j else gd l p := by
  unfold sw
  rw [gd_set _ _ (by simpa using hj)]
  split
  ·rfl
  ·rw [gd_set _ _ hi]
theorem sw_perm {l : List S44} {i j : Nat} (hi : i < l.length) (hj : j < l.length) : (sw l i j).Perm l := by
  unfold sw
  rw [gd_lt hi, gd_lt hj]
  exact List.set_set_perm hi hj
structure Shuf (a b : Nat) (l l' : List S44) : Prop where
  len : l'.length = l.length
  perm : l'.Perm l
  out : ∀ i, i < a ∨ b ≤ i → gd l' i = gd l i
theorem Shuf.refl (a b : Nat) (l : List S44) : Shuf a b l l := ⟨rfl, List.Perm.refl _, fun _ _ => rfl⟩
theorem Shuf.trans {a b : Nat} {l l1 l2 : List S44} (h : Shuf a b l l1) (k : Shuf a b l1 l2) : Shuf a b l l2 :=
  ⟨k.len.trans h.len, k.perm.trans h.perm, fun i hi => (k.out i hi).trans (h.out i hi)⟩
theorem Shuf.mono {a b a' b' : Nat} {l l1 : List S44} (h : Shuf a b l l1) (ha : a' ≤ a) (hb : b ≤ b') : Shuf a' b' l l1 :=
  ⟨h.len, h.perm, fun i hi => h.out i (by omega)⟩
theorem Shuf.sw {a b i j : Nat} {l : List S44} (hi : a ≤ i ∧ i < b) (hj : a ≤ j ∧ j < b) (hb : b ≤ l.length) : Shuf a b l (sw l i j) :=
  ⟨sw_length _ _ _, sw_perm (by omega) (by omega), fun p hp => by rw [gd_sw (by omega) (by omega), if_neg (by omega), if_neg (by omega)]⟩
theorem take_eq_of {l l' : List S44} (hl : l'.length = l.length) {a : Nat} (h : ∀ i, i < a → gd l' i = gd l i) : l'.take a = l.take a := by
  apply List.ext_getElem (by simp [hl])
  intro i h1 h2
  simp only [List.length_take] at h1 h2
  rw [List.getElem_take, List.getElem_take, ← gd_lt, ← gd_lt, h i (by omega)]
theorem drop_eq_of {l l' : List S44} (hl : l'.length = l.length) {b : Nat} (h : ∀ i, b ≤ i → gd l' i = gd l i) : l'.drop b = l.drop b := by
  apply List.ext_getElem (by simp [hl])
  intro i h1 h2
  simp only [List.length_drop] at h1 h2
  rw [List.getElem_drop, List.getElem_drop, ← gd_lt, ← gd_lt, h (b + i) (by omega)]
theorem Shuf.seg {a b : Nat} {l l' : List S44} (h : Shuf a b l l') (hab : a ≤ b) : ((l'.take b).drop a).Perm ((l.take b).drop a) := by
  have e : ∀ x : List S44, x = (x.take a ++ (x.take b).drop a) ++ x.drop b := by
   intro x
   have : x.take a = (x.take b).take a := by rw [List.take_take, Nat.min_eq_left hab]
   rw [this, List.take_append_drop, List.take_append_drop]
  have hp := h.perm
  rw [e l', e l, take_eq_of h.len (fun i hi => h.out i (Or.inl hi)), drop_eq_of h.len (fun i hi => h.out i (Or.inr hi))] at hp
  rw [List.perm_append_right_iff] at hp
  rw [List.perm_append_left_iff] at hp
  exact hp
theorem mem_seg {l : List S44} {a b : Nat} (hb : b ≤ l.length) {x : S44} : x ∈ (l.take b).drop a ↔ ∃ i, a ≤ i ∧ i < b ∧ gd l i = x := by
  constructor
  ·intro h
   obtain ⟨i, hi, rfl⟩ := List.mem_iff_getElem.1 h
   simp only [List.length_drop, List.length_take] at hi
   refine ⟨a + i, by omega, by omega, ?_⟩
   rw [List.getElem_drop, List.getElem_take, gd_lt (by omega)]
  ·rintro ⟨i, h0, h1, rfl⟩
   rw [List.mem_iff_getElem]
   refine ⟨i - a, by simp only [List.length_drop, List.length_take]; omega, ?_⟩
   rw [List.getElem_drop, List.getElem_take, gd_lt (by omega)]
   congr 1
   omega
theorem Shuf.range {a b : Nat} {l l' : List S44} (h : Shuf a b l l') (hb : b ≤ l.length) {P : S44 → Prop} (hP : ∀ i, a ≤ i → i < b → P (gd l i)) : ∀ i, a ≤ i → i < b → P (gd l' i) := by
  intro i h0 h1
  have hm : gd l' i ∈ (l'.take b).drop a := (mem_seg (by rw [h.len]; exact hb)).2 ⟨i, h0, h1, rfl⟩
  rw [(h.seg (by omega)).mem_iff, mem_seg hb] at hm
  obtain ⟨j, h2, h3, e⟩ := hm
  rw [← e]
  exact hP j h2 h3
def K (l : List S44) (i : Nat) : Int := (gd l i).f0
def Bd (l : List S44) : Prop := ∀ i, 0 ≤ K l i ∧ K l i ≤ 255
theorem Bd.of_mem {l : List S44} (h : ∀ t ∈ l, 0 ≤ t.f0 ∧ t.f0 ≤ 255) : Bd l := by
  intro i
  unfold K
  by_cases hi : i < l.length
  ·rw [gd_lt hi]
   exact h _ (by simp)
  ·rw [gd_ge (by omega)]
   simp [z44]
theorem Bd.mem {l : List S44} (h : Bd l) : ∀ t ∈ l, 0 ≤ t.f0 ∧ t.f0 ≤ 255 := by
  intro t ht
  obtain ⟨i, hi, rfl⟩ := List.mem_iff_getElem.1 ht
  have := h i
  unfold K at this
  rwa [gd_lt hi] at this
theorem Bd.perm {l l' : List S44} (h : Bd l) (hp : l'.Perm l) : Bd l' := Bd.of_mem fun t ht => h.mem t (hp.mem_iff.1 ht)
def Srt (l : List S44) (a b : Nat) : Prop := ∀ i j, a ≤ i → i ≤ j → j < b → K l i ≤ K l j
theorem Srt.mono {l : List S44} {a b a' b' : Nat} (h : Srt l a b) (ha : a ≤ a') (hb : b' ≤ b) : Srt l a' b' := fun i j h0 h1 h2 => h i j (by omega) h1 (by omega)
theorem Srt.small {l : List S44} {a b : Nat} (h : b ≤ a + 1) : Srt l a b := fun i j h0 h1 h2 => by
  obtain rfl : i = j := by omega
  exact Int.le_refl _
theorem Srt.cong {l l' : List S44} {a b : Nat} (h : Srt l a b) (e : ∀ i, a ≤ i → i < b → gd l' i = gd l i) : Srt l' a b := fun i j h0 h1 h2 => by
  unfold K
  rw [e i h0 (by omega), e j (by omega) h2]
  exact h i j h0 h1 h2
theorem Shuf.srt {l l' : List S44} {a b c d : Nat} (h : Shuf a b l l') (k : Srt l c d) (hd : d ≤ a ∨ b ≤ c) : Srt l' c d := k.cong fun i h0 h1 => h.out i (by omega)
theorem cmp_ {l : List S44} (h : Bd l) (i j : Nat) (x y : Int) : fact_gather_1.f (gd l i).f0 x (gd l j).f0 y = some (K l i - K l j) := by
  have h1 := h i
  have h2 := h j
  unfold fact_gather_1.f
  unfold K at *
  rw [w64 (by omega) (by omega)]
end Go.Proofs.Ytikpfbfeoifmkaa.Z
end
section
namespace Go.Proofs.Ytikpfbfeoifmkaa.Z
open Go.RowKit Go.Proofs.Ytikpfbfeoifmkaa.X Go.Proofs.YtikpfbfeoifmkaaW.PrintWords Go.Proofs.YtikpfbfeoifmkaaW.PrintLast
set_option linter.unusedVariables false
set_option linter.unusedSimpArgs false
def cf : List S44 → Int → Int
  | [], _ => 0
  | t :: l, b => (if t.f0 = b then t.f1 else 0) + cf l b
def wsum : List S44 → (Int → Int) → Int
  | [], _ => 0
  | t :: l, w => t.f1 * w t.f0 + wsum l w
theorem cf_append (l l' : List S44) (b : Int) : cf (l ++ l') b = cf l b + cf l' b := by
  induction l with
  | nil => simp [cf]
  | cons t l ih => simp only [List.cons_append, cf, ih]; omega
theorem cf_perm {l l' : List S44} (h : l.Perm l') (b : Int) : cf l b = cf l' b := by
  induction h with
  | nil => rfl
  | cons x _ ih => simp only [cf, ih]
  | swap x y l => simp only [cf]; omega
  | trans _ _ ih1 ih2 => exact ih1.trans ih2
theorem cf_single (t : S44) (b : Int) : cf [t] b = if t.f0 = b then t.f1 else 0 := by simp [cf]
theorem cf_none {l : List S44} {b : Int} (h : ∀ t ∈ l, t.f0 ≠ b) : cf l b = 0 := by
  induction l with
  | nil => rfl
  | cons t l ih =>
   have h1 := h t (by simp)
   simp only [cf, if_neg h1, ih (fun x hx => h x (by simp [hx]))]
   rfl
theorem cf_filter_nz (l : List S44) (b : Int) : cf (l.filter fun t => !(t.f1 == 0)) b = cf l b := by
  induction l with
  | nil => rfl
  | cons t l ih =>
   rw [List.filter_cons]
   by_cases h : t.f1 = 0
   ·simp [h, cf, ih]
   ·simp [h, cf, ih]
structure Canon (r : List S44) (c : Int → Int) : Prop where
  inc : r.Pairwise fun x y => x.f0 < y.f0
  nz : ∀ t ∈ r, t.f1 ≠ 0
  sums : ∀ b, cf r b = c b
theorem cf_head {t : S44} {l : List S44} (h : (t :: l).Pairwise fun x y => x.f0 < y.f0) : cf (t :: l) t.f0 = t.f1 := by
  rw [List.pairwise_cons] at h
  simp only [cf, if_true]
  rw [cf_none (fun x hx => by have := h.1 x hx; omega)]
  omega
theorem cf_below {t : S44} {l : List S44} (h : (t :: l).Pairwise fun x y => x.f0 < y.f0) {b : Int} (hb : b < t.f0) : cf (t :: l) b = 0 := by
  rw [List.pairwise_cons] at h
  refine cf_none fun x hx => ?_
  rcases List.mem_cons.1 hx with rfl | hx
  ·omega
  ·have := h.1 x hx
   omega
theorem Canon.unique : ∀ {r r' : List S44} {c : Int → Int}, Canon r c → Canon r' c → r = r'
  | [], [], _, _, _ => rfl
  | [], t :: l, c, h, k => by
   have h1 := h.sums t.f0
   have h2 := k.sums t.f0
   rw [cf_head k.inc] at h2
   have h3 : cf [] t.f0 = 0 := rfl
   exact absurd (by omega : t.f1 = 0) (k.nz t (by simp))
  | t :: l, [], c, h, k => by
   have h1 := h.sums t.f0
   have h2 := k.sums t.f0
   rw [cf_head h.inc] at h1
   have h3 : cf [] t.f0 = 0 := rfl
   exact absurd (by omega : t.f1 = 0) (h.nz t (by simp))
  | t :: l, t' :: l', c, h, k => by
   have e0 : t.f0 = t'.f0 := by
    rcases Int.lt_trichotomy t.f0 t'.f0 with h1 | h1 | h1
    ·have g1 := h.sums t.f0
     have g2 := k.sums t.f0
     rw [cf_head h.inc] at g1
     rw [cf_below k.inc h1] at g2
     exact absurd (by omega : t.f1 = 0) (h.nz t (by simp))
    ·exact h1
    ·have g1 := h.sums t'.f0
     have g2 := k.sums t'.f0
     rw [cf_head k.inc] at g2
     rw [cf_below h.inc h1] at g1
     exact absurd (by omega : t'.f1 = 0) (k.nz t' (by simp))
   have e1 : t.f1 = t'.f1 := by
    have g1 := h.sums t.f0
    have g2 := k.sums t.f0
    rw [cf_head h.inc] at g1
    rw [e0, cf_head k.inc] at g2
    rw [e0] at g1
    omega
   obtain rfl : t = t' := by
    cases t; cases t'
    simp_all
   have hl : Canon l (cf l) := ⟨(List.pairwise_cons.1 h.inc).2, fun x hx => h.nz x (by simp [hx]), fun _ => rfl⟩
   have hl' : Canon l' (cf l) := ⟨(List.pairwise_cons.1 k.inc).2, fun x hx => k.nz x (by simp [hx]), fun b => by
    have g1 := h.sums b
    have g2 := k.sums b
    simp only [cf] at g1 g2
    omega⟩
   rw [Canon.unique hl hl']
theorem Canon.filter {r : List S44} {c : Int → Int} (h : r.Pairwise fun x y => x.f0 < y.f0) (hc : ∀ b, cf r b = c b) : Canon (r.filter fun t => !(t.f1 == 0)) c :=
  ⟨h.filter _, fun t ht => by simpa using (List.mem_filter.1 ht).2, fun b => by rw [cf_filter_nz, hc]⟩
end Go.Proofs.Ytikpfbfeoifmkaa.Z
end
section
namespace Go.Proofs.Ytikpfbfeoifmkaa.Z
open Go.RowKit Go.Proofs.Ytikpfbfeoifmkaa.X Go.Proofs.YtikpfbfeoifmkaaW.PrintWords Go.Proofs.YtikpfbfeoifmkaaW.PrintLast
set_option linter.unusedVariables false
set_option linter.unusedSimpArgs false
theorem K_sw {l : List S44} {i j : Nat} (hi : i < l.length) (hj : j < l.length) (p : Nat) : K (sw l i j) p = if j = p then K l i else if i = p then K l j else K l p := by
  unfold K
  rw [gd_sw hi hj]
  split
  ·rfl
  ·split <;> rfl
theorem ins_l1 (a b i n : Nat) (hib : i < b) (hbn : b ≤ n) (hn : n < 1152921504606846976)
   (next : ∀ l : List S44, l.length = n → Bd l → Srt l a (i + 1) → ∃ r, Ev (fun k => api_Term_59_at52.l0 k l a b ((i + 1 : Nat) : Int)) r ∧ Shuf a b l r ∧ Srt r a b) :
   ∀ (j : Nat) (l : List S44), l.length = n → Bd l → a ≤ j → j ≤ i → (∀ p q, a ≤ p → p ≤ q → q ≤ i → q ≠ j → K l p ≤ K l q) →
    ∃ r, Ev (fun k => api_Term_59_at52.l1 k l a b (i : Int) (j : Int)) r ∧ Shuf a b l r ∧ Srt r a b := by
  have hw1 : wrap64 ((i : Int) + 1) = ((i + 1 : Nat) : Int) := by rw [w64] <;> omega
  intro j
  induction j with
  | zero =>
   intro l hl hB ha hj hs
   have hS : Srt l a (i + 1) := by
    intro p q h0 h1 h2
    by_cases hq : q = 0
    ·have : p = q := by omega
     rw [this]
     exact Int.le_refl _
    ·exact hs p q h0 h1 (by omega) hq
   obtain ⟨r, hr, h1, h2⟩ := next l hl hB hS
   refine ⟨r, ?_, h1, h2⟩
   refine Ev.step (fun k => by rw [api_Term_59_at52.l1]) ?_
   refine evn (by omega) ?_
   rw [hw1]
   exact hr
  | succ j ih =>
   intro l hl hB ha hj hs
   by_cases haj : a = j + 1
   ·have hS : Srt l a (i + 1) := by
     intro p q h0 h1 h2
     by_cases hq : q = j + 1
     ·have : p = q := by omega
      rw [this]
      exact Int.le_refl _
     ·exact hs p q h0 h1 (by omega) hq
    obtain ⟨r, hr, h1, h2⟩ := next l hl hB hS
    refine ⟨r, ?_, h1, h2⟩
    refine Ev.step (fun k => by rw [api_Term_59_at52.l1]) ?_
    refine evn (by omega) ?_
    rw [hw1]
    exact hr
   ·have hw2 : wrap64 (((j + 1 : Nat) : Int) - 1) = (j : Int) := by rw [w64] <;> omega
    have hc := cmp_ hB (j + 1) j (gd l (j + 1)).f1 (gd l j).f1
    by_cases hlt : K l (j + 1) - K l j < 0
    ·have hj1 : j + 1 < l.length := by omega
     have hj0 : j < l.length := by omega
     obtain ⟨r, hr, h1, h2⟩ := ih (sw l (j + 1) j) (by rw [sw_length]; exact hl) (hB.perm (sw_perm hj1 hj0)) (by omega) (by omega) (by
      intro p q h0 h1 h2 h3
      rw [K_sw hj1 hj0, K_sw hj1 hj0]
      by_cases e1 : j + 1 = q
      ·subst e1
       rw [if_neg (show ¬ j = j + 1 by omega), if_pos rfl]
       by_cases e2 : j = p
       ·rw [if_pos e2]; omega
       ·rw [if_neg e2]
        by_cases e3 : j + 1 = p
        ·rw [if_pos e3]; exact Int.le_refl _
        ·rw [if_neg e3]; exact hs p j h0 (by omega) (by omega) (by omega)
      ·rw [if_neg (show ¬ j = q by omega), if_neg e1]
       by_cases e2 : j = p
       ·rw [if_pos e2]; exact hs (j + 1) q (by omega) (by omega) h2 (by omega)
       ·rw [if_neg e2]
        by_cases e3 : j + 1 = p
        ·rw [if_pos e3]; exact hs j q (by omega) (by omega) h2 (by omega)
        ·rw [if_neg e3]; exact hs p q h0 h1 h2 (by omega))
     refine ⟨r, ?_, (Shuf.sw (by omega) (by omega) (by omega)).trans h1, h2⟩
     refine Ev.step (fun k => by rw [api_Term_59_at52.l1]) ?_
     refine evp (by omega) (evp (by omega) (evp (by omega) ?_))
     rw [hw2]
     refine evp (by omega) (evp (by omega) ?_)
     rw [rd_gd, rd_gd, hc]
     refine evs (evp hlt ?_)
     exact hr
    ·have hS : Srt l a (i + 1) := by
      intro p q h0 h1 h2
      by_cases hq : q = j + 1
      ·subst hq
       by_cases hp : p = j + 1
       ·rw [hp]; exact Int.le_refl _
       ·have := hs p j h0 (by omega) (by omega) (by omega)
        omega
      ·exact hs p q h0 h1 (by omega) hq
     obtain ⟨r, hr, h1, h2⟩ := next l hl hB hS
     refine ⟨r, ?_, h1, h2⟩
     refine Ev.step (fun k => by rw [api_Term_59_at52.l1]) ?_
     refine evp (by omega) (evp (by omega) (evp (by omega) ?_))
     rw [hw2]
     refine evp (by omega) (evp (by omega) ?_)
     rw [rd_gd, rd_gd, hc]
     refine evs (evn hlt ?_)
     rw [hw1]
     exact hr
theorem ins_l0 (a b n : Nat) (hbn : b ≤ n) (hn : n < 1152921504606846976) (d : Nat) : ∀ (i : Nat) (l : List S44), b - i = d → a < i → l.length = n → Bd l → Srt l a (min i b) →
   ∃ r, Ev (fun k => api_Term_59_at52.l0 k l a b (i : Int)) r ∧ Shuf a b l r ∧ Srt r a b := by
  induction d with
  | zero =>
   intro i l hd hai hl hB hs
   refine ⟨l, Ev.step (fun k => by rw [api_Term_59_at52.l0]) (evn (by omega) (evr _)), Shuf.refl _ _ _, ?_⟩
   rwa [Nat.min_eq_right (by omega)] at hs
  | succ d ih =>
   intro i l hd hai hl hB hs
   rw [Nat.min_eq_left (by omega)] at hs
   obtain ⟨r, hr, h1, h2⟩ := ins_l1 a b i n (by omega) hbn hn (fun l hl hB hs => ih (i + 1) l (by omega) (by omega) hl hB (hs.mono (Nat.le_refl _) (by omega))) i l hl hB (by omega) (Nat.le_refl _)
    (fun p q h0 h1 h2 h3 => hs p q h0 h1 (by omega))
   exact ⟨r, Ev.step (fun k => by rw [api_Term_59_at52.l0]) (evp (by omega) hr), h1, h2⟩
theorem ins_sorts (a b n : Nat) (l : List S44) (hab : a ≤ b) (hbn : b ≤ n) (hn : n < 1152921504606846976) (hl : l.length = n) (hB : Bd l) :
   ∃ r, Ev (fun k => api_Term_59_at52.f k l a b) r ∧ Shuf a b l r ∧ Srt r a b := by
  have hw1 : wrap64 ((a : Int) + 1) = ((a + 1 : Nat) : Int) := by rw [w64] <;> omega
  obtain ⟨r, hr, h⟩ := ins_l0 a b n hbn hn _ (a + 1) l rfl (by omega) hl hB (Srt.small (by omega))
  refine ⟨r, ?_, h⟩
  unfold api_Term_59_at52.f
  rw [hw1]
  exact hr
end Go.Proofs.Ytikpfbfeoifmkaa.Z
end
section
namespace Go.Proofs.Ytikpfbfeoifmkaa.Z
open Go.RowKit Go.Proofs.Ytikpfbfeoifmkaa.X Go.Proofs.YtikpfbfeoifmkaaW.PrintWords Go.Proofs.YtikpfbfeoifmkaaW.PrintLast
set_option linter.unusedVariables false
set_option linter.unusedSimpArgs false
theorem swr_l0 (a b m N : Nat) (hab : a + m ≤ b) (hb : b + m ≤ N) (hN : N < 1152921504606846976) (d : Nat) : ∀ (i : Nat) (l : List S44), m - i = d → i ≤ m → l.length = N →
   ∃ r, Ev (fun k => api_Term_62_at52.l0 k l a b m (i : Int)) r ∧ r.length = N ∧ r.Perm l ∧
    ∀ p, gd r p = if a + i ≤ p ∧ p < a + m then gd l (p - a + b) else if b + i ≤ p ∧ p < b + m then gd l (p - b + a) else gd l p := by
  induction d with
  | zero =>
   intro i l hd hi hl
   refine ⟨l, ?_, hl, List.Perm.refl _, fun p => ?_⟩
   ·refine Ev.step (fun k => by rw [api_Term_62_at52.l0]) ?_
    exact evn (by omega) (evr _)
   ·rw [if_neg (by omega), if_neg (by omega)]
  | succ d ih =>
   intro i l hd hi hl
   have h1 : a + i < l.length := by omega
   have h2 : b + i < l.length := by omega
   obtain ⟨r, hr, hrl, hp, hg⟩ := ih (i + 1) (sw l (a + i) (b + i)) (by omega) (by omega) (by rw [sw_length]; exact hl)
   refine ⟨r, ?_, hrl, hp.trans (sw_perm h1 h2), fun p => ?_⟩
   ·refine Ev.step (fun k => by rw [api_Term_62_at52.l0]) ?_
    refine evp (by omega) ?_
    rw [show wrap64 ((b : Int) + (i : Int)) = ((b + i : Nat) : Int) from by rw [w64] <;> omega, show wrap64 ((a : Int) + (i : Int)) = ((a + i : Nat) : Int) from by rw [w64] <;> omega, show wrap64 ((i : Int) + 1) = ((i + 1 : Nat) : Int) from by rw [w64] <;> omega]
    refine evp (by omega) (evp (by omega) (evp (by omega) (evp (by omega) ?_)))
    exact hr
   ·rw [hg p, gd_sw h1 h2, gd_sw h1 h2, gd_sw h1 h2]
    repeat' split
    all_goals first | rfl | (exfalso; omega) | (congr 1; omega)
theorem swr (a b m N : Nat) (l : List S44) (hab : a + m ≤ b) (hb : b + m ≤ N) (hN : N < 1152921504606846976) (hl : l.length = N) :
   ∃ r, Ev (fun k => api_Term_62_at52.f k l a b m) r ∧ r.length = N ∧ r.Perm l ∧
    ∀ p, gd r p = if a ≤ p ∧ p < a + m then gd l (p - a + b) else if b ≤ p ∧ p < b + m then gd l (p - b + a) else gd l p := by
  obtain ⟨r, hr, h1, h2, h3⟩ := swr_l0 a b m N hab hb hN _ 0 l rfl (by omega) hl
  exact ⟨r, hr, h1, h2, by simpa using h3⟩
theorem rot_l0 (N m : Nat) (hN : N < 1152921504606846976) (d : Nat) : ∀ (i j : Nat) (l : List S44), i + j ≤ d → 0 < i → 0 < j → i ≤ m → m + j ≤ N → l.length = N →
   ∃ r, Ev (fun k => api_Term_61_at52.l0 k l (m : Int) (i : Int) (j : Int)) r ∧ r.length = N ∧ r.Perm l ∧
    ∀ p, gd r p = if m - i ≤ p ∧ p < m - i + j then gd l (p + i) else if m - i + j ≤ p ∧ p < m + j then gd l (p - j) else gd l p := by
  induction d with
  | zero => intro i j l h h1; omega
  | succ d ih =>
   intro i j l hd hi hj him hmj hl
   have hw1 : wrap64 ((m : Int) - (i : Int)) = ((m - i : Nat) : Int) := by rw [w64] <;> omega
   by_cases hij : i = j
   ·subst hij
    obtain ⟨r, hr, h1, h2, h3⟩ := swr (m - i) m i N l (by omega) (by omega) hN hl
    refine ⟨r, ?_, h1, h2, fun p => ?_⟩
    ·refine Ev.step (fun k => by rw [api_Term_61_at52.l0]) ?_
     refine evp rfl ?_
     rw [hw1]
     exact evb hr (evr _)
    ·rw [h3 p]
     repeat' split
     all_goals first | rfl | (exfalso; omega) | (congr 1; omega)
   ·by_cases hgt : j < i
    ·obtain ⟨l1, hr1, g1, g2, g3⟩ := swr (m - i) m j N l (by omega) (by omega) hN hl
     have hw2 : wrap64 ((i : Int) - (j : Int)) = ((i - j : Nat) : Int) := by rw [w64] <;> omega
     obtain ⟨r, hr, h1, h2, h3⟩ := ih (i - j) j l1 (by omega) (by omega) hj (by omega) hmj g1
     refine ⟨r, ?_, h1, h2.trans g2, fun p => ?_⟩
     ·refine Ev.step (fun k => by rw [api_Term_61_at52.l0]) ?_
      refine evn (by omega) (evp (by omega) ?_)
      rw [hw1, hw2]
      exact evb hr1 hr
     ·rw [h3 p, g3, g3, g3]
      repeat' split
      all_goals first | rfl | (exfalso; omega) | (congr 1; omega)
    ·have hw3 : wrap64 (wrap64 ((m : Int) + (j : Int)) - (i : Int)) = ((m + j - i : Nat) : Int) := by
      rw [w64 (n := (m : Int) + (j : Int)) (by omega) (by omega), w64] <;> omega
     obtain ⟨l1, hr1, g1, g2, g3⟩ := swr (m - i) (m + j - i) i N l (by omega) (by omega) hN hl
     have hw2 : wrap64 ((j : Int) - (i : Int)) = ((j - i : Nat) : Int) := by rw [w64] <;> omega
     obtain ⟨r, hr, h1, h2, h3⟩ := ih i (j - i) l1 (by omega) hi (by omega) him (by omega) g1
     refine ⟨r, ?_, h1, h2.trans g2, fun p => ?_⟩
     ·refine Ev.step (fun k => by rw [api_Term_61_at52.l0]) ?_
      refine evn (by omega) (evn (by omega) ?_)
      rw [hw1, hw2, hw3]
      exact evb hr1 hr
     ·rw [h3 p, g3, g3, g3]
      repeat' split
      all_goals first | rfl | (exfalso; omega) | (congr 1; omega)
theorem rot (a m b N : Nat) (l : List S44) (ham : a < m) (hmb : m < b) (hb : b ≤ N) (hN : N < 1152921504606846976) (hl : l.length = N) :
   ∃ r, Ev (fun k => api_Term_61_at52.f k l a m b) r ∧ Shuf a b l r ∧
    (∀ p, a ≤ p → p < a + (b - m) → gd r p = gd l (p + (m - a))) ∧ (∀ p, a + (b - m) ≤ p → p < b → gd r p = gd l (p - (b - m))) := by
  have hw1 : wrap64 ((m : Int) - (a : Int)) = ((m - a : Nat) : Int) := by rw [w64] <;> omega
  have hw2 : wrap64 ((b : Int) - (m : Int)) = ((b - m : Nat) : Int) := by rw [w64] <;> omega
  obtain ⟨r, hr, h1, h2, h3⟩ := rot_l0 N m hN _ (m - a) (b - m) l (Nat.le_refl _) (by omega) (by omega) (by omega) (by omega) hl
  refine ⟨r, ?_, ⟨by omega, h2, fun i hi => ?_⟩, fun p h4 h5 => ?_, fun p h4 h5 => ?_⟩
  ·unfold api_Term_61_at52.f
   rw [hw1, hw2]
   exact hr
  ·rw [h3, if_neg (by omega), if_neg (by omega)]
  ·rw [h3, if_pos (by omega)]
  ·rw [h3, if_neg (by omega), if_pos (by omega)]
end Go.Proofs.Ytikpfbfeoifmkaa.Z
end
section
namespace Go.Proofs.Ytikpfbfeoifmkaa.Z
open Go.RowKit Go.Proofs.Ytikpfbfeoifmkaa.X Go.Proofs.YtikpfbfeoifmkaaW.PrintWords Go.Proofs.YtikpfbfeoifmkaaW.PrintLast
set_option linter.unusedVariables false
set_option linter.unusedSimpArgs false
theorem halfN {i j N : Nat} (h : i + j ≤ 2 * N) (hN : N < 1152921504606846976) : wrap64 (IntKind.u64.wrap (wrap64 ((i : Int) + (j : Int))) / 2) = (((i + j) / 2 : Nat) : Int) := by
  rw [half] <;> omega
theorem sm_l1 (a b i N : Nat) (hN : N < 1152921504606846976) (hbN : b ≤ N) (hib : i ≤ b) (d : Nat) : ∀ (c : Nat) (l : List S44), i - 1 - c = d → a ≤ c → c + 1 ≤ i → l.length = N → Bd l →
   Srt l a c → Srt l (c + 1) b → (∀ p q, a ≤ p → p < c → c ≤ q → q < b → K l p ≤ K l q) → (∀ p, c + 1 ≤ p → p < i → K l p < K l c) → (∀ p, i ≤ p → p < b → K l c ≤ K l p) →
   ∃ r, Ev (fun k => api_Term_60_at52.l1 k l (i : Int) (c : Int)) r ∧ Shuf a b l r ∧ Srt r a b := by
  induction d with
  | zero =>
   intro c l hd hac hci hl hB h1 h2 h3 h4 h5
   refine ⟨l, ?_, Shuf.refl _ _ _, ?_⟩
   ·refine Ev.step (fun k => by rw [api_Term_60_at52.l1]) ?_
    rw [show wrap64 ((i : Int) - 1) = ((i - 1 : Nat) : Int) from by rw [w64] <;> omega]
    exact evn (by omega) (evr _)
   ·intro p q g0 g1 g2
    by_cases hpq : p = q
    ·rw [hpq]; exact Int.le_refl _
    ·by_cases hqc : q < c
     ·exact h1 p q g0 g1 hqc
     ·by_cases hpc : p < c
      ·exact h3 p q g0 hpc (by omega) g2
      ·by_cases hpc2 : p = c
       ·subst hpc2
        exact h5 q (by omega) g2
       ·exact h2 p q (by omega) g1 g2
  | succ d ih =>
   intro c l hd hac hci hl hB h1 h2 h3 h4 h5
   have g1 : c < l.length := by omega
   have g2 : c + 1 < l.length := by omega
   have hlt := h4 (c + 1) (by omega) (by omega)
   obtain ⟨r, hr, k1, k2⟩ := ih (c + 1) (sw l c (c + 1)) (by omega) (by omega) (by omega) (by rw [sw_length]; exact hl) (hB.perm (sw_perm g1 g2))
    (by
     intro p q e0 e1 e2
     rw [K_sw g1 g2, K_sw g1 g2, if_neg (by omega), if_neg (show ¬ c + 1 = q by omega)]
     by_cases hq : c = q
     ·rw [if_pos hq]
      by_cases hp : c = p
      ·rw [if_pos hp]; exact Int.le_refl _
      ·rw [if_neg hp]; exact h3 p (c + 1) e0 (by omega) (by omega) (by omega)
     ·rw [if_neg hq, if_neg (by omega)]
      exact h1 p q e0 e1 (by omega))
    (by
     intro p q e0 e1 e2
     rw [K_sw g1 g2, K_sw g1 g2, if_neg (by omega), if_neg (by omega), if_neg (by omega), if_neg (by omega)]
     exact h2 p q (by omega) e1 e2)
    (by
     intro p q e0 e1 e2 e3
     rw [K_sw g1 g2, K_sw g1 g2, if_neg (by omega)]
     by_cases hp : c = p
     ·rw [if_pos hp]
      by_cases hq : c + 1 = q
      ·rw [if_pos hq]; omega
      ·rw [if_neg hq, if_neg (by omega)]
       exact h2 (c + 1) q (by omega) (by omega) e3
     ·rw [if_neg hp]
      by_cases hq : c + 1 = q
      ·rw [if_pos hq]; exact h3 p c e0 (by omega) (by omega) (by omega)
      ·rw [if_neg hq, if_neg (by omega)]
       exact h3 p q e0 (by omega) (by omega) e3)
    (by
     intro p e0 e1
     rw [K_sw g1 g2, K_sw g1 g2, if_neg (by omega), if_neg (by omega), if_pos rfl]
     exact h4 p (by omega) e1)
    (by
     intro p e0 e1
     rw [K_sw g1 g2, K_sw g1 g2, if_pos rfl, if_neg (by omega), if_neg (by omega)]
     exact h5 p e0 e1)
   refine ⟨r, ?_, (Shuf.sw (by omega) (by omega) (by omega)).trans k1, k2⟩
   refine Ev.step (fun k => by rw [api_Term_60_at52.l1]) ?_
   rw [show wrap64 ((i : Int) - 1) = ((i - 1 : Nat) : Int) from by rw [w64] <;> omega]
   refine evp (by omega) ?_
   rw [show wrap64 ((c : Int) + 1) = ((c + 1 : Nat) : Int) from by rw [w64] <;> omega]
   refine evp (by omega) (evp (by omega) (evp (by omega) (evp (by omega) ?_)))
   exact hr
theorem sm_l0 (a m b N : Nat) (hN : N < 1152921504606846976) (hbN : b ≤ N) (ham : m = a + 1) (hmb : m < b) (l : List S44) (hl : l.length = N) (hB : Bd l) (hs : Srt l m b) (d : Nat) :
   ∀ (i j : Nat), j - i ≤ d → m ≤ i → i ≤ j → j ≤ b → (∀ p, m ≤ p → p < i → K l p < K l a) → (∀ p, j ≤ p → p < b → K l a ≤ K l p) →
   ∃ r, Ev (fun k => api_Term_60_at52.l0 k l (a : Int) (i : Int) (j : Int)) r ∧ Shuf a b l r ∧ Srt r a b := by
  induction d with
  | zero =>
   intro i j hd hmi hij hjb h1 h2
   obtain ⟨r, hr, k⟩ := sm_l1 a b i N hN hbN (by omega) _ a l rfl (Nat.le_refl _) (by omega) hl hB (Srt.small (by omega)) (by rw [← ham]; exact hs) (fun p q g0 g1 => by omega) (fun p g0 g1 => h1 p (by omega) g1) (fun p g0 g1 => h2 p (by omega) g1)
   refine ⟨r, ?_, k⟩
   refine Ev.step (fun k => by rw [api_Term_60_at52.l0]) ?_
   exact evn (by omega) hr
  | succ d ih =>
   intro i j hd hmi hij hjb h1 h2
   by_cases hlt : i < j
   ·have hc := cmp_ hB ((i + j) / 2) a (gd l ((i + j) / 2)).f1 (gd l a).f1
    by_cases hk : K l ((i + j) / 2) - K l a < 0
    ·obtain ⟨r, hr, k⟩ := ih ((i + j) / 2 + 1) j (by omega) (by omega) (by omega) hjb (fun p g0 g1 => by
      have := hs p ((i + j) / 2) g0 (by omega) (by omega)
      omega) h2
     refine ⟨r, ?_, k⟩
     refine Ev.step (fun k => by rw [api_Term_60_at52.l0]) ?_
     refine evp (by omega) ?_
     rw [halfN (N := N) (by omega) hN]
     refine evp (by omega) (evp (by omega) (evp (by omega) (evp (by omega) ?_)))
     rw [rd_gd, rd_gd, hc, show wrap64 ((((i + j) / 2 : Nat) : Int) + 1) = (((i + j) / 2 + 1 : Nat) : Int) from by rw [w64] <;> omega]
     exact evs (evp hk hr)
    ·obtain ⟨r, hr, k⟩ := ih i ((i + j) / 2) (by omega) hmi (by omega) (by omega) h1 (fun p g0 g1 => by
      have := hs ((i + j) / 2) p (by omega) g0 g1
      omega)
     refine ⟨r, ?_, k⟩
     refine Ev.step (fun k => by rw [api_Term_60_at52.l0]) ?_
     refine evp (by omega) ?_
     rw [halfN (N := N) (by omega) hN]
     refine evp (by omega) (evp (by omega) (evp (by omega) (evp (by omega) ?_)))
     rw [rd_gd, rd_gd, hc]
     exact evs (evn hk hr)
   ·exact ih i j (by omega) hmi hij hjb h1 h2
theorem sm_l3 (a b i N : Nat) (hN : N < 1152921504606846976) (hbN : b ≤ N) (hai : a ≤ i) (d : Nat) : ∀ (c : Nat) (l : List S44), c - i = d → i ≤ c → c < b → l.length = N → Bd l →
   Srt l a c → Srt l (c + 1) b → (∀ p q, a ≤ p → p ≤ c → c < q → q < b → K l p ≤ K l q) → (∀ p, i ≤ p → p < c → K l c < K l p) → (∀ p, a ≤ p → p < i → K l p ≤ K l c) →
   ∃ r, Ev (fun k => api_Term_60_at52.l3 k l (i : Int) (c : Int)) r ∧ Shuf a b l r ∧ Srt r a b := by
  induction d with
  | zero =>
   intro c l hd hic hcb hl hB h1 h2 h3 h4 h5
   refine ⟨l, ?_, Shuf.refl _ _ _, ?_⟩
   ·refine Ev.step (fun k => by rw [api_Term_60_at52.l3]) ?_
    exact evn (by omega) (evr _)
   ·intro p q g0 g1 g2
    by_cases hpq : p = q
    ·rw [hpq]; exact Int.le_refl _
    ·by_cases hqc : q < c
     ·exact h1 p q g0 g1 hqc
     ·by_cases hqc2 : q = c
      ·subst hqc2
       exact h5 p g0 (by omega)
      ·by_cases hpc : p ≤ c
       ·exact h3 p q g0 hpc (by omega) g2
       ·exact h2 p q (by omega) g1 g2
  | succ d ih =>
   intro c l hd hic hcb hl hB h1 h2 h3 h4 h5
   obtain ⟨c, rfl⟩ : ∃ c', c = c' + 1 := ⟨c - 1, by omega⟩
   have g1 : c < l.length := by omega
   have g2 : c + 1 < l.length := by omega
   have hlt := h4 c (by omega) (by omega)
   obtain ⟨r, hr, k1, k2⟩ := ih c (sw l (c + 1) c) (by omega) (by omega) (by omega) (by rw [sw_length]; exact hl) (hB.perm (sw_perm g2 g1))
    (by
     intro p q e0 e1 e2
     rw [K_sw g2 g1, K_sw g2 g1, if_neg (by omega), if_neg (by omega), if_neg (by omega), if_neg (by omega)]
     exact h1 p q e0 e1 (by omega))
    (by
     intro p q e0 e1 e2
     rw [K_sw g2 g1, K_sw g2 g1, if_neg (by omega), if_neg (show ¬ c = q by omega)]
     by_cases hp : c + 1 = p
     ·rw [if_pos hp]
      by_cases hq : c + 1 = q
      ·rw [if_pos hq]; exact Int.le_refl _
      ·rw [if_neg hq]; exact h3 c q (by omega) (by omega) (by omega) e2
     ·rw [if_neg hp, if_neg (by omega)]
      exact h2 p q (by omega) e1 e2)
    (by
     intro p q e0 e1 e2 e3
     rw [K_sw g2 g1, K_sw g2 g1, if_neg (show ¬ c = q by omega)]
     by_cases hp : c = p
     ·rw [if_pos hp]
      by_cases hq : c + 1 = q
      ·rw [if_pos hq]; omega
      ·rw [if_neg hq]
       exact h3 (c + 1) q (by omega) (by omega) (by omega) e3
     ·rw [if_neg hp, if_neg (by omega)]
      by_cases hq : c + 1 = q
      ·rw [if_pos hq]; exact h1 p c e0 (by omega) (by omega)
      ·rw [if_neg hq]
       exact h3 p q e0 (by omega) (by omega) e3)
    (by
     intro p e0 e1
     rw [K_sw g2 g1, K_sw g2 g1, if_pos rfl, if_neg (by omega), if_neg (by omega)]
     exact h4 p e0 (by omega))
    (by
     intro p e0 e1
     rw [K_sw g2 g1, K_sw g2 g1, if_pos rfl, if_neg (by omega), if_neg (by omega)]
     exact h5 p e0 e1)
   refine ⟨r, ?_, (Shuf.sw (by omega) (by omega) (by omega)).trans k1, k2⟩
   refine Ev.step (fun k => by rw [api_Term_60_at52.l3]) ?_
   refine evp (by omega) ?_
   rw [show wrap64 (((c + 1 : Nat) : Int) - 1) = (c : Int) from by rw [w64] <;> omega]
   refine evp (by omega) (evp (by omega) (evp (by omega) (evp (by omega) ?_)))
   exact hr
theorem sm_l2 (a m b N : Nat) (hN : N < 1152921504606846976) (hbN : b ≤ N) (hmb : b = m + 1) (ham : a < m) (l : List S44) (hl : l.length = N) (hB : Bd l) (hs : Srt l a m) (d : Nat) :
   ∀ (i j : Nat), j - i ≤ d → a ≤ i → i ≤ j → j ≤ m → (∀ p, a ≤ p → p < i → K l p ≤ K l m) → (∀ p, j ≤ p → p < m → K l m < K l p) →
   ∃ r, Ev (fun k => api_Term_60_at52.l2 k l (m : Int) (i : Int) (j : Int)) r ∧ Shuf a b l r ∧ Srt r a b := by
  induction d with
  | zero =>
   intro i j hd hmi hij hjb h1 h2
   obtain ⟨r, hr, k⟩ := sm_l3 a b i N hN hbN (by omega) _ m l rfl (by omega) (by omega) hl hB hs (Srt.small (by omega)) (fun p q g0 g1 g2 g3 => by omega) (fun p g0 g1 => h2 p (by omega) g1) (fun p g0 g1 => h1 p (by omega) g1)
   refine ⟨r, ?_, k⟩
   refine Ev.step (fun k => by rw [api_Term_60_at52.l2]) ?_
   exact evn (by omega) hr
  | succ d ih =>
   intro i j hd hmi hij hjb h1 h2
   by_cases hlt : i < j
   ·have hc := cmp_ hB m ((i + j) / 2) (gd l m).f1 (gd l ((i + j) / 2)).f1
    by_cases hk : K l m - K l ((i + j) / 2) < 0
    ·obtain ⟨r, hr, k⟩ := ih i ((i + j) / 2) (by omega) hmi (by omega) (by omega) h1 (fun p g0 g1 => by
      have := hs ((i + j) / 2) p (by omega) g0 g1
      omega)
     refine ⟨r, ?_, k⟩
     refine Ev.step (fun k => by rw [api_Term_60_at52.l2]) ?_
     refine evp (by omega) ?_
     rw [halfN (N := N) (by omega) hN]
     refine evp (by omega) (evp (by omega) (evp (by omega) (evp (by omega) ?_)))
     rw [rd_gd, rd_gd, hc]
     exact evs (evp hk hr)
    ·obtain ⟨r, hr, k⟩ := ih ((i + j) / 2 + 1) j (by omega) (by omega) (by omega) hjb (fun p g0 g1 => by
      have := hs p ((i + j) / 2) g0 (by omega) (by omega)
      omega) h2
     refine ⟨r, ?_, k⟩
     refine Ev.step (fun k => by rw [api_Term_60_at52.l2]) ?_
     refine evp (by omega) ?_
     rw [halfN (N := N) (by omega) hN]
     refine evp (by omega) (evp (by omega) (evp (by omega) (evp (by omega) ?_)))
     rw [rd_gd, rd_gd, hc, show wrap64 ((((i + j) / 2 : Nat) : Int) + 1) = (((i + j) / 2 + 1 : Nat) : Int) from by rw [w64] <;> omega]
     exact evs (evn hk hr)
   ·exact ih i j (by omega) hmi hij hjb h1 h2
end Go.Proofs.Ytikpfbfeoifmkaa.Z
end
section
namespace Go.Proofs.Ytikpfbfeoifmkaa.Z
open Go.RowKit Go.Proofs.Ytikpfbfeoifmkaa.X Go.Proofs.YtikpfbfeoifmkaaW.PrintWords Go.Proofs.YtikpfbfeoifmkaaW.PrintLast
set_option linter.unusedVariables false
set_option linter.unusedSimpArgs false
def Merges (N d : Nat) : Prop := ∀ (a m b : Nat) (l : List S44), b - a ≤ d → a < m → m < b → b ≤ N → l.length = N → Bd l → Srt l a m → Srt l m b →
  ∃ r, Ev (fun k => api_Term_60_at52.f k l (a : Int) (m : Int) (b : Int)) r ∧ Shuf a b l r ∧ Srt r a b
theorem sm_two (N d a mid b : Nat) (hd : Merges N d) (ha : a ≤ mid) (hb : mid ≤ b) (hbN : b ≤ N) (hda : mid - a ≤ d) (hdb : b - mid ≤ d) (l : List S44) (hl : l.length = N) (hB : Bd l) (s e : Nat)
   (has : a ≤ s) (hsm : s ≤ mid) (hme : mid ≤ e) (heb : e ≤ b) (h1 : Srt l a s) (h2 : Srt l s mid) (h3 : Srt l mid e) (h4 : Srt l e b) (hx : ∀ p q, a ≤ p → p < mid → mid ≤ q → q < b → K l p ≤ K l q) :
   ∃ r, Ev (fun k => api_Term_60_at52.j7 k l (a : Int) (b : Int) (mid : Int) (s : Int) (e : Int)) r ∧ Shuf a b l r ∧ Srt r a b := by
  have left : ∃ l1, Shuf a mid l l1 ∧ Srt l1 a mid ∧ ((a < s ∧ s < mid) → Ev (fun k => api_Term_60_at52.f k l (a : Int) (s : Int) (mid : Int)) l1) ∧ (¬ (a < s ∧ s < mid) → l1 = l) := by
   by_cases h : a < s ∧ s < mid
   ·obtain ⟨l1, hr, k1, k2⟩ := hd a s mid l hda h.1 h.2 (by omega) hl hB h1 h2
    exact ⟨l1, k1, k2, fun _ => hr, fun hn => absurd h hn⟩
   ·refine ⟨l, Shuf.refl _ _ _, ?_, fun hn => absurd hn h, fun _ => rfl⟩
    by_cases h5 : a = s
    ·rw [h5]; exact h2
    ·have : s = mid := by omega
     rw [← this]; exact h1
  obtain ⟨l1, k1, k2, k3, k4⟩ := left
  have hl1 : l1.length = N := by rw [k1.len]; exact hl
  have hB1 : Bd l1 := hB.perm k1.perm
  have right : ∃ r, Shuf mid b l1 r ∧ Srt r mid b ∧ ((mid < e ∧ e < b) → Ev (fun k => api_Term_60_at52.f k l1 (mid : Int) (e : Int) (b : Int)) r) ∧ (¬ (mid < e ∧ e < b) → r = l1) := by
   have g3 := k1.srt h3 (Or.inr (Nat.le_refl _))
   have g4 := k1.srt h4 (Or.inr (by omega))
   by_cases h : mid < e ∧ e < b
   ·obtain ⟨r, hr, j1, j2⟩ := hd mid e b l1 hdb h.1 h.2 hbN hl1 hB1 g3 g4
    exact ⟨r, j1, j2, fun _ => hr, fun hn => absurd h hn⟩
   ·refine ⟨l1, Shuf.refl _ _ _, ?_, fun hn => absurd hn h, fun _ => rfl⟩
    by_cases h5 : mid = e
    ·rw [h5]; exact g4
    ·have : e = b := by omega
     rw [← this]; exact g3
  obtain ⟨r, j1, j2, j3, j4⟩ := right
  refine ⟨r, ?_, (k1.mono (Nat.le_refl _) hb).trans (j1.mono ha (Nat.le_refl _)), ?_⟩
  ·have tail1 : ∀ x, x = l1 → Ev (fun k => if (mid : Int) < (e : Int) then (if (e : Int) < (b : Int) then ((api_Term_60_at52.f k x (mid : Int) (e : Int) (b : Int)).bind fun t123 => (some t123)) else (some x)) else (some x)) r := by
    rintro x rfl
    by_cases h5 : mid < e
    ·by_cases h6 : e < b
     ·exact evp (by omega) (evp (by omega) (evb (j3 ⟨h5, h6⟩) (evr _)))
     ·exact evp (by omega) (evn (by omega) (evr' (j4 (by omega)).symm))
    ·exact evn (by omega) (evr' (j4 (by omega)).symm)
   refine Ev.step (fun k => by rw [api_Term_60_at52.j7]) ?_
   by_cases h5 : a < s
   ·refine evp (by omega) ?_
    refine Ev.step (fun k => by rw [api_Term_60_at52.j8]) ?_
    by_cases h6 : s < mid
    ·refine evp (by simpa using h6) ?_
     exact evb (k3 ⟨h5, h6⟩) (tail1 l1 rfl)
    ·refine evn (by simpa using h6) ?_
     exact tail1 l (k4 (by omega)).symm
   ·refine evn (by omega) ?_
    refine Ev.step (fun k => by rw [api_Term_60_at52.j8]) ?_
    refine evn (by simp) ?_
    exact tail1 l (k4 (by omega)).symm
  ·have c1 : Srt r a mid := j1.srt k2 (Or.inl (Nat.le_refl _))
   have cx : ∀ p q, a ≤ p → p < mid → mid ≤ q → q < b → K r p ≤ K r q := by
    intro p q e0 e1 e2 e3
    have s1 : ∀ q', mid ≤ q' → q' < b → ∀ p', a ≤ p' → p' < mid → (gd l1 p').f0 ≤ (gd l q').f0 := by
     intro q' f0 f1
     exact k1.range (by omega) (P := fun t => t.f0 ≤ (gd l q').f0) (fun p' f2 f3 => hx p' q' f2 f3 f0 f1)
    have s2 : ∀ q', mid ≤ q' → q' < b → (gd l1 p).f0 ≤ (gd r q').f0 :=
     j1.range (by omega) (P := fun t => (gd l1 p).f0 ≤ t.f0) (fun q' f0 f1 => by rw [k1.out q' (Or.inr f0)]; exact s1 q' f0 f1 p e0 e1)
    have := s2 q e2 e3
    unfold K
    rw [j1.out p (Or.inl e1)]
    exact this
   intro p q e0 e1 e2
   by_cases h5 : q < mid
   ·exact c1 p q e0 e1 h5
   ·by_cases h6 : p < mid
    ·exact cx p q e0 h6 (by omega) e2
    ·exact j2 p q (by omega) e1 e2
theorem sm_rest (N d a m b : Nat) (hN : N < 576460752303423488) (hd : Merges N d) (ham : a < m) (hmb : m < b) (hbN : b ≤ N) (hdd : b - a ≤ d + 1) (hm2 : 2 ≤ m - a) (hb2 : 2 ≤ b - m) (l : List S44) (hl : l.length = N) (hB : Bd l)
   (h1 : Srt l a m) (h2 : Srt l m b) (s : Nat) (has : a ≤ s) (hsm : s ≤ m) (hs2 : s ≤ (a + b) / 2) (hse : (a + b) / 2 + m ≤ s + b)
   (hlo : ∀ q, a < s → (a + b) / 2 + m - s ≤ q → q < b → K l (s - 1) ≤ K l q) (hhi : ∀ p, m ≤ p → p < (a + b) / 2 + m - s → s < m → K l p ≤ K l s) :
   ∃ r, Ev (fun k => if (s : Int) < (m : Int) then (api_Term_60_at52.j6 k l (a : Int) (m : Int) (b : Int) (((a + b) / 2 : Nat) : Int) (s : Int) (((a + b) / 2 + m - s : Nat) : Int) (decide ((m : Int) < (((a + b) / 2 + m - s : Nat) : Int)))) else (api_Term_60_at52.j6 k l (a : Int) (m : Int) (b : Int) (((a + b) / 2 : Nat) : Int) (s : Int) (((a + b) / 2 + m - s : Nat) : Int) false)) r ∧ Shuf a b l r ∧ Srt r a b := by
  obtain ⟨mid, hmid⟩ : ∃ mid, (a + b) / 2 = mid := ⟨_, rfl⟩
  have hm0 : 2 * mid ≤ a + b ∧ a + b ≤ 2 * mid + 1 := by omega
  rw [hmid] at hs2 hse hlo hhi ⊢
  clear hmid
  obtain ⟨e, he⟩ : ∃ e, mid + m - s = e := ⟨_, rfl⟩
  have he0 : e + s = mid + m := by omega
  rw [he] at hlo hhi ⊢
  clear he
  by_cases hrot : s < m ∧ m < e
  ·obtain ⟨l1, hr1, k1, k2, k3⟩ := rot s m e N l hrot.1 hrot.2 (by omega) (by omega) hl
   have e1 : s + (e - m) = mid := by omega
   rw [e1] at k2 k3
   have sh : Shuf a b l l1 := k1.mono has (by omega)
   obtain ⟨r, hr, j1, j2⟩ := sm_two N d a mid b hd (by omega) (by omega) hbN (by omega) (by omega) l1 (by rw [k1.len]; exact hl) (hB.perm k1.perm) s e has hs2 (by omega) (by omega)
    (k1.srt (h1.mono (Nat.le_refl _) hsm) (Or.inl (Nat.le_refl _)))
    (by
     intro p q f0 f1 f2
     unfold K
     rw [k2 p f0 (by omega), k2 q (by omega) f2]
     exact h2 _ _ (by omega) (by omega) (by omega))
    (by
     intro p q f0 f1 f2
     unfold K
     rw [k3 p f0 (by omega), k3 q (by omega) f2]
     exact h1 _ _ (by omega) (by omega) (by omega))
    (k1.srt (h2.mono (by omega) (Nat.le_refl _)) (Or.inr (Nat.le_refl _)))
    (by
     intro p q f0 f1 f2 f3
     unfold K
     by_cases hp : p < s
     ·rw [k1.out p (Or.inl hp)]
      by_cases hq : q < e
      ·rw [k3 q f2 hq]
       exact h1 _ _ f0 (by omega) (by omega)
      ·rw [k1.out q (Or.inr (by omega))]
       have g1 := h1 p (s - 1) f0 (by omega) (by omega)
       have g2 := hlo q (by omega) (by omega) f3
       unfold K at g1 g2
       omega
     ·rw [k2 p (by omega) f1]
      by_cases hq : q < e
      ·rw [k3 q f2 hq]
       have g1 := hhi (p + (m - s)) (by omega) (by omega) hrot.1
       have g2 := h1 s (q - (e - m)) (by omega) (by omega) (by omega)
       unfold K at g1 g2
       omega
      ·rw [k1.out q (Or.inr (by omega))]
       exact h2 _ _ (by omega) (by omega) f3)
   refine ⟨r, ?_, sh.trans j1, j2⟩
   refine evp (by omega) ?_
   refine Ev.step (fun k => by rw [api_Term_60_at52.j6]) ?_
   refine evp (by simp; omega) ?_
   exact evb hr1 hr
  ·have hcase : s = m ∨ m = e := by omega
   obtain ⟨r, hr, j1, j2⟩ := sm_two N d a mid b hd (by omega) (by omega) hbN (by omega) (by omega) l hl hB s e has hs2 (by omega) (by omega)
    (h1.mono (Nat.le_refl _) hsm)
    (by
     intro p q f0 f1 f2
     rcases hcase with h | h
     ·exact h2 p q (by omega) f1 (by omega)
     ·exact h1 p q (by omega) f1 (by omega))
    (by
     intro p q f0 f1 f2
     rcases hcase with h | h
     ·exact h2 p q (by omega) f1 (by omega)
     ·exact h1 p q (by omega) f1 (by omega))
    (h2.mono (by omega) (Nat.le_refl _))
    (by
     intro p q f0 f1 f2 f3
     rcases hcase with h | h
     ·
      by_cases hp : p < m
      ·have g1 := h1 p (s - 1) f0 (by omega) (by omega)
       have g2 := hlo q (by omega) (by omega) f3
       omega
      ·exact h2 p q (by omega) (by omega) f3
     ·
      by_cases hq : q < m
      ·exact h1 p q f0 (by omega) hq
      ·have g1 := h1 p (s - 1) f0 (by omega) (by omega)
       have g2 := hlo q (by omega) (by omega) f3
       omega)
   refine ⟨r, ?_, j1, j2⟩
   by_cases hsm2 : s < m
   ·refine evp (by omega) ?_
    refine Ev.step (fun k => by rw [api_Term_60_at52.j6]) ?_
    exact evn (by simp; omega) hr
   ·refine evn (by omega) ?_
    refine Ev.step (fun k => by rw [api_Term_60_at52.j6]) ?_
    exact evn (by simp) hr
end Go.Proofs.Ytikpfbfeoifmkaa.Z
end
section
namespace Go.Proofs.Ytikpfbfeoifmkaa.Z
open Go.RowKit Go.Proofs.Ytikpfbfeoifmkaa.X Go.Proofs.YtikpfbfeoifmkaaW.PrintWords Go.Proofs.YtikpfbfeoifmkaaW.PrintLast
set_option linter.unusedVariables false
set_option linter.unusedSimpArgs false
theorem sm_l4 (N d a m b mid : Nat) (hN : N < 576460752303423488) (hd : Merges N d) (ham : a < m) (hmb : m < b) (hbN : b ≤ N) (hdd : b - a ≤ d + 1) (hm2 : 2 ≤ m - a) (hb2 : 2 ≤ b - m) (l : List S44) (hl : l.length = N) (hB : Bd l)
   (h1 : Srt l a m) (h2 : Srt l m b) (hmid : mid = (a + b) / 2) (s0 r0 : Nat) (hc : (s0 + b = mid + m ∧ r0 = mid ∧ mid < m) ∨ (s0 = a ∧ r0 = m ∧ m ≤ mid)) (dd : Nat) :
   ∀ (x y : Nat), y - x ≤ dd → s0 ≤ x → x ≤ y → y ≤ r0 → (∀ c, s0 ≤ c → c < x → K l c ≤ K l (mid + m - 1 - c)) → (∀ c, y ≤ c → c < r0 → K l (mid + m - 1 - c) < K l c) →
   ∃ r, Ev (fun k => api_Term_60_at52.l4 k l (a : Int) (m : Int) (b : Int) (mid : Int) ((mid + m : Nat) : Int) (x : Int) (y : Int) ((mid + m - 1 : Nat) : Int)) r ∧ Shuf a b l r ∧ Srt r a b := by
  have hm0 : 2 * mid ≤ a + b ∧ a + b ≤ 2 * mid + 1 := by omega
  induction dd with
  | zero =>
   intro x y hxy hsx hxy2 hyr hlo hhi
   obtain ⟨r, hr, k⟩ := sm_rest N d a m b hN hd ham hmb hbN hdd hm2 hb2 l hl hB h1 h2 x (by omega) (by omega) (by omega) (by omega)
    (by
     intro q f0 f1 f2
     rw [← hmid] at f1
     have g := hlo (x - 1) (by omega) (by omega)
     have e1 : mid + m - 1 - (x - 1) = mid + m - x := by omega
     rw [e1] at g
     have g2 := h2 (mid + m - x) q (by omega) f1 f2
     omega)
    (by
     intro p f0 f1 f2
     rw [← hmid] at f1
     have g := hhi x (by omega) (by omega)
     have g2 := h2 p (mid + m - 1 - x) f0 (by omega) (by omega)
     omega)
   rw [← hmid] at hr
   refine ⟨r, ?_, k⟩
   refine Ev.step (fun k => by rw [api_Term_60_at52.l4]) ?_
   refine evn (by omega) ?_
   rw [show wrap64 (((mid + m : Nat) : Int) - (x : Int)) = ((mid + m - x : Nat) : Int) from by rw [w64] <;> omega]
   exact hr
  | succ dd ih =>
   intro x y hxy hsx hxy2 hyr hlo hhi
   by_cases hlt : x < y
   ·obtain ⟨c, hcd⟩ : ∃ c, (x + y) / 2 = c := ⟨_, rfl⟩
    have hc1 : x ≤ c ∧ c < y := by omega
    have hcm := cmp_ hB (mid + m - 1 - c) c (gd l (mid + m - 1 - c)).f1 (gd l c).f1
    have hw : wrap64 (((mid + m - 1 : Nat) : Int) - (c : Int)) = ((mid + m - 1 - c : Nat) : Int) := by rw [w64] <;> omega
    by_cases hk : K l (mid + m - 1 - c) - K l c < 0
    ·obtain ⟨r, hr, k⟩ := ih x c (by omega) hsx (by omega) (by omega) hlo (fun c' f0 f1 => by
      have g1 := h1 c c' (by omega) f0 (by omega)
      have g2 := h2 (mid + m - 1 - c') (mid + m - 1 - c) (by omega) (by omega) (by omega)
      omega)
     refine ⟨r, ?_, k⟩
     refine Ev.step (fun k => by rw [api_Term_60_at52.l4]) ?_
     refine evp (by omega) ?_
     rw [halfN (N := N) (by omega) (by omega), hcd, hw]
     refine evp (by omega) (evp (by omega) (evp (by omega) (evp (by omega) ?_)))
     rw [rd_gd, rd_gd, hcm]
     exact evs (evp hk hr)
    ·obtain ⟨r, hr, k⟩ := ih (c + 1) y (by omega) (by omega) (by omega) hyr (fun c' f0 f1 => by
      have g1 := h1 c' c (by omega) (by omega) (by omega)
      have g2 := h2 (mid + m - 1 - c) (mid + m - 1 - c') (by omega) (by omega) (by omega)
      omega) hhi
     refine ⟨r, ?_, k⟩
     refine Ev.step (fun k => by rw [api_Term_60_at52.l4]) ?_
     refine evp (by omega) ?_
     rw [halfN (N := N) (by omega) (by omega), hcd, hw]
     refine evp (by omega) (evp (by omega) (evp (by omega) (evp (by omega) ?_)))
     rw [rd_gd, rd_gd, hcm, show wrap64 ((c : Int) + 1) = ((c + 1 : Nat) : Int) from by rw [w64] <;> omega]
     exact evs (evn hk hr)
   ·exact ih x y (by omega) hsx hxy2 hyr hlo hhi
theorem merges (N : Nat) (hN : N < 576460752303423488) : ∀ d, Merges N d := by
  intro d
  induction d with
  | zero => intro a m b l h0 h1 h2; omega
  | succ d ih =>
   intro a m b l hdd ham hmb hbN hl hB h1 h2
   have hw1 : wrap64 ((m : Int) - (a : Int)) = ((m - a : Nat) : Int) := by rw [w64] <;> omega
   have hw2 : wrap64 ((b : Int) - (m : Int)) = ((b - m : Nat) : Int) := by rw [w64] <;> omega
   by_cases hc1 : m = a + 1
   ·obtain ⟨r, hr, k⟩ := sm_l0 a m b N (by omega) hbN hc1 hmb l hl hB h2 _ m b (Nat.le_refl _) (Nat.le_refl _) (by omega) (Nat.le_refl _) (fun p f0 f1 => by omega) (fun p f0 f1 => by omega)
    refine ⟨r, ?_, k⟩
    refine Ev.step (fun k => by rw [api_Term_60_at52.f]) ?_
    rw [hw1]
    exact evp (by omega) hr
   ·by_cases hc2 : b = m + 1
    ·obtain ⟨r, hr, k⟩ := sm_l2 a m b N (by omega) hbN hc2 ham l hl hB h1 _ a m (Nat.le_refl _) (Nat.le_refl _) (by omega) (Nat.le_refl _) (fun p f0 f1 => by omega) (fun p f0 f1 => by omega)
     refine ⟨r, ?_, k⟩
     refine Ev.step (fun k => by rw [api_Term_60_at52.f]) ?_
     rw [hw1, hw2]
     exact evn (by omega) (evp (by omega) hr)
    ·obtain ⟨mid, hmid⟩ : ∃ mid, mid = (a + b) / 2 := ⟨_, rfl⟩
     have hm0 : 2 * mid ≤ a + b ∧ a + b ≤ 2 * mid + 1 := by omega
     by_cases hgt : mid < m
     ·obtain ⟨r, hr, k⟩ := sm_l4 N d a m b mid hN ih ham hmb hbN hdd (by omega) (by omega) l hl hB h1 h2 hmid (mid + m - b) mid (Or.inl ⟨by omega, rfl, hgt⟩) _ (mid + m - b) mid (Nat.le_refl _) (Nat.le_refl _) (by omega) (Nat.le_refl _) (fun c f0 f1 => by omega) (fun c f0 f1 => by omega)
      refine ⟨r, ?_, k⟩
      refine Ev.step (fun k => by rw [api_Term_60_at52.f]) ?_
      rw [hw1, hw2, halfN (N := N) (by omega) (by omega), ← hmid]
      refine evn (by omega) (evn (by omega) (evp (by omega) ?_))
      rw [show wrap64 ((mid : Int) + (m : Int)) = ((mid + m : Nat) : Int) from by rw [w64] <;> omega, show wrap64 (((mid + m : Nat) : Int) - (b : Int)) = ((mid + m - b : Nat) : Int) from by rw [w64] <;> omega]
      refine Ev.step (fun k => by rw [api_Term_60_at52.j4]) ?_
      rw [show wrap64 (((mid + m : Nat) : Int) - 1) = ((mid + m - 1 : Nat) : Int) from by rw [w64] <;> omega]
      exact hr
     ·obtain ⟨r, hr, k⟩ := sm_l4 N d a m b mid hN ih ham hmb hbN hdd (by omega) (by omega) l hl hB h1 h2 hmid a m (Or.inr ⟨rfl, rfl, by omega⟩) _ a m (Nat.le_refl _) (Nat.le_refl _) (by omega) (Nat.le_refl _) (fun c f0 f1 => by omega) (fun c f0 f1 => by omega)
      refine ⟨r, ?_, k⟩
      refine Ev.step (fun k => by rw [api_Term_60_at52.f]) ?_
      rw [hw1, hw2, halfN (N := N) (by omega) (by omega), ← hmid]
      refine evn (by omega) (evn (by omega) (evn (by omega) ?_))
      rw [show wrap64 ((mid : Int) + (m : Int)) = ((mid + m : Nat) : Int) from by rw [w64] <;> omega]
      refine Ev.step (fun k => by rw [api_Term_60_at52.j4]) ?_
      rw [show wrap64 (((mid + m : Nat) : Int) - 1) = ((mid + m - 1 : Nat) : Int) from by rw [w64] <;> omega]
      exact hr
def Blks (l : List S44) (s c n : Nat) : Prop := ∀ q, c ≤ q → Srt l (q * s) (min ((q + 1) * s) n)
theorem st_l0 (n : Nat) (hn : n < 288230376151711744) (rest : ∀ l : List S44, l.length = n → Bd l → Blks l 20 0 n → ∃ r, Ev (fun k => api_Term_58_at52.l1 k l (n : Int) 20) r ∧ r.Perm l ∧ Srt r 0 n) (d : Nat) :
   ∀ (c : Nat) (l : List S44), n - c * 20 ≤ d → c * 20 ≤ n → l.length = n → Bd l → (∀ q, q < c → Srt l (q * 20) (min ((q + 1) * 20) n)) →
   ∃ r, Ev (fun k => api_Term_58_at52.l0 k l (n : Int) 20 ((c * 20 : Nat) : Int) ((c * 20 + 20 : Nat) : Int)) r ∧ r.Perm l ∧ Srt r 0 n := by
  induction d with
  | zero =>
   intro c l hd hcn hl hB hs
   obtain ⟨l1, hr1, k1, k2⟩ := ins_sorts (c * 20) n n l hcn (Nat.le_refl _) (by omega) hl hB
   obtain ⟨r, hr, h1, h2⟩ := rest l1 (by rw [k1.len]; exact hl) (hB.perm k1.perm) (by
    intro q _
    by_cases hq : q < c
    ·exact k1.srt (hs q hq) (Or.inl (by omega))
    ·by_cases hq2 : q = c
     ·subst hq2
      exact k2.mono (Nat.le_refl _) (by omega)
     ·exact Srt.small (by omega))
   refine ⟨r, ?_, h1.trans k1.perm, h2⟩
   refine Ev.step (fun k => by rw [api_Term_58_at52.l0]) ?_
   exact evn (by omega) (evb hr1 hr)
  | succ d ih =>
   intro c l hd hcn hl hB hs
   by_cases hlt : c * 20 + 20 ≤ n
   ·obtain ⟨l1, hr1, k1, k2⟩ := ins_sorts (c * 20) (c * 20 + 20) n l (by omega) hlt (by omega) hl hB
    obtain ⟨r, hr, h1, h2⟩ := ih (c + 1) l1 (by omega) (by omega) (by rw [k1.len]; exact hl) (hB.perm k1.perm) (by
     intro q hq
     by_cases hq2 : q = c
     ·subst hq2
      exact k2.mono (Nat.le_refl _) (by omega)
     ·exact k1.srt (hs q (by omega)) (Or.inl (by omega)))
    refine ⟨r, ?_, h1.trans k1.perm, h2⟩
    refine Ev.step (fun k => by rw [api_Term_58_at52.l0]) ?_
    refine evp (by omega) (evb hr1 ?_)
    rw [show wrap64 (((c * 20 + 20 : Nat) : Int) + 20) = (((c + 1) * 20 + 20 : Nat) : Int) from by rw [w64] <;> omega]
    rw [show ((c * 20 + 20 : Nat) : Int) = (((c + 1) * 20 : Nat) : Int) from by omega]
    exact hr
   ·obtain ⟨l1, hr1, k1, k2⟩ := ins_sorts (c * 20) n n l hcn (Nat.le_refl _) (by omega) hl hB
    obtain ⟨r, hr, h1, h2⟩ := rest l1 (by rw [k1.len]; exact hl) (hB.perm k1.perm) (by
     intro q _
     by_cases hq : q < c
     ·exact k1.srt (hs q hq) (Or.inl (by omega))
     ·by_cases hq2 : q = c
      ·subst hq2
       exact k2.mono (Nat.le_refl _) (by omega)
      ·exact Srt.small (by omega))
    refine ⟨r, ?_, h1.trans k1.perm, h2⟩
    refine Ev.step (fun k => by rw [api_Term_58_at52.l0]) ?_
    exact evn (by omega) (evb hr1 hr)
theorem st_l2 (n s : Nat) (hn : n < 288230376151711744) (hs0 : 0 < s) (hsn : s < n) (rest : ∀ l : List S44, l.length = n → Bd l → Blks l (s * 2) 0 n → ∃ r, Ev (fun k => api_Term_58_at52.l1 k l (n : Int) ((s * 2 : Nat) : Int)) r ∧ r.Perm l ∧ Srt r 0 n) (d : Nat) :
   ∀ (c a : Nat) (l : List S44), a = c * (s * 2) → n + 1 - a ≤ d → a ≤ n → l.length = n → Bd l → (∀ q, q < c → Srt l (q * (s * 2)) (min ((q + 1) * (s * 2)) n)) → Blks l s (c * 2) n →
   ∃ r, Ev (fun k => api_Term_58_at52.l2 k l (n : Int) (s : Int) (a : Int) ((a + 2 * s : Nat) : Int)) r ∧ r.Perm l ∧ Srt r 0 n := by
  induction d with
  | zero => intro c a l ha hd hcn; omega
  | succ d ih =>
   intro c a l ha hd hcn hl hB hs hb
   have hcs : (c + 1) * (s * 2) = a + 2 * s := by rw [Nat.add_mul, ← ha, Nat.one_mul, Nat.mul_comm s 2]
   have e1 : c * 2 * s = a := by rw [ha, Nat.mul_assoc, Nat.mul_comm 2 s]
   have e2 : (c * 2 + 1) * s = a + s := by rw [Nat.add_mul, e1, Nat.one_mul]
   have e3 : (c * 2 + 1 + 1) * s = a + s + s := by rw [Nat.add_mul, e2, Nat.one_mul]
   have b1 := hb (c * 2) (Nat.le_refl _)
   have b2 := hb (c * 2 + 1) (by omega)
   rw [e1, e2] at b1
   rw [e2, e3] at b2
   have le_a : ∀ q, q < c → (q + 1) * (s * 2) ≤ a := fun q hq => by rw [ha]; exact Nat.mul_le_mul_right _ hq
   by_cases hlt : a + 2 * s ≤ n
   ·obtain ⟨l1, hr1, k1, k2⟩ := merges n (by omega) _ a (a + s) (a + 2 * s) l (Nat.le_refl _) (by omega) (by omega) hlt hl hB (b1.mono (Nat.le_refl _) (by omega)) (b2.mono (Nat.le_refl _) (by omega))
    obtain ⟨r, hr, h1, h2⟩ := ih (c + 1) (a + 2 * s) l1 hcs.symm (by omega) hlt (by rw [k1.len]; exact hl) (hB.perm k1.perm) (by
     intro q hq
     by_cases hq2 : q = c
     ·subst hq2
      rw [hcs, ← ha]
      exact k2.mono (Nat.le_refl _) (by omega)
     ·have := le_a q (by omega)
      exact k1.srt (hs q (by omega)) (Or.inl (by omega)))
     (by
      intro q hq
      have : a + 2 * s ≤ q * s := by
       have h3 : (c + 1) * 2 * s ≤ q * s := Nat.mul_le_mul_right _ hq
       have h4 : (c + 1) * 2 * s = a + 2 * s := by rw [← hcs, Nat.mul_assoc, Nat.mul_comm 2 s]
       omega
      exact k1.srt (hb q (by omega)) (Or.inr this))
    refine ⟨r, ?_, h1.trans k1.perm, h2⟩
    refine Ev.step (fun k => by rw [api_Term_58_at52.l2]) ?_
    refine evp (by omega) ?_
    rw [show wrap64 ((a : Int) + (s : Int)) = ((a + s : Nat) : Int) from by rw [w64] <;> omega]
    refine evb hr1 ?_
    rw [show wrap64 (2 * (s : Int)) = ((2 * s : Nat) : Int) from by rw [w64] <;> omega, show wrap64 (((a + 2 * s : Nat) : Int) + ((2 * s : Nat) : Int)) = ((a + 2 * s + 2 * s : Nat) : Int) from by rw [w64] <;> omega]
    exact hr
   ·by_cases hlast : a + s < n
    ·obtain ⟨l1, hr1, k1, k2⟩ := merges n (by omega) _ a (a + s) n l (Nat.le_refl _) (by omega) hlast (Nat.le_refl _) hl hB (b1.mono (Nat.le_refl _) (by omega)) (b2.mono (Nat.le_refl _) (by omega))
     obtain ⟨r, hr, h1, h2⟩ := rest l1 (by rw [k1.len]; exact hl) (hB.perm k1.perm) (by
      intro q _
      by_cases hq : q < c
      ·have := le_a q hq
       exact k1.srt (hs q hq) (Or.inl (by omega))
      ·by_cases hq2 : q = c
       ·subst hq2
        rw [hcs, ← ha]
        exact k2.mono (Nat.le_refl _) (by omega)
       ·have h3 : (c + 1) * (s * 2) ≤ q * (s * 2) := Nat.mul_le_mul_right _ (by omega)
        exact Srt.small (by omega))
     refine ⟨r, ?_, h1.trans k1.perm, h2⟩
     refine Ev.step (fun k => by rw [api_Term_58_at52.l2]) ?_
     refine evn (by omega) ?_
     rw [show wrap64 ((a : Int) + (s : Int)) = ((a + s : Nat) : Int) from by rw [w64] <;> omega, show wrap64 ((s : Int) * 2) = ((s * 2 : Nat) : Int) from by rw [w64] <;> omega]
     exact evp (by omega) (evb hr1 hr)
    ·obtain ⟨r, hr, h1, h2⟩ := rest l hl hB (by
      intro q _
      by_cases hq : q < c
      ·exact hs q hq
      ·by_cases hq2 : q = c
       ·subst hq2
        rw [hcs, ← ha]
        exact b1.mono (Nat.le_refl _) (by omega)
       ·have h3 : (c + 1) * (s * 2) ≤ q * (s * 2) := Nat.mul_le_mul_right _ (by omega)
        exact Srt.small (by omega))
     refine ⟨r, ?_, h1, h2⟩
     refine Ev.step (fun k => by rw [api_Term_58_at52.l2]) ?_
     refine evn (by omega) ?_
     rw [show wrap64 ((a : Int) + (s : Int)) = ((a + s : Nat) : Int) from by rw [w64] <;> omega, show wrap64 ((s : Int) * 2) = ((s * 2 : Nat) : Int) from by rw [w64] <;> omega]
     exact evn (by omega) hr
theorem st_l1 (n : Nat) (hn : n < 288230376151711744) (d : Nat) : ∀ (s : Nat) (l : List S44), n - s ≤ d → 0 < s → s ≤ 2 * n + 20 → l.length = n → Bd l → Blks l s 0 n →
   ∃ r, Ev (fun k => api_Term_58_at52.l1 k l (n : Int) (s : Int)) r ∧ r.Perm l ∧ Srt r 0 n := by
  induction d with
  | zero =>
   intro s l hd hs0 hs2 hl hB hb
   refine ⟨l, ?_, List.Perm.refl _, ?_⟩
   ·refine Ev.step (fun k => by rw [api_Term_58_at52.l1]) ?_
    exact evn (by omega) (evr _)
   ·have := hb 0 (Nat.le_refl _)
    rw [Nat.zero_mul, Nat.zero_add, Nat.one_mul] at this
    exact this.mono (Nat.le_refl _) (by omega)
  | succ d ih =>
   intro s l hd hs0 hs2 hl hB hb
   by_cases hlt : s < n
   ·obtain ⟨r, hr, h1, h2⟩ := st_l2 n s hn hs0 hlt (fun l hl hB hb => ih (s * 2) l (by omega) (by omega) (by omega) hl hB hb) _ 0 0 l (by omega) (Nat.le_refl _) (by omega) hl hB (fun q hq => by omega) hb
    refine ⟨r, ?_, h1, h2⟩
    refine Ev.step (fun k => by rw [api_Term_58_at52.l1]) ?_
    refine evp (by omega) ?_
    rw [show wrap64 (2 * (s : Int)) = ((0 + 2 * s : Nat) : Int) from by rw [w64] <;> omega]
    exact hr
   ·exact ih s l (by omega) hs0 hs2 hl hB hb
theorem sort_terms (l : List S44) (hn : l.length < 288230376151711744) (hB : Bd l) :
   ∃ r, Ev (fun k => api_Term_51_at52.f k l) r ∧ r.Perm l ∧ Srt r 0 l.length := by
  obtain ⟨r, hr, h1, h2⟩ := st_l0 l.length hn (fun l' hl hB hb => by
   by_cases h0 : l.length = 0
   ·exact st_l1 l.length hn _ 20 l' (Nat.le_refl _) (by omega) (by omega) hl hB hb
   ·exact st_l1 l.length hn _ 20 l' (Nat.le_refl _) (by omega) (by omega) hl hB hb) _ 0 l (Nat.le_refl _) (by omega) rfl hB (fun q hq => by omega)
  refine ⟨r, ?_, h1, h2⟩
  unfold api_Term_51_at52.f api_Term_58_at52.f
  exact evb hr (evr _)
end Go.Proofs.Ytikpfbfeoifmkaa.Z
end
section
namespace Go.Proofs.Ytikpfbfeoifmkaa.Z
open Go.RowKit Go.Proofs.Ytikpfbfeoifmkaa.X Go.Proofs.YtikpfbfeoifmkaaW.PrintWords Go.Proofs.YtikpfbfeoifmkaaW.PrintLast
set_option linter.unusedVariables false
set_option linter.unusedSimpArgs false
def nz (t : S44) : Bool := !(t.f1 == 0)
theorem take_succ_gd {l : List S44} {j : Nat} (h : j < l.length) : l.take (j + 1) = l.take j ++ [gd l j] := by
  rw [List.take_succ_eq_append_getElem h, gd_lt h]
theorem ix54_l0 (l : List S44) (hl : l.length < 1152921504606846976) (d : Nat) : ∀ (i : Nat), l.length - i = d → i ≤ l.length → (∀ p, p < i → nz (gd l p) = true) →
   ∃ r : Int, Ev (fun k => api_Term_49_at54.l0 k l (l.length : Int) (i : Int)) r ∧ ((r = -1 ∧ ∀ p, p < l.length → nz (gd l p) = true) ∨ ∃ q : Nat, r = q ∧ q < l.length ∧ nz (gd l q) = false ∧ ∀ p, p < q → nz (gd l p) = true) := by
  induction d with
  | zero =>
   intro i hd hi h
   refine ⟨-1, ?_, Or.inl ⟨rfl, fun p hp => h p (by omega)⟩⟩
   refine Ev.step (fun k => by rw [api_Term_49_at54.l0]) ?_
   exact evn (by omega) (evr _)
  | succ d ih =>
   intro i hd hi h
   have hf : ∀ x y, fact_gather_2.f x y = some (y == 0) := fun x y => rfl
   by_cases hz : nz (gd l i) = true
   ·obtain ⟨r, hr, k⟩ := ih (i + 1) (by omega) (by omega) (fun p hp => by
     by_cases e : p = i
     ·rw [e]; exact hz
     ·exact h p (by omega))
    refine ⟨r, ?_, k⟩
    refine Ev.step (fun k => by rw [api_Term_49_at54.l0]) ?_
    refine evp (by omega) (evp (by omega) (evp (by omega) ?_))
    rw [rd_gd, hf]
    refine evs (evn (by unfold nz at hz; simpa using hz) ?_)
    rw [show wrap64 ((i : Int) + 1) = ((i + 1 : Nat) : Int) from by rw [w64] <;> omega]
    exact hr
   ·refine ⟨i, ?_, Or.inr ⟨i, rfl, by omega, by simpa using hz, h⟩⟩
    refine Ev.step (fun k => by rw [api_Term_49_at54.l0]) ?_
    refine evp (by omega) (evp (by omega) (evp (by omega) ?_))
    rw [rd_gd, hf]
    exact evs (evp (by unfold nz at hz; simpa using hz) (evr _))
theorem filter_all {l : List S44} (h : ∀ p, p < l.length → nz (gd l p) = true) : l.filter nz = l := by
  rw [List.filter_eq_self]
  intro t ht
  obtain ⟨i, hi, rfl⟩ := List.mem_iff_getElem.1 ht
  have := h i hi
  rwa [gd_lt hi] at this
theorem del_l0 (l : List S44) (hl : l.length < 1152921504606846976) (d : Nat) : ∀ (i j : Nat) (x : List S44), l.length - j = d → i < j → j ≤ l.length → x.length = l.length → x.take i = (l.take j).filter nz → x.drop j = l.drop j →
   Ev (fun k => api_Term_53_at54.l0 k x (i : Int) (j : Int)) (l.filter nz) := by
  induction d with
  | zero =>
   intro i j x hd hij hj hx h1 h2
   refine Ev.step (fun k => by rw [api_Term_53_at54.l0]) ?_
   refine evn (by omega) (evp (by omega) (evp (by omega) (evr' ?_)))
   rw [List.take_of_length_le (l := l) (i := j) (by omega)] at h1
   rw [Int.toNat_natCast, List.take_append_of_le_length (by rw [List.length_take]; omega), List.take_take, Nat.min_self, h1]
  | succ d ih =>
   intro i j x hd hij hj hx h1 h2
   have hf : ∀ x y, fact_gather_2.f x y = some (y == 0) := fun x y => rfl
   have hxj : gd x j = gd l j := by
    have : (x.drop j)[0]? = (l.drop j)[0]? := by rw [h2]
    rw [List.getElem?_drop, List.getElem?_drop, Nat.add_zero] at this
    simp only [gd, List.getD_eq_getElem?_getD, this]
   have hj1 : j < l.length := by omega
   by_cases hz : nz (gd l j) = true
   ·have g := ih (i + 1) (j + 1) (x.set i (gd x j)) (by omega) (by omega) (by omega) (by rw [List.length_set]; exact hx)
     (by
      rw [take_succ_gd hj1, List.filter_append, ← h1, take_succ_gd (by rw [List.length_set]; omega), gd_set _ _ (by omega), if_pos rfl, List.take_set_of_le (Nat.le_refl _)]
      rw [hxj, List.filter_cons, if_pos hz, List.filter_nil])
     (by
      rw [List.drop_set_of_lt (by omega)]
      have : (x.drop j).drop 1 = (l.drop j).drop 1 := by rw [h2]
      rwa [List.drop_drop, List.drop_drop] at this)
    refine Ev.step (fun k => by rw [api_Term_53_at54.l0]) ?_
    refine evp (by omega) (evp (by omega) ?_)
    rw [rd_gd, hf]
    refine evs (evn (by unfold nz at hz; rw [hxj]; simpa using hz) (evp (by omega) (evp (by omega) ?_)))
    rw [show wrap64 ((i : Int) + 1) = ((i + 1 : Nat) : Int) from by rw [w64] <;> omega, show wrap64 ((j : Int) + 1) = ((j + 1 : Nat) : Int) from by rw [w64] <;> omega]
    exact g
   ·have g := ih i (j + 1) x (by omega) (by omega) (by omega) hx
     (by
      rw [take_succ_gd hj1, List.filter_append, ← h1, List.filter_cons, if_neg hz, List.filter_nil, List.append_nil])
     (by
      have : (x.drop j).drop 1 = (l.drop j).drop 1 := by rw [h2]
      rwa [List.drop_drop, List.drop_drop] at this)
    refine Ev.step (fun k => by rw [api_Term_53_at54.l0]) ?_
    refine evp (by omega) (evp (by omega) ?_)
    rw [rd_gd, hf]
    refine evs (evp (by unfold nz at hz; rw [hxj]; simpa using hz) ?_)
    rw [show wrap64 ((j : Int) + 1) = ((j + 1 : Nat) : Int) from by rw [w64] <;> omega]
    exact g
theorem delete_zeros (l : List S44) (hl : l.length < 1152921504606846976) : Ev (fun k => api_Term_53_at54.f k l) (l.filter nz) := by
  unfold api_Term_53_at54.f api_Term_49_at54.f
  obtain ⟨r, hr, k⟩ := ix54_l0 l hl _ 0 rfl (Nat.zero_le _) (fun p hp => by omega)
  refine evb hr ?_
  rcases k with ⟨rfl, k⟩ | ⟨q, rfl, hq, k1, k2⟩
  ·exact evp rfl (evr' (filter_all k).symm)
  ·refine evn (by omega) ?_
   rw [show wrap64 ((q : Int) + 1) = ((q + 1 : Nat) : Int) from by rw [w64] <;> omega]
   refine del_l0 l hl _ q (q + 1) l rfl (by omega) (by omega) rfl ?_ rfl
   rw [take_succ_gd hq, List.filter_append, List.filter_cons, if_neg (by simp [k1]), List.filter_nil, List.append_nil]
   have := filter_all (l := l.take q) (fun p hp => by
    rw [List.length_take] at hp
    have h1 := k2 p (by omega)
    rw [gd_lt (by omega)] at h1
    rw [gd_lt (by rw [List.length_take]; omega), List.getElem_take]
    exact h1)
   exact this.symm
def Sm (l : List S44) : Prop := ∀ t ∈ l, -1048576 ≤ t.f1 ∧ t.f1 ≤ 1048576
theorem Sm.gd {l : List S44} (h : Sm l) (i : Nat) : -1048576 ≤ (gd l i).f1 ∧ (gd l i).f1 ≤ 1048576 := by
  by_cases hi : i < l.length
  ·rw [gd_lt hi]
   exact h _ (by simp)
  ·rw [gd_ge (by omega)]
   simp [z44]
def Last (L o : List S44) (t : Nat) : Prop := 0 < t → ∃ o' x, o = o' ++ [x] ∧ x.f0 = K L (t - 1)
theorem ga_l0 (L : List S44) (hL : L.length ≤ 1024) (hs : Srt L 0 L.length) (hSm : Sm L) (d : Nat) : ∀ (t : Nat) (o : List S44), L.length - t = d → t ≤ L.length → o.length ≤ t →
   (o.Pairwise fun x y => x.f0 < y.f0) → (∀ b, cf o b = cf (L.take t) b) → (∀ x ∈ o, -(t * 1048576 : Int) ≤ x.f1 ∧ x.f1 ≤ t * 1048576) → (∀ x ∈ o, ∃ p, p < t ∧ x.f0 = K L p) → Last L o t →
   ∃ r, Ev (fun k => fact_gather.l0 k L o L (L.length : Int) (t : Int)) r ∧ Canon r (cf L) ∧ (∀ x ∈ r, ∃ p, p < L.length ∧ x.f0 = K L p) ∧ r.length ≤ L.length ∧ (∀ x ∈ r, -1073741824 ≤ x.f1 ∧ x.f1 ≤ 1073741824) := by
  induction d with
  | zero =>
   intro t o hd ht hol hinc hcf hb hk hlast
   rw [List.take_of_length_le (by omega)] at hcf
   refine ⟨o.filter nz, ?_, Canon.filter hinc hcf, fun x hx => ?_, Nat.le_trans (List.length_filter_le _ _) (by omega), fun x hx => ?_⟩
   ·refine Ev.step (fun k => by rw [fact_gather.l0]) ?_
    refine evn (by omega) ?_
    exact evb (delete_zeros o (by omega)) (evr _)
   ·obtain ⟨p, h1, h2⟩ := hk x (List.mem_filter.1 hx).1
    exact ⟨p, by omega, h2⟩
   ·have := hb x (List.mem_filter.1 hx).1
    omega
  | succ d ih =>
   intro t o hd ht hol hinc hcf hb hk hlast
   have ht1 : t < L.length := by omega
   have htake : ∀ b, cf (L.take (t + 1)) b = cf (L.take t) b + (if (gd L t).f0 = b then (gd L t).f1 else 0) := fun b => by
    rw [take_succ_gd ht1, cf_append, cf_single]
   have hsm := hSm.gd t
   have hnew : (∀ x ∈ o, x.f0 < (gd L t).f0) → ∃ r, Ev (fun k => fact_gather.l0 k L (o ++ [gd L t]) L (L.length : Int) ((t + 1 : Nat) : Int)) r ∧ Canon r (cf L) ∧ (∀ x ∈ r, ∃ p, p < L.length ∧ x.f0 = K L p) ∧ r.length ≤ L.length ∧ (∀ x ∈ r, -1073741824 ≤ x.f1 ∧ x.f1 ≤ 1073741824) := by
    intro hlt
    refine ih (t + 1) (o ++ [gd L t]) (by omega) (by omega) (by simp; omega) ?_ (fun b => ?_) (fun x hx => ?_) (fun x hx => ?_) (fun _ => ⟨o, gd L t, rfl, rfl⟩)
    ·rw [List.pairwise_append]
     exact ⟨hinc, List.pairwise_singleton _ _, fun x hx y hy => by rw [List.mem_singleton.1 hy]; exact hlt x hx⟩
    ·rw [cf_append, cf_single, hcf, htake]
    ·rcases List.mem_append.1 hx with hx | hx
     ·have := hb x hx
      omega
     ·rw [List.mem_singleton.1 hx]
      omega
    ·rcases List.mem_append.1 hx with hx | hx
     ·obtain ⟨p, h1, h2⟩ := hk x hx
      exact ⟨p, by omega, h2⟩
     ·rw [List.mem_singleton.1 hx]
      exact ⟨t, by omega, rfl⟩
   by_cases h0 : t = 0
   ·subst h0
    have ho : o = [] := List.eq_nil_of_length_eq_zero (by omega)
    subst ho
    obtain ⟨r, hr, k⟩ := hnew (by simp)
    refine ⟨r, ?_, k⟩
    refine Ev.step (fun k => by rw [fact_gather.l0]) ?_
    refine evp (by omega) (evp (by omega) (evp (by omega) (evn (by omega) (evp (by simp) ?_))))
    rw [show wrap64 (((0 : Nat) : Int) + 1) = ((0 + 1 : Nat) : Int) from by rw [w64] <;> omega]
    exact hr
   ·obtain ⟨o', x, ho, hx⟩ := hlast (by omega)
    have hKt : K L (t - 1) ≤ K L t := hs (t - 1) t (by omega) (by omega) ht1
    have hpre : Ev (fun k => if (gd L (t - 1)).f0 = (gd L t).f0 then (if 0 ≤ (wrap64 ((o.length : Int) - 1)) then (if (wrap64 ((o.length : Int) - 1)) < (o.length : Int) then (fact_gather.l0 k L (o.set ((wrap64 ((o.length : Int) - 1)) : Int).toNat (⟨(rd_T44 o (wrap64 ((o.length : Int) - 1))).f0, wrap64 (((rd_T44 o (wrap64 ((o.length : Int) - 1))).f1) + ((gd L t).f1))⟩ : S44)) L (L.length : Int) ((t + 1 : Nat) : Int)) else (none)) else (none)) else (if o.length < 8796093022208 then (fact_gather.l0 k L (o ++ [(⟨(gd L t).f0, (gd L t).f1⟩ : S44)]) L (L.length : Int) ((t + 1 : Nat) : Int)) else (none))) = Ev (fun k => if (gd L (t - 1)).f0 = (gd L t).f0 then (if 0 ≤ (wrap64 ((o.length : Int) - 1)) then (if (wrap64 ((o.length : Int) - 1)) < (o.length : Int) then (fact_gather.l0 k L (o.set ((wrap64 ((o.length : Int) - 1)) : Int).toNat (⟨(rd_T44 o (wrap64 ((o.length : Int) - 1))).f0, wrap64 (((rd_T44 o (wrap64 ((o.length : Int) - 1))).f1) + ((gd L t).f1))⟩ : S44)) L (L.length : Int) ((t + 1 : Nat) : Int)) else (none)) else (none)) else (if o.length < 8796093022208 then (fact_gather.l0 k L (o ++ [gd L t]) L (L.length : Int) ((t + 1 : Nat) : Int)) else (none))) := rfl
    have key : ∃ r, Ev (fun k => if (gd L (t - 1)).f0 = (gd L t).f0 then (if 0 ≤ (wrap64 ((o.length : Int) - 1)) then (if (wrap64 ((o.length : Int) - 1)) < (o.length : Int) then (fact_gather.l0 k L (o.set ((wrap64 ((o.length : Int) - 1)) : Int).toNat (⟨(rd_T44 o (wrap64 ((o.length : Int) - 1))).f0, wrap64 (((rd_T44 o (wrap64 ((o.length : Int) - 1))).f1) + ((gd L t).f1))⟩ : S44)) L (L.length : Int) ((t + 1 : Nat) : Int)) else (none)) else (none)) else (if o.length < 8796093022208 then (fact_gather.l0 k L (o ++ [gd L t]) L (L.length : Int) ((t + 1 : Nat) : Int)) else (none))) r ∧ Canon r (cf L) ∧ (∀ x ∈ r, ∃ p, p < L.length ∧ x.f0 = K L p) ∧ r.length ≤ L.length ∧ (∀ x ∈ r, -1073741824 ≤ x.f1 ∧ x.f1 ≤ 1073741824) := by
     by_cases he : (gd L (t - 1)).f0 = (gd L t).f0
     ·have hol1 : o.length = o'.length + 1 := by rw [ho]; simp
      have hw : wrap64 ((o.length : Int) - 1) = ((o'.length : Nat) : Int) := by rw [w64] <;> omega
      have hgx : gd o o'.length = x := by
       rw [gd_lt (by omega)]
       simp [ho]
      have hbx := hb x (by rw [ho]; simp)
      have hw2 : wrap64 (x.f1 + (gd L t).f1) = x.f1 + (gd L t).f1 := by rw [w64] <;> omega
      have hset : o.set o'.length (⟨x.f0, x.f1 + (gd L t).f1⟩ : S44) = o' ++ [⟨x.f0, x.f1 + (gd L t).f1⟩] := by
       rw [ho, List.set_append_right _ _ (Nat.le_refl _), Nat.sub_self]
       rfl
      have hKx : x.f0 = (gd L t).f0 := by rw [hx]; exact he
      have hinc' := hinc
      rw [ho, List.pairwise_append] at hinc'
      obtain ⟨r, hr, k⟩ := ih (t + 1) (o' ++ [⟨x.f0, x.f1 + (gd L t).f1⟩]) (by omega) (by omega) (by simp; omega)
       (by
        rw [List.pairwise_append]
        exact ⟨hinc'.1, List.pairwise_singleton _ _, fun y hy z hz => by rw [List.mem_singleton.1 hz]; exact hinc'.2.2 y hy x (by simp)⟩)
       (fun b => by
        have h1 := hcf b
        rw [ho, cf_append, cf_single] at h1
        rw [cf_append, cf_single, htake, ← h1]
        show _ + (if x.f0 = b then x.f1 + (gd L t).f1 else 0) = _
        rw [hKx]
        split <;> omega)
       (fun y hy => by
        rcases List.mem_append.1 hy with hy | hy
        ·have := hb y (by rw [ho]; simp [hy])
         omega
        ·rw [List.mem_singleton.1 hy]
         show _ ≤ x.f1 + (gd L t).f1 ∧ x.f1 + (gd L t).f1 ≤ _
         omega)
       (fun y hy => by
        rcases List.mem_append.1 hy with hy | hy
        ·obtain ⟨p, h1, h2⟩ := hk y (by rw [ho]; simp [hy])
         exact ⟨p, by omega, h2⟩
        ·rw [List.mem_singleton.1 hy]
         exact ⟨t, by omega, hKx⟩)
       (fun _ => ⟨o', _, rfl, hKx⟩)
      refine ⟨r, evp he ?_, k⟩
      rw [hw]
      refine evp (by omega) (evp (by omega) ?_)
      rw [rd_gd, hgx, hw2, Int.toNat_natCast, hset]
      exact hr
     ·obtain ⟨r, hr, k⟩ := hnew (by
       intro y hy
       rw [ho] at hy hinc
       have hlt : K L (t - 1) < (gd L t).f0 := by
        unfold K at hKt
        unfold K
        omega
       rcases List.mem_append.1 hy with hy | hy
       ·have := (List.pairwise_append.1 hinc).2.2 y hy x (by simp)
        omega
       ·rw [List.mem_singleton.1 hy]
        omega)
      exact ⟨r, evn he (evp (by omega) hr), k⟩
    obtain ⟨r, hr, k⟩ := key
    refine ⟨r, ?_, k⟩
    refine Ev.step (fun k => by rw [fact_gather.l0]) ?_
    refine evp (by omega) (evp (by omega) (evp (by omega) (evp (by omega) ?_)))
    rw [show wrap64 ((t : Int) - 1) = ((t - 1 : Nat) : Int) from by rw [w64] <;> omega]
    refine evp (by omega) (evp (by omega) ?_)
    rw [rd_gd, rd_gd, show wrap64 ((t : Int) + 1) = ((t + 1 : Nat) : Int) from by rw [w64] <;> omega]
    exact hr
theorem gathers (l : List S44) (hl : l.length ≤ 1024) (hB : Bd l) (hS : Sm l) :
   ∃ r, Ev (fun k => fact_gather.f k l) r ∧ Canon r (cf l) ∧ Bd r ∧ r.length ≤ l.length ∧ (∀ x ∈ r, -1073741824 ≤ x.f1 ∧ x.f1 ≤ 1073741824) := by
  obtain ⟨s, hs, h1, h2⟩ := sort_terms l (by omega) hB
  have hsl := h1.length_eq
  obtain ⟨r, hr, k1, k2, k3, k4⟩ := ga_l0 s (by omega) (by rw [hsl]; exact h2) (fun t ht => hS t (h1.mem_iff.1 ht)) _ 0 [] rfl (Nat.zero_le _) (Nat.zero_le _) List.Pairwise.nil (fun b => rfl) (by simp) (by simp) (fun h => absurd h (by decide))
  refine ⟨r, ?_, ⟨k1.inc, k1.nz, fun b => (k1.sums b).trans (cf_perm h1 b)⟩, Bd.of_mem fun t ht => ?_, by omega, k4⟩
  ·unfold fact_gather.f api_Term_50.f
   rw [if_pos (by omega)]
   refine evs (evb hs ?_)
   rw [← hsl]
   exact hr
  ·obtain ⟨p, hp, e⟩ := k2 t ht
   rw [e]
   exact (hB.perm h1) p
end Go.Proofs.Ytikpfbfeoifmkaa.Z
end
section
namespace Go.Proofs.Ytikpfbfeoifmkaa.X
open Go.RowKit Go.Proofs.YtikpfbfeoifmkaaW.PrintWords Go.Proofs.YtikpfbfeoifmkaaW.PrintLast Go.Proofs.YtikpfbfeoifmkaaW.PrintMore
attribute [local go_sem] max2_int min2_int max_two min_two max_three min_three max_four min_four
set_option linter.unusedVariables false
set_option linter.unusedSimpArgs false
def timeboundref11_in.f (a0 : Int) : Option (Bool) := if a0 ≥ (-1048576) then (some (decide (a0 ≤ 1048576))) else (some false)
mutual
def timeboundref11_Of.l0 : Nat → List (S44) → Int → List Int → Int → Option ((List (S44)) × Int × Int)
  | 0, _, _, _, _ => none
  | k + 1, x0, x1, x6, x7 => if x7 < (x0.length : Int) then (if 0 ≤ x7 then (if ((rd_T44 x0 x7).f0) < 0 then (some (([] : List (S44)), 0, 3)) else (if ((rd_T44 x0 x7).f0) > 255 then (some (([] : List (S44)), 0, 3)) else ((timeboundref11_in.f ((rd_T44 x0 x7).f1)).bind fun t109 => (if t109 = true then (if 0 ≤ ((rd_T44 x0 x7).f0) then (if ((rd_T44 x0 x7).f0) < (x6.length : Int) then (timeboundref11_Of.l0 k x0 x1 (x6.set (((rd_T44 x0 x7).f0) : Int).toNat (wrap64 ((rd x6 ((rd_T44 x0 x7).f0)) + ((rd_T44 x0 x7).f1)))) (wrap64 (x7 + 1))) else (none)) else (none)) else (some (([] : List (S44)), 0, 3)))))) else (none)) else (timeboundref11_Of.l1 k x6 true 0 ([] : List (S44)) x1)
def timeboundref11_Of.l1 : Nat → List Int → Bool → Int → List (S44) → Int → Option ((List (S44)) × Int × Int)
  | 0, _, _, _, _, _ => none
  | k + 1, x6, x9, x10, x116000, x116001 => if x10 < 256 then (if 0 ≤ x10 then (if x10 < (x6.length : Int) then (if (rd x6 x10) = 0 then (timeboundref11_Of.l1 k x6 x9 (wrap64 (x10 + 1)) x116000 x116001) else (if x116000.length < 8796093022208 then ((some (x116000 ++ [(⟨x10, rd x6 x10⟩ : S44)] : List (S44))).bind fun y118 => (if x9 = true then ((timeboundref11_in.f (rd x6 x10)).bind fun t122 => (timeboundref11_Of.l1 k x6 t122 (wrap64 (x10 + 1)) y118 x116001)) else (timeboundref11_Of.l1 k x6 false (wrap64 (x10 + 1)) y118 x116001))) else (none))) else (none)) else (none)) else (if (x116000.length : Int) > 64 then (some (([] : List (S44)), 0, 4)) else (if x9 = true then (some (x116000, x116001, 0)) else (some (([] : List (S44)), 0, 3))))
end
def timeboundref11_Of.f (k : Nat) (l0 : List (S44)) (a1 : Int) : Option ((List (S44)) × Int × Int) := if (l0.length : Int) > 1024 then (some (([] : List (S44)), 0, 4)) else ((timeboundref11_in.f a1).bind fun t102 => (if t102 = true then (if 256 ≤ 35184372088832 then (timeboundref11_Of.l0 k l0 a1 (List.replicate 256 0) 0) else (none)) else (some (([] : List (S44)), 0, 3))))
end Go.Proofs.Ytikpfbfeoifmkaa.X
end
section
namespace Go.Proofs.Ytikpfbfeoifmkaa.Z
open Go.RowKit Go.Proofs.Ytikpfbfeoifmkaa.X Go.Proofs.YtikpfbfeoifmkaaW.PrintWords Go.Proofs.YtikpfbfeoifmkaaW.PrintLast
set_option linter.unusedVariables false
set_option linter.unusedSimpArgs false
def blk (x : Int) : Bool := decide (0 ≤ x) && decide (x ≤ 255)
def sml (x : Int) : Bool := decide (-1048576 ≤ x) && decide (x ≤ 1048576)
theorem blk_iff {x : Int} : blk x = true ↔ 0 ≤ x ∧ x ≤ 255 := by simp [blk]
theorem sml_iff {x : Int} : sml x = true ↔ -1048576 ≤ x ∧ x ≤ 1048576 := by simp [sml]
theorem block_f (x : Int) : fact_block.f x = some (blk x) := by
  unfold fact_block.f blk
  by_cases h : 0 ≤ x
  ·rw [if_pos h]
   congr 1
   rw [decide_eq_true h, Bool.true_and]
   exact decide_eq_decide.2 (by omega)
  ·rw [if_neg h, decide_eq_false h, Bool.false_and]
theorem small_f (x : Int) : fact_small.f x = some (sml x) := by
  unfold fact_small.f sml
  by_cases h : -1048576 ≤ x
  ·rw [if_pos h, decide_eq_true h, Bool.true_and]
  ·rw [if_neg h, decide_eq_false h, Bool.false_and]
theorem find_loop {α : Type} (F : Nat → List α → Int → Int → Option Int) (G : Nat → List α → Int → Option Bool) (p : Nat → Bool) (x : List α) (hx : x.length < 1152921504606846976)
   (step : ∀ k (i : Int), F (k + 1) x x.length i = if i < (x.length : Int) then (if 0 ≤ i then (if i < (x.length : Int) then ((G k x i).bind fun t => (if t = true then (some i) else (F k x x.length (wrap64 (i + 1))))) else (none)) else (none)) else (some (-1)))
   (hG : ∀ i : Nat, i < x.length → Ev (fun k => G k x i) (p i)) (d : Nat) : ∀ i : Nat, x.length - i = d → i ≤ x.length → (∀ q, q < i → p q = false) →
   ∃ r : Int, Ev (fun k => F k x x.length i) r ∧ ((r = -1 ∧ ∀ q, q < x.length → p q = false) ∨ (0 ≤ r ∧ ∃ q, q < x.length ∧ p q = true)) := by
  induction d with
  | zero =>
   intro i hd hi h
   exact ⟨-1, Ev.step (fun k => step k i) (evn (by omega) (evr _)), Or.inl ⟨rfl, fun q hq => h q (by omega)⟩⟩
  | succ d ih =>
   intro i hd hi h
   cases hp : p i with
   | true =>
    refine ⟨i, Ev.step (fun k => step k i) (evp (by omega) (evp (by omega) (evp (by omega) ?_))), Or.inr ⟨by omega, i, by omega, hp⟩⟩
    have := hG i (by omega)
    rw [hp] at this
    exact evb this (evp rfl (evr _))
   | false =>
    obtain ⟨r, hr, k⟩ := ih (i + 1) (by omega) (by omega) (fun q hq => by
     by_cases e : q = i
     ·rw [e]; exact hp
     ·exact h q (by omega))
    refine ⟨r, Ev.step (fun k => step k i) (evp (by omega) (evp (by omega) (evp (by omega) ?_))), k⟩
    have := hG i (by omega)
    rw [hp] at this
    refine evb this (evn (by simp) ?_)
    rw [show wrap64 ((i : Int) + 1) = ((i + 1 : Nat) : Int) from by rw [w64] <;> omega]
    exact hr
theorem has_loop {α : Type} (F : Nat → List α → Int → Int → Option Int) (G : Nat → List α → Int → Option Bool) (p : Nat → Bool) (x : List α) (hx : x.length < 1152921504606846976)
   (step : ∀ k (i : Int), F (k + 1) x x.length i = if i < (x.length : Int) then (if 0 ≤ i then (if i < (x.length : Int) then ((G k x i).bind fun t => (if t = true then (some i) else (F k x x.length (wrap64 (i + 1))))) else (none)) else (none)) else (some (-1)))
   (hG : ∀ i : Nat, i < x.length → Ev (fun k => G k x i) (p i)) :
   ∃ b : Bool, Ev (fun k => (F k x x.length 0).bind fun t => some (decide (t ≥ 0))) b ∧ (b = true ↔ ∃ q, q < x.length ∧ p q = true) := by
  obtain ⟨r, hr, k⟩ := find_loop F G p x hx step hG _ 0 rfl (Nat.zero_le _) (fun q hq => by omega)
  refine ⟨decide (r ≥ 0), evb hr (evr _), ?_⟩
  rcases k with ⟨rfl, k⟩ | ⟨h0, k⟩
  ·constructor
   ·intro h; simp at h
   ·rintro ⟨q, h1, h2⟩
    rw [k q h1] at h2
    cases h2
  ·constructor
   ·intro _; exact k
   ·intro _; simpa using h0
def okT (t : S44) : Bool := blk t.f0 && sml t.f1
theorem has33 (l : List S44) (hl : l.length < 1152921504606846976) : ∃ b, Ev (fun k => api_Term_32_at33.f k l) b ∧ (b = true ↔ ¬ ∀ t ∈ l, okT t = true) := by
  obtain ⟨b, hb, k⟩ := has_loop api_Term_49_at33.l0 (fun _ x i => fact_Of_1.f (rd_T44 x i).f0 (rd_T44 x i).f1) (fun i => !okT (gd l i)) l hl (fun k i => by rw [api_Term_49_at33.l0])
   (fun i hi => evc (fun k => by
    rw [rd_gd]
    unfold fact_Of_1.f okT
    rw [block_f, Option.bind_some]
    cases blk (gd l i).f0 with
    | true => rw [if_pos rfl, small_f, Option.bind_some, Bool.true_and]
    | false => rw [if_neg (by simp), Bool.false_and]; rfl) (evr _))
  refine ⟨b, hb, k.trans ⟨?_, ?_⟩⟩
  ·rintro ⟨q, h1, h2⟩ h
   rw [gd_lt h1, h _ (by simp)] at h2
   cases h2
  ·intro h
   refine Classical.byContradiction fun hn => h fun t ht => ?_
   obtain ⟨i, hi, rfl⟩ := List.mem_iff_getElem.1 ht
   cases e : okT l[i] with
   | true => rfl
   | false => exact absurd ⟨i, hi, by rw [gd_lt hi, e]; rfl⟩ hn
theorem has35 (l : List S44) (hl : l.length < 1152921504606846976) : ∃ b, Ev (fun k => api_Term_32_at35.f k l) b ∧ (b = true ↔ ¬ ∀ t ∈ l, sml t.f1 = true) := by
  obtain ⟨b, hb, k⟩ := has_loop api_Term_49_at35.l0 (fun _ x i => fact_Of_2.f (rd_T44 x i).f0 (rd_T44 x i).f1) (fun i => !sml (gd l i).f1) l hl (fun k i => by rw [api_Term_49_at35.l0])
   (fun i hi => evc (fun k => by
    rw [rd_gd]
    unfold fact_Of_2.f
    rw [small_f, Option.bind_some]) (evr _))
  refine ⟨b, hb, k.trans ⟨?_, ?_⟩⟩
  ·rintro ⟨q, h1, h2⟩ h
   rw [gd_lt h1, h _ (by simp)] at h2
   cases h2
  ·intro h
   refine Classical.byContradiction fun hn => h fun t ht => ?_
   obtain ⟨i, hi, rfl⟩ := List.mem_iff_getElem.1 ht
   cases e : sml l[i].f1 with
   | true => rfl
   | false => exact absurd ⟨i, hi, by rw [gd_lt hi, e]; rfl⟩ hn
def Fine (l : List S44) (m : Int) : Prop := sml m = true ∧ ∀ t ∈ l, okT t = true
theorem Fine.bd {l : List S44} {m : Int} (h : Fine l m) : Bd l := Bd.of_mem fun t ht => by
  have := h.2 t ht
  unfold okT at this
  rw [Bool.and_eq_true, blk_iff] at this
  exact this.1
theorem Fine.sm {l : List S44} {m : Int} (h : Fine l m) : Sm l := fun t ht => by
  have := h.2 t ht
  unfold okT at this
  rw [Bool.and_eq_true, sml_iff] at this
  exact this.2
def OfRes (r : List S44) (m : Int) (x : List S44 × Int × Int) : Prop :=
  (64 < r.length ∧ x = ([], 0, 4)) ∨ (r.length ≤ 64 ∧ (∀ t ∈ r, sml t.f1 = true) ∧ x = (r, m, 0)) ∨ (r.length ≤ 64 ∧ (¬ ∀ t ∈ r, sml t.f1 = true) ∧ x = ([], 0, 3))
theorem OfRes.unique {r : List S44} {m : Int} {x y : List S44 × Int × Int} (h : OfRes r m x) (k : OfRes r m y) : x = y := by
  rcases h with ⟨a, rfl⟩ | ⟨a, b, rfl⟩ | ⟨a, b, rfl⟩ <;> rcases k with ⟨c, rfl⟩ | ⟨c, d, rfl⟩ | ⟨c, d, rfl⟩ <;> first | rfl | omega | contradiction
def OfIs (l : List S44) (m : Int) (x : List S44 × Int × Int) : Prop :=
  (1024 < l.length ∧ x = ([], 0, 4)) ∨ (l.length ≤ 1024 ∧ ¬ Fine l m ∧ x = ([], 0, 3)) ∨ (l.length ≤ 1024 ∧ Fine l m ∧ ∃ r, Canon r (cf l) ∧ Bd r ∧ r.length ≤ l.length ∧ OfRes r m x)
theorem OfIs.unique {l : List S44} {m : Int} {x y : List S44 × Int × Int} (h : OfIs l m x) (k : OfIs l m y) : x = y := by
  rcases h with ⟨a, rfl⟩ | ⟨a, b, rfl⟩ | ⟨a, b, r, c1, c2, c4, c3⟩ <;> rcases k with ⟨c, rfl⟩ | ⟨c, d, rfl⟩ | ⟨c, d, r', d1, d2, d4, d3⟩ <;> first | rfl | omega | contradiction | skip
  obtain rfl := c1.unique d1
  exact c3.unique d3
theorem of_fact (l : List S44) (m : Int) (hl : l.length < 1152921504606846976) : ∃ x, Ev (fun k => fact_Of.f k l m) x ∧ OfIs l m x := by
  unfold fact_Of.f
  by_cases h1 : 1024 < l.length
  ·exact ⟨_, evp (by omega) (evr _), Or.inl ⟨h1, rfl⟩⟩
  ·have bad : ¬ Fine l m → ∃ x, Ev (fun k => fact_Of.j0 k l m true) x ∧ OfIs l m x := fun hn =>
    ⟨_, Ev.step (fun k => by rw [fact_Of.j0]) (evp rfl (evr _)), Or.inr (Or.inl ⟨by omega, hn, rfl⟩)⟩
   by_cases h2 : sml m = true
   ·obtain ⟨b, hb, k⟩ := has33 l hl
    by_cases h3 : ∀ t ∈ l, okT t = true
    ·have hb0 : b = false := by
      cases b with
      | true => exact absurd h3 (k.1 rfl)
      | false => rfl
     subst hb0
     have hF : Fine l m := ⟨h2, h3⟩
     obtain ⟨r, hr, k1, k2, k3, k4⟩ := gathers l (by omega) hF.bd hF.sm
     have key : ∃ x, Ev (fun k => if (r.length : Int) > 64 then (some (([] : List (S44)), (0 : Int), (4 : Int))) else ((api_Term_32_at35.f k r).bind fun t112 => (if t112 = true then (some (([] : List (S44)), 0, 3)) else (some (r, m, 0))))) x ∧ OfRes r m x := by
      by_cases h4 : 64 < r.length
      ·exact ⟨_, evp (by omega) (evr _), Or.inl ⟨h4, rfl⟩⟩
      ·obtain ⟨c, hc, kc⟩ := has35 r (by omega)
       cases c with
       | true => exact ⟨_, evn (by omega) (evb hc (evp rfl (evr _))), Or.inr (Or.inr ⟨by omega, kc.1 rfl, rfl⟩)⟩
       | false => exact ⟨_, evn (by omega) (evb hc (evn (by simp) (evr _))), Or.inr (Or.inl ⟨by omega, Classical.byContradiction (fun hn => by have := kc.2 hn; cases this), rfl⟩)⟩
     obtain ⟨x, hx, kx⟩ := key
     refine ⟨x, evn (by omega) ?_, Or.inr (Or.inr ⟨by omega, hF, r, k1, k2, k3, kx⟩)⟩
     refine evc (fun k => by rw [small_f, Option.bind_some, if_pos h2]) (evb hb ?_)
     refine Ev.step (fun k => by rw [fact_Of.j0]) (evn (by simp) (evb hr hx))
    ·have hb0 : b = true := k.2 h3
     subst hb0
     obtain ⟨x, hx, kx⟩ := bad (fun h => h3 h.2)
     exact ⟨x, evn (by omega) (evc (fun k => by rw [small_f, Option.bind_some, if_pos h2]) (evb hb hx)), kx⟩
   ·obtain ⟨x, hx, kx⟩ := bad (fun h => h2 h.1)
    exact ⟨x, evn (by omega) (evc (fun k => by rw [small_f, Option.bind_some, if_neg h2]) hx), kx⟩
end Go.Proofs.Ytikpfbfeoifmkaa.Z
end
section
namespace Go.Proofs.Ytikpfbfeoifmkaa.X
open Go.RowKit Go.Proofs.YtikpfbfeoifmkaaW.PrintWords Go.Proofs.YtikpfbfeoifmkaaW.PrintLast Go.Proofs.YtikpfbfeoifmkaaW.PrintMore
attribute [local go_sem] max2_int min2_int max_two min_two max_three min_three max_four min_four
set_option linter.unusedVariables false
set_option linter.unusedSimpArgs false
mutual
def timeboundref11_Check.l0 : Nat → Int → List (S44) → Int → Option (Int)
  | 0, _, _, _ => none
  | k + 1, x3, x102000, x102001 => if x3 < (x102000.length : Int) then (if 0 ≤ x3 then (if ((rd_T44 x102000 x3).f0) < 0 then (timeboundref11_Check.j1 k x3 true x102000 x102001) else (if ((rd_T44 x102000 x3).f0) > 255 then (timeboundref11_Check.j1 k x3 true x102000 x102001) else (if ((rd_T44 x102000 x3).f1) = 0 then (timeboundref11_Check.j1 k x3 true x102000 x102001) else ((timeboundref11_in.f ((rd_T44 x102000 x3).f1)).bind fun t105 => (if t105 = true then (if x3 > 0 then (if 0 ≤ (wrap64 (x3 - 1)) then (if (wrap64 (x3 - 1)) < (x102000.length : Int) then (timeboundref11_Check.j1 k x3 (decide (((rd_T44 x102000 x3).f0) ≤ ((rd_T44 x102000 (wrap64 (x3 - 1))).f0))) x102000 x102001) else (none)) else (none)) else (timeboundref11_Check.j1 k x3 false x102000 x102001)) else (timeboundref11_Check.j1 k x3 true x102000 x102001)))))) else (none)) else (some 0)
def timeboundref11_Check.j1 : Nat → Int → Bool → List (S44) → Int → Option (Int)
  | 0, _, _, _, _ => none
  | k + 1, x3, x59, x102000, x102001 => if x59 = true then (some 10) else (timeboundref11_Check.l0 k (wrap64 (x3 + 1)) x102000 x102001)
end
def timeboundref11_Check.f (k : Nat) (l0_0 : List (S44)) (a0_1 : Int) : Option (Int) := if (l0_0.length : Int) > 64 then (some 4) else ((timeboundref11_in.f a0_1).bind fun t102 => (if t102 = true then (timeboundref11_Check.l0 k 0 l0_0 a0_1) else (some 10)))
end Go.Proofs.Ytikpfbfeoifmkaa.X
end
section
namespace Go.Proofs.Ytikpfbfeoifmkaa.Z
open Go.RowKit Go.Proofs.Ytikpfbfeoifmkaa.X Go.Proofs.YtikpfbfeoifmkaaW.PrintWords Go.Proofs.YtikpfbfeoifmkaaW.PrintLast
set_option linter.unusedVariables false
set_option linter.unusedSimpArgs false
theorem okT_iff {t : S44} : okT t = true ↔ blk t.f0 = true ∧ sml t.f1 = true := by unfold okT; rw [Bool.and_eq_true]
def Rw (l : List S44) (i : Nat) : Prop := okT (gd l i) = true ∧ (gd l i).f1 ≠ 0 ∧ (0 < i → (gd l (i - 1)).f0 < (gd l i).f0)
def Good (l : List S44) (m : Int) : Prop := sml m = true ∧ ∀ i, i < l.length → Rw l i
def ChkIs (l : List S44) (m : Int) (e : Int) : Prop :=
  (64 < l.length ∧ e = 4) ∨ (l.length ≤ 64 ∧ ¬ Good l m ∧ e = 10) ∨ (l.length ≤ 64 ∧ Good l m ∧ e = 0)
theorem ChkIs.unique {l : List S44} {m x y : Int} (h : ChkIs l m x) (k : ChkIs l m y) : x = y := by
  rcases h with ⟨a, rfl⟩ | ⟨a, b, rfl⟩ | ⟨a, b, rfl⟩ <;> rcases k with ⟨c, rfl⟩ | ⟨c, d, rfl⟩ | ⟨c, d, rfl⟩ <;> first | rfl | omega | contradiction
theorem ChkIs.zero {l : List S44} {m e : Int} (h : ChkIs l m e) (he : e = 0) : l.length ≤ 64 ∧ Good l m := by
  rcases h with ⟨a, rfl⟩ | ⟨a, b, rfl⟩ | ⟨a, b, rfl⟩
  ·cases he
  ·cases he
  ·exact ⟨a, b⟩
theorem Good.fine {l : List S44} {m : Int} (h : Good l m) : Fine l m := ⟨h.1, fun t ht => by
  obtain ⟨i, hi, rfl⟩ := List.mem_iff_getElem.1 ht
  have := (h.2 i hi).1
  rwa [gd_lt hi] at this⟩
theorem Good.nz {l : List S44} {m : Int} (h : Good l m) : ∀ t ∈ l, t.f1 ≠ 0 := fun t ht => by
  obtain ⟨i, hi, rfl⟩ := List.mem_iff_getElem.1 ht
  have := (h.2 i hi).2.1
  rwa [gd_lt hi] at this
theorem Good.mk {l : List S44} {m : Int} (hm : sml m = true) (h1 : l.Pairwise fun x y => x.f0 < y.f0) (h2 : ∀ t ∈ l, t.f1 ≠ 0) (h3 : ∀ t ∈ l, okT t = true) : Good l m := ⟨hm, fun i hi => by
  refine ⟨by rw [gd_lt hi]; exact h3 _ (List.getElem_mem _), by rw [gd_lt hi]; exact h2 _ (List.getElem_mem _), fun h0 => ?_⟩
  rw [gd_lt hi, gd_lt (show i - 1 < l.length by omega)]
  exact List.pairwise_iff_getElem.1 h1 _ _ _ _ (by omega)⟩
theorem chk_bad (l : List S44) (m : Int) (hl : l.length ≤ 64) (i : Nat) (hi : i < l.length) (hn : ¬ Rw l i) :
   Ev (fun k => fact_Check.l0 k l l.length i l m) 10 := by
  have j1 : Ev (fun k => fact_Check.j1 k l l.length i true l m) 10 := Ev.step (fun k => by rw [fact_Check.j1]) (evp rfl (evr _))
  refine Ev.step (fun k => by rw [fact_Check.l0]) ?_
  refine evp (by omega) (evp (by omega) (evp (by omega) ?_))
  rw [rd_gd]
  by_cases h1 : blk (gd l i).f0 = true
  ·refine evc (fun k => by rw [block_f, Option.bind_some, if_pos h1]) ?_
   by_cases h2 : sml (gd l i).f1 = true
   ·refine evc (fun k => by rw [small_f, Option.bind_some, if_pos h2]) ?_
    by_cases h3 : (gd l i).f1 = 0
    ·exact evp h3 j1
    ·refine evn h3 ?_
     by_cases h4 : 0 < i
     ·have hw : wrap64 ((i : Int) - 1) = ((i - 1 : Nat) : Int) := by rw [w64] <;> omega
      refine evp (by omega) ?_
      rw [hw]
      refine evp (by omega) (evp (by omega) ?_)
      rw [rd_gd, decide_eq_true (Int.not_lt.1 fun h => hn ⟨okT_iff.2 ⟨h1, h2⟩, h3, fun _ => h⟩)]
      exact j1
     ·exact absurd ⟨okT_iff.2 ⟨h1, h2⟩, h3, fun h => absurd h h4⟩ hn
   ·exact evc (fun k => by rw [small_f, Option.bind_some, if_neg h2]) j1
  ·exact evc (fun k => by rw [block_f, Option.bind_some, if_neg h1]) j1
theorem chk_ok (l : List S44) (m : Int) (hl : l.length ≤ 64) (i : Nat) (hi : i < l.length) (h : Rw l i) (e : Int)
   (n : Ev (fun k => fact_Check.l0 k l l.length ((i + 1 : Nat) : Int) l m) e) : Ev (fun k => fact_Check.l0 k l l.length i l m) e := by
  have j1 : Ev (fun k => fact_Check.j1 k l l.length i false l m) e := by
   refine Ev.step (fun k => by rw [fact_Check.j1]) (evn (by simp) ?_)
   rw [show wrap64 ((i : Int) + 1) = ((i + 1 : Nat) : Int) from by rw [w64] <;> omega]
   exact n
  obtain ⟨h1, h3, h4⟩ := h
  rw [okT_iff] at h1
  refine Ev.step (fun k => by rw [fact_Check.l0]) ?_
  refine evp (by omega) (evp (by omega) (evp (by omega) ?_))
  rw [rd_gd]
  refine evc (fun k => by rw [block_f, Option.bind_some, if_pos h1.1, small_f, Option.bind_some, if_pos h1.2]) (evn h3 ?_)
  by_cases h5 : 0 < i
  ·have hw : wrap64 ((i : Int) - 1) = ((i - 1 : Nat) : Int) := by rw [w64] <;> omega
   refine evp (by omega) ?_
   rw [hw]
   refine evp (by omega) (evp (by omega) ?_)
   rw [rd_gd, decide_eq_false (Int.not_le.2 (h4 h5))]
   exact j1
  ·exact evn (by omega) j1
theorem chk_l0 (l : List S44) (m : Int) (hl : l.length ≤ 64) (d : Nat) : ∀ i : Nat, l.length - i = d → i ≤ l.length → (∀ p, p < i → Rw l p) →
   ∃ e, Ev (fun k => fact_Check.l0 k l l.length i l m) e ∧ ChkIs l m e := by
  induction d with
  | zero =>
   intro i hd hi h
   by_cases hm : sml m = true
   ·refine ⟨0, Ev.step (fun k => by rw [fact_Check.l0]) (evn (by omega) (evc (fun k => by rw [small_f, Option.bind_some, if_pos hm]) (evr _))), Or.inr (Or.inr ⟨hl, ⟨hm, fun p hp => h p (by omega)⟩, rfl⟩)⟩
   ·exact ⟨10, Ev.step (fun k => by rw [fact_Check.l0]) (evn (by omega) (evc (fun k => by rw [small_f, Option.bind_some, if_neg hm]) (evr _))), Or.inr (Or.inl ⟨hl, fun g => hm g.1, rfl⟩)⟩
  | succ d ih =>
   intro i hd hi h
   by_cases hr : Rw l i
   ·obtain ⟨e, he, k⟩ := ih (i + 1) (by omega) (by omega) (fun p hp => by
     by_cases e : p = i
     ·rw [e]; exact hr
     ·exact h p (by omega))
    exact ⟨e, chk_ok l m hl i (by omega) hr e he, k⟩
   ·exact ⟨10, chk_bad l m hl i (by omega) hr, Or.inr (Or.inl ⟨hl, fun g => hr (g.2 i (by omega)), rfl⟩)⟩
theorem check_fact (l : List S44) (m : Int) : ∃ e, Ev (fun k => fact_Check.f k l m) e ∧ ChkIs l m e := by
  unfold fact_Check.f
  by_cases h : 64 < l.length
  ·exact ⟨4, evp (by omega) (evr _), Or.inl ⟨h, rfl⟩⟩
  ·obtain ⟨e, he, k⟩ := chk_l0 l m (by omega) _ 0 rfl (by omega) (fun p hp => by omega)
   exact ⟨e, evn (by omega) he, k⟩
theorem same_l0 (l : List S44) (m : Int) (hl : l.length < 1152921504606846976) (d : Nat) : ∀ i : Nat, l.length - i = d → i ≤ l.length →
   Ev (fun k => timeboundref11_Same.l0 k i l m l m) true := by
  induction d with
  | zero =>
   intro i hd hi
   exact Ev.step (fun k => by rw [timeboundref11_Same.l0]) (evn (by omega) (evr _))
  | succ d ih =>
   intro i hd hi
   have := ih (i + 1) (by omega) (by omega)
   refine Ev.step (fun k => by rw [timeboundref11_Same.l0]) ?_
   refine evp (by omega) (evp (by omega) (evp (by omega) (evn (by simp) ?_)))
   rw [show wrap64 ((i : Int) + 1) = ((i + 1 : Nat) : Int) from by rw [w64] <;> omega]
   exact this
theorem same_refl (l : List S44) (m : Int) (hl : l.length < 1152921504606846976) : Ev (fun k => timeboundref11_Same.f k l m l m) true := by
  have h : Ev (fun k => timeboundref11_Same.l0 k 0 l m l m) true := same_l0 l m hl _ 0 rfl (by omega)
  unfold timeboundref11_Same.f
  refine evp rfl (Ev.step (fun k => by rw [timeboundref11_Same.j0]) ?_)
  exact evn (by simp) h
def Cnt (xs : List Int) : Prop := xs.length ≤ 256 ∧ ∀ x ∈ xs, 0 ≤ x ∧ x ≤ 2147483648
def val (xs : List Int) (b : Int) : Int := if b < xs.length then rd xs b else 0
def SumIs (l : List S44) (m : Int) (xs : List Int) (x : Int × Int) : Prop :=
  (∃ e, ChkIs l m e ∧ e ≠ 0 ∧ x = (0, e)) ∨ (l.length ≤ 64 ∧ Good l m ∧ ¬ Cnt xs ∧ x = (0, 3)) ∨ (l.length ≤ 64 ∧ Good l m ∧ Cnt xs ∧ x = (wsum l (val xs), 0))
theorem SumIs.unique {l : List S44} {m : Int} {xs : List Int} {x y : Int × Int} (h : SumIs l m xs x) (k : SumIs l m xs y) : x = y := by
  have no : l.length ≤ 64 → Good l m → ∀ e, ChkIs l m e → e ≠ 0 → False := fun a b e he h0 => h0 (he.unique (Or.inr (Or.inr ⟨a, b, rfl⟩)))
  rcases h with ⟨e, a, b, rfl⟩ | ⟨a, b, c, rfl⟩ | ⟨a, b, c, rfl⟩ <;> rcases k with ⟨e', a', b', rfl⟩ | ⟨a', b', c', rfl⟩ | ⟨a', b', c', rfl⟩
  ·rw [a.unique a']
  ·exact (no a' b' e a b).elim
  ·exact (no a' b' e a b).elim
  ·exact (no a b e' a' b').elim
  ·rfl
  ·contradiction
  ·exact (no a b e' a' b').elim
  ·contradiction
  ·rfl
def HoldsIs (l : List S44) (m : Int) (xs : List Int) (b : Bool) : Prop := ∃ x, SumIs l m xs x ∧ b = (decide (x.2 = 0) && decide (x.1 ≤ m))
theorem HoldsIs.unique {l : List S44} {m : Int} {xs : List Int} {x y : Bool} (h : HoldsIs l m xs x) (k : HoldsIs l m xs y) : x = y := by
  obtain ⟨a, b, rfl⟩ := h
  obtain ⟨c, d, rfl⟩ := k
  rw [b.unique d]
end Go.Proofs.Ytikpfbfeoifmkaa.Z
end
section
namespace Go.Proofs.Ytikpfbfeoifmkaa.X
open Go.RowKit Go.Proofs.YtikpfbfeoifmkaaW.PrintWords Go.Proofs.YtikpfbfeoifmkaaW.PrintLast Go.Proofs.YtikpfbfeoifmkaaW.PrintMore
attribute [local go_sem] max2_int min2_int max_two min_two max_three min_three max_four min_four
set_option linter.unusedVariables false
set_option linter.unusedSimpArgs false
mutual
def fact_Points.j0 : Nat → List (List Int) → List (List Int) → Bool → Option ((List (List Int)) × Int)
  | 0, _, _, _ => none
  | k + 1, x0, x1, x20 => if x20 = true then (some (([] : List (List Int)), 10)) else (fact_Points.l0 k x1 false ([] : List (List Int)) x0 (x0.length : Int) 0)
def fact_Points.l0 : Nat → List (List Int) → Bool → List (List Int) → List (List Int) → Int → Int → Option ((List (List Int)) × Int)
  | 0, _, _, _, _, _, _ => none
  | k + 1, x1, x6, x7, x21, x22, x23 => if x23 < x22 then (if 0 ≤ x23 then (if x23 < (x21.length : Int) then (fact_Points.l1 k x1 x6 x7 ([] : List Int) x21 x22 x23 (rd_L2 x21 x23) ((rd_L2 x21 x23).length : Int) 0) else (none)) else (none)) else (if x6 = true then (some (([] : List (List Int)), 4)) else (some (x7, 0)))
def fact_Points.l1 : Nat → List (List Int) → Bool → List (List Int) → List Int → List (List Int) → Int → Int → List Int → Int → Int → Option ((List (List Int)) × Int)
  | 0, _, _, _, _, _, _, _, _, _, _ => none
  | k + 1, x1, x6, x7, x10, x21, x22, x23, x27, x28, x29 => if x29 < x28 then (if 0 ≤ x29 then (if x29 < (x27.length : Int) then (if (rd x27 x29) ≥ (x1.length : Int) then (some (([] : List (List Int)), 11)) else (if 0 ≤ (rd x27 x29) then (if (rd x27 x29) < (x1.length : Int) then (if x10.length + (rd_L2 x1 (rd x27 x29)).length < 17592186044416 then (fact_Points.l1 k x1 x6 x7 (x10 ++ (rd_L2 x1 (rd x27 x29))) x21 x22 x23 x27 x28 (wrap64 (x29 + 1))) else (none)) else (none)) else (none))) else (none)) else (none)) else (if x6 = true then (if x7.length < 5864062014805 then (fact_Points.l0 k x1 true (x7 ++ [x10]) x21 x22 (wrap64 (x23 + 1))) else (none)) else (if x7.length < 5864062014805 then (fact_Points.l0 k x1 (decide ((x10.length : Int) > 256)) (x7 ++ [x10]) x21 x22 (wrap64 (x23 + 1))) else (none)))
end
def fact_Points.f (k : Nat) (l0 : List (List Int)) (l1 : List (List Int)) : Option ((List (List Int)) × Int) := (fact_mapped.f k l0).bind fun t101 => (if t101 = true then ((fact_mapped.f k l1).bind fun t102 => (fact_Points.j0 k l0 l1 (!t102))) else (fact_Points.j0 k l0 l1 true))
end Go.Proofs.Ytikpfbfeoifmkaa.X
end
section
namespace Go.Proofs.Ytikpfbfeoifmkaa.Z
open Go.RowKit Go.Proofs.Ytikpfbfeoifmkaa.X Go.Proofs.YtikpfbfeoifmkaaW.PrintWords Go.Proofs.YtikpfbfeoifmkaaW.PrintLast
set_option linter.unusedVariables false
set_option linter.unusedSimpArgs false
def rowOk (r : List Int) : Bool := decide (r.length ≤ 256) && r.all blk
theorem rowOk_iff {r : List Int} : rowOk r = true ↔ r.length ≤ 256 ∧ ∀ x ∈ r, blk x = true := by simp [rowOk]
def MapOk (mp : List (List Int)) : Prop := mp.length ≤ 256 ∧ ∀ r ∈ mp, rowOk r = true
def put (c : Int) (r : List Int) : List S44 := r.map fun b => ⟨b, c⟩
def flat (l : List S44) (mp : List (List Int)) : List S44 := l.flatMap fun t => put t.f1 (rd_L2 mp t.f0)
def MapIs (l : List S44) (m : Int) (mp : List (List Int)) (x : List S44 × Int × Int) : Prop :=
  (∃ e, ChkIs l m e ∧ e ≠ 0 ∧ x = ([], 0, e)) ∨ (l.length ≤ 64 ∧ Good l m ∧ ¬ MapOk mp ∧ x = ([], 0, 10)) ∨
  (l.length ≤ 64 ∧ Good l m ∧ MapOk mp ∧ (∃ t ∈ l, (mp.length : Int) ≤ t.f0) ∧ x = ([], 0, 11)) ∨
  (l.length ≤ 64 ∧ Good l m ∧ MapOk mp ∧ (∀ t ∈ l, t.f0 < (mp.length : Int)) ∧ OfIs (flat l mp) m x)
theorem MapIs.unique {l : List S44} {m : Int} {mp : List (List Int)} {x y : List S44 × Int × Int} (h : MapIs l m mp x) (k : MapIs l m mp y) : x = y := by
  have no : l.length ≤ 64 → Good l m → ∀ e, ChkIs l m e → e ≠ 0 → False := fun a b e he h0 => h0 (he.unique (Or.inr (Or.inr ⟨a, b, rfl⟩)))
  have no2 : (∃ t ∈ l, (mp.length : Int) ≤ t.f0) → (∀ t ∈ l, t.f0 < (mp.length : Int)) → False := fun ⟨t, ht, h1⟩ h2 => by have := h2 t ht; omega
  rcases h with ⟨e, a, b, rfl⟩ | ⟨a, b, c, rfl⟩ | ⟨a, b, c, d, rfl⟩ | ⟨a, b, c, d, f⟩ <;> rcases k with ⟨e', a', b', rfl⟩ | ⟨a', b', c', rfl⟩ | ⟨a', b', c', d', rfl⟩ | ⟨a', b', c', d', f'⟩ <;>
   first | rfl | contradiction | exact (no a' b' e a b).elim | exact (no a b e' a' b').elim | exact (no2 d d').elim | exact (no2 d' d).elim | exact f.unique f' | (rw [a.unique a'])
def through (r : List Int) (m2 : List (List Int)) : List Int := r.flatMap fun x => rd_L2 m2 x
def pts (m1 m2 : List (List Int)) : List (List Int) := m1.map fun r => through r m2
def big (m : List (List Int)) : Bool := m.any fun r => decide (256 < r.length)
def Past (m1 m2 : List (List Int)) : Prop := ∃ r ∈ m1, ∃ x ∈ r, (m2.length : Int) ≤ x
def PtsIs (m1 m2 : List (List Int)) (x : List (List Int) × Int) : Prop :=
  (¬ (MapOk m1 ∧ MapOk m2) ∧ x = ([], 10)) ∨ (MapOk m1 ∧ MapOk m2 ∧ Past m1 m2 ∧ x = ([], 11)) ∨
  (MapOk m1 ∧ MapOk m2 ∧ ¬ Past m1 m2 ∧ big (pts m1 m2) = true ∧ x = ([], 4)) ∨ (MapOk m1 ∧ MapOk m2 ∧ ¬ Past m1 m2 ∧ big (pts m1 m2) = false ∧ x = (pts m1 m2, 0))
theorem PtsIs.unique {m1 m2 : List (List Int)} {x y : List (List Int) × Int} (h : PtsIs m1 m2 x) (k : PtsIs m1 m2 y) : x = y := by
  rcases h with ⟨a, rfl⟩ | ⟨a, b, c, rfl⟩ | ⟨a, b, c, d, rfl⟩ | ⟨a, b, c, d, rfl⟩ <;> rcases k with ⟨a', rfl⟩ | ⟨a', b', c', rfl⟩ | ⟨a', b', c', d', rfl⟩ | ⟨a', b', c', d', rfl⟩ <;>
   first | rfl | contradiction | exact absurd ⟨a, b⟩ a' | exact absurd ⟨a', b'⟩ a | (rw [d] at d'; cases d')
end Go.Proofs.Ytikpfbfeoifmkaa.Z
end
section
namespace Go.Proofs.Ytikpfbfeoifmkaa.X
open Go.RowKit Go.Proofs.YtikpfbfeoifmkaaW.PrintWords Go.Proofs.YtikpfbfeoifmkaaW.PrintLast Go.Proofs.YtikpfbfeoifmkaaW.PrintMore
attribute [local go_sem] max2_int min2_int max_two min_two max_three min_three max_four min_four
set_option linter.unusedVariables false
set_option linter.unusedSimpArgs false
def fact_times.l0 : Nat → Int → List (S44) → List (S44) → Int → Int → Option ((List (S44)))
  | 0, _, _, _, _, _ => none
  | k + 1, x1, x5, x9, x10, x11 => if x11 < x10 then (if 0 ≤ x11 then (if x11 < (x9.length : Int) then (if x5.length < 8796093022208 then (fact_times.l0 k x1 (x5 ++ [(⟨(rd_T44 x9 x11).f0, wrap64 (((rd_T44 x9 x11).f1) * x1)⟩ : S44)]) x9 x10 (wrap64 (x11 + 1))) else (none)) else (none)) else (none)) else (some x5)
def fact_times.f (k : Nat) (l0_0 : List (S44)) (a0_1 : Int) (a1 : Int) : Option ((List (S44))) := fact_times.l0 k a1 ([] : List (S44)) l0_0 (l0_0.length : Int) 0
end Go.Proofs.Ytikpfbfeoifmkaa.X
end
