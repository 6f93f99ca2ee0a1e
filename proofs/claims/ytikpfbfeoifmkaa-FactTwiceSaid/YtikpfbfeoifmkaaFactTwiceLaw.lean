/- The law FactTwice (to map twice is to map by the points of both maps) tells true for every input, in every world, as the given statement FactTwiceSaid says. Conditions: those of the given statement and no others. -/
import Derived.Test.YtikpfbfeoifmkaaFactTwicePart4
import Derived.SizedLaws
import Derived.ChangeSlices
import Derived.Test.YtikpfbfeoifmkaaRows
import Derived.WalkKit
import Derived.ProofKit
import Derived.OpenShut
import Derived.ShutString
import Derived.ChangeOld
import Derived.Below
section
namespace Go.Proofs.Ytikpfbfeoifmkaa.X
open Go.RowKit Go.Proofs.YtikpfbfeoifmkaaW.PrintWords Go.Proofs.YtikpfbfeoifmkaaW.PrintLast Go.Proofs.YtikpfbfeoifmkaaW.PrintMore
attribute [local go_sem] max2_int min2_int max_two min_two max_three min_three max_four min_four
set_option linter.unusedVariables false
set_option linter.unusedSimpArgs false
def timeboundlaw11_FactTwice.j0 : Nat → Bool → Option (Bool)
  | 0, _ => none
  | k + 1, x2 => some x2
def timeboundlaw11_FactTwice.f (k : Nat) (l0 : List Int) : Option (Bool) := (timeboundmake_Few.f l0).bind fun t101 => (if t101 = true then ((timeboundmake_New.f l0).bind fun bt103 => ((timeboundmake_Deck_Next.f bt103.1 bt103.2 6).bind fun bt106 => ((timeboundlaw11_some.f k bt103.1 bt106.2 (wrap64 (1 + bt106.1))).bind fun bt108 => ((timeboundlaw11_maps.f k bt103.1 bt108.2.2 (wrap64 (1 + bt106.1))).bind fun bt113 => ((timeboundlaw11_maps.f k bt103.1 bt113.2 30).bind fun bt118 => ((fact_Map.f k bt108.1 bt108.2.1 bt113.1).bind fun bt122 => ((fact_Map.f k bt122.1 bt122.2.1 bt118.1).bind fun bt128 => ((fact_Points.f k bt113.1 bt118.1).bind fun bt133 => ((fact_Map.f k bt108.1 bt108.2.1 bt133.1).bind fun bt137 => (if bt122.2.2 = 0 then (if bt128.2.2 = 0 then (if bt133.2 = 0 then (if bt137.2.2 = 0 then ((timeboundref11_Same.f k bt128.1 bt128.2.1 bt137.1 bt137.2.1).bind fun t143 => (if t143 = true then ((timeboundlaw11_awake.f k).bind fun t144 => (timeboundlaw11_FactTwice.j0 k t144)) else (timeboundlaw11_FactTwice.j0 k false))) else (timeboundlaw11_FactTwice.j0 k false)) else (timeboundlaw11_FactTwice.j0 k false)) else (timeboundlaw11_FactTwice.j0 k false)) else (timeboundlaw11_FactTwice.j0 k false))))))))))) else ((timeboundlaw11_awake.f k).bind fun t102 => (some t102)))
set_option maxHeartbeats 8000000 in
set_option maxRecDepth 100000 in
theorem timeboundlaw11_FactTwice.calls (k : Nat) (A0 : Option Addr) (c0 : Nat) (l0 : List Int) (r : Bool) (w : World) (hr0 : Kd.C (Kd.int .i64) w A0 l0.length l0) (hc0 : l0.length ≤ c0) (h : timeboundlaw11_FactTwice.f k l0 = some r) :
   Calls Try.prog 6 #[.slice A0 l0.length c0] w fun e w' => e = .returned (.bool r) ∧ Below w.heap.size w w' := by
  have hu30 := Try.underlying30
  have HR0 := Aside0.mk hr0
  have HC0 := Aside0.mk hc0
  clear hr0 hc0
  have HB := Aside0.mk (Below.refl w.heap.size w)
  have H : ((timeboundmake_Few.f l0).bind fun t101 => (if t101 = true then ((timeboundmake_New.f l0).bind fun bt103 => ((timeboundmake_Deck_Next.f bt103.1 bt103.2 6).bind fun bt106 => ((timeboundlaw11_some.f k bt103.1 bt106.2 (wrap64 (1 + bt106.1))).bind fun bt108 => ((timeboundlaw11_maps.f k bt103.1 bt108.2.2 (wrap64 (1 + bt106.1))).bind fun bt113 => ((timeboundlaw11_maps.f k bt103.1 bt113.2 30).bind fun bt118 => ((fact_Map.f k bt108.1 bt108.2.1 bt113.1).bind fun bt122 => ((fact_Map.f k bt122.1 bt122.2.1 bt118.1).bind fun bt128 => ((fact_Points.f k bt113.1 bt118.1).bind fun bt133 => ((fact_Map.f k bt108.1 bt108.2.1 bt133.1).bind fun bt137 => (if bt122.2.2 = 0 then (if bt128.2.2 = 0 then (if bt133.2 = 0 then (if bt137.2.2 = 0 then ((timeboundref11_Same.f k bt128.1 bt128.2.1 bt137.1 bt137.2.1).bind fun t143 => (if t143 = true then ((timeboundlaw11_awake.f k).bind fun t144 => (timeboundlaw11_FactTwice.j0 k t144)) else (timeboundlaw11_FactTwice.j0 k false))) else (timeboundlaw11_FactTwice.j0 k false)) else (timeboundlaw11_FactTwice.j0 k false)) else (timeboundlaw11_FactTwice.j0 k false)) else (timeboundlaw11_FactTwice.j0 k false))))))))))) else ((timeboundlaw11_awake.f k).bind fun t102 => (some t102)))) = some r := h
  clear h
  replace H := Option.bind_eq_some_iff.mp H
  obtain ⟨t101, A20, H⟩ := H
  replace H : (if t101 = true then ((timeboundmake_New.f l0).bind fun bt103 => ((timeboundmake_Deck_Next.f bt103.1 bt103.2 6).bind fun bt106 => ((timeboundlaw11_some.f k bt103.1 bt106.2 (wrap64 (1 + bt106.1))).bind fun bt108 => ((timeboundlaw11_maps.f k bt103.1 bt108.2.2 (wrap64 (1 + bt106.1))).bind fun bt113 => ((timeboundlaw11_maps.f k bt103.1 bt113.2 30).bind fun bt118 => ((fact_Map.f k bt108.1 bt108.2.1 bt113.1).bind fun bt122 => ((fact_Map.f k bt122.1 bt122.2.1 bt118.1).bind fun bt128 => ((fact_Points.f k bt113.1 bt118.1).bind fun bt133 => ((fact_Map.f k bt108.1 bt108.2.1 bt133.1).bind fun bt137 => (if bt122.2.2 = 0 then (if bt128.2.2 = 0 then (if bt133.2 = 0 then (if bt137.2.2 = 0 then ((timeboundref11_Same.f k bt128.1 bt128.2.1 bt137.1 bt137.2.1).bind fun t143 => (if t143 = true then ((timeboundlaw11_awake.f k).bind fun t144 => (timeboundlaw11_FactTwice.j0 k t144)) else (timeboundlaw11_FactTwice.j0 k false))) else (timeboundlaw11_FactTwice.j0 k false)) else (timeboundlaw11_FactTwice.j0 k false)) else (timeboundlaw11_FactTwice.j0 k false)) else (timeboundlaw11_FactTwice.j0 k false))))))))))) else ((timeboundlaw11_awake.f k).bind fun t102 => (some t102))) = some r := H
  have A2 := Aside0.mk A20
  clear A20
  by_cases c3 : t101 = true
  ·subst c3
   have H1 : ((timeboundmake_New.f l0).bind fun bt103 => ((timeboundmake_Deck_Next.f bt103.1 bt103.2 6).bind fun bt106 => ((timeboundlaw11_some.f k bt103.1 bt106.2 (wrap64 (1 + bt106.1))).bind fun bt108 => ((timeboundlaw11_maps.f k bt103.1 bt108.2.2 (wrap64 (1 + bt106.1))).bind fun bt113 => ((timeboundlaw11_maps.f k bt103.1 bt113.2 30).bind fun bt118 => ((fact_Map.f k bt108.1 bt108.2.1 bt113.1).bind fun bt122 => ((fact_Map.f k bt122.1 bt122.2.1 bt118.1).bind fun bt128 => ((fact_Points.f k bt113.1 bt118.1).bind fun bt133 => ((fact_Map.f k bt108.1 bt108.2.1 bt133.1).bind fun bt137 => (if bt122.2.2 = 0 then (if bt128.2.2 = 0 then (if bt133.2 = 0 then (if bt137.2.2 = 0 then ((timeboundref11_Same.f k bt128.1 bt128.2.1 bt137.1 bt137.2.1).bind fun t143 => (if t143 = true then ((timeboundlaw11_awake.f k).bind fun t144 => (timeboundlaw11_FactTwice.j0 k t144)) else (timeboundlaw11_FactTwice.j0 k false))) else (timeboundlaw11_FactTwice.j0 k false)) else (timeboundlaw11_FactTwice.j0 k false)) else (timeboundlaw11_FactTwice.j0 k false)) else (timeboundlaw11_FactTwice.j0 k false))))))))))) = some r := by rw [if_pos rfl] at H; exact H
   clear H
   have H := H1
   clear H1
   replace H := Option.bind_eq_some_iff.mp H
   obtain ⟨⟨t103, t104⟩, A40, H⟩ := H
   replace H : ((timeboundmake_Deck_Next.f t103 t104 6).bind fun bt106 => ((timeboundlaw11_some.f k t103 bt106.2 (wrap64 (1 + bt106.1))).bind fun bt108 => ((timeboundlaw11_maps.f k t103 bt108.2.2 (wrap64 (1 + bt106.1))).bind fun bt113 => ((timeboundlaw11_maps.f k t103 bt113.2 30).bind fun bt118 => ((fact_Map.f k bt108.1 bt108.2.1 bt113.1).bind fun bt122 => ((fact_Map.f k bt122.1 bt122.2.1 bt118.1).bind fun bt128 => ((fact_Points.f k bt113.1 bt118.1).bind fun bt133 => ((fact_Map.f k bt108.1 bt108.2.1 bt133.1).bind fun bt137 => (if bt122.2.2 = 0 then (if bt128.2.2 = 0 then (if bt133.2 = 0 then (if bt137.2.2 = 0 then ((timeboundref11_Same.f k bt128.1 bt128.2.1 bt137.1 bt137.2.1).bind fun t143 => (if t143 = true then ((timeboundlaw11_awake.f k).bind fun t144 => (timeboundlaw11_FactTwice.j0 k t144)) else (timeboundlaw11_FactTwice.j0 k false))) else (timeboundlaw11_FactTwice.j0 k false)) else (timeboundlaw11_FactTwice.j0 k false)) else (timeboundlaw11_FactTwice.j0 k false)) else (timeboundlaw11_FactTwice.j0 k false)))))))))) = some r := H
   have A4 := Aside0.mk A40
   clear A40
   replace H := Option.bind_eq_some_iff.mp H
   obtain ⟨⟨t106, t107⟩, A50, H⟩ := H
   replace H : ((timeboundlaw11_some.f k t103 t107 (wrap64 (1 + t106))).bind fun bt108 => ((timeboundlaw11_maps.f k t103 bt108.2.2 (wrap64 (1 + t106))).bind fun bt113 => ((timeboundlaw11_maps.f k t103 bt113.2 30).bind fun bt118 => ((fact_Map.f k bt108.1 bt108.2.1 bt113.1).bind fun bt122 => ((fact_Map.f k bt122.1 bt122.2.1 bt118.1).bind fun bt128 => ((fact_Points.f k bt113.1 bt118.1).bind fun bt133 => ((fact_Map.f k bt108.1 bt108.2.1 bt133.1).bind fun bt137 => (if bt122.2.2 = 0 then (if bt128.2.2 = 0 then (if bt133.2 = 0 then (if bt137.2.2 = 0 then ((timeboundref11_Same.f k bt128.1 bt128.2.1 bt137.1 bt137.2.1).bind fun t143 => (if t143 = true then ((timeboundlaw11_awake.f k).bind fun t144 => (timeboundlaw11_FactTwice.j0 k t144)) else (timeboundlaw11_FactTwice.j0 k false))) else (timeboundlaw11_FactTwice.j0 k false)) else (timeboundlaw11_FactTwice.j0 k false)) else (timeboundlaw11_FactTwice.j0 k false)) else (timeboundlaw11_FactTwice.j0 k false))))))))) = some r := H
   have A5 := Aside0.mk A50
   clear A50
   replace H := Option.bind_eq_some_iff.mp H
   obtain ⟨⟨t108, t111, t112⟩, A60, H⟩ := H
   replace H : ((timeboundlaw11_maps.f k t103 t112 (wrap64 (1 + t106))).bind fun bt113 => ((timeboundlaw11_maps.f k t103 bt113.2 30).bind fun bt118 => ((fact_Map.f k t108 t111 bt113.1).bind fun bt122 => ((fact_Map.f k bt122.1 bt122.2.1 bt118.1).bind fun bt128 => ((fact_Points.f k bt113.1 bt118.1).bind fun bt133 => ((fact_Map.f k t108 t111 bt133.1).bind fun bt137 => (if bt122.2.2 = 0 then (if bt128.2.2 = 0 then (if bt133.2 = 0 then (if bt137.2.2 = 0 then ((timeboundref11_Same.f k bt128.1 bt128.2.1 bt137.1 bt137.2.1).bind fun t143 => (if t143 = true then ((timeboundlaw11_awake.f k).bind fun t144 => (timeboundlaw11_FactTwice.j0 k t144)) else (timeboundlaw11_FactTwice.j0 k false))) else (timeboundlaw11_FactTwice.j0 k false)) else (timeboundlaw11_FactTwice.j0 k false)) else (timeboundlaw11_FactTwice.j0 k false)) else (timeboundlaw11_FactTwice.j0 k false)))))))) = some r := H
   have A6 := Aside0.mk A60
   clear A60
   replace H := Option.bind_eq_some_iff.mp H
   obtain ⟨⟨t113, t116⟩, A70, H⟩ := H
   replace H : ((timeboundlaw11_maps.f k t103 t116 30).bind fun bt118 => ((fact_Map.f k t108 t111 t113).bind fun bt122 => ((fact_Map.f k bt122.1 bt122.2.1 bt118.1).bind fun bt128 => ((fact_Points.f k t113 bt118.1).bind fun bt133 => ((fact_Map.f k t108 t111 bt133.1).bind fun bt137 => (if bt122.2.2 = 0 then (if bt128.2.2 = 0 then (if bt133.2 = 0 then (if bt137.2.2 = 0 then ((timeboundref11_Same.f k bt128.1 bt128.2.1 bt137.1 bt137.2.1).bind fun t143 => (if t143 = true then ((timeboundlaw11_awake.f k).bind fun t144 => (timeboundlaw11_FactTwice.j0 k t144)) else (timeboundlaw11_FactTwice.j0 k false))) else (timeboundlaw11_FactTwice.j0 k false)) else (timeboundlaw11_FactTwice.j0 k false)) else (timeboundlaw11_FactTwice.j0 k false)) else (timeboundlaw11_FactTwice.j0 k false))))))) = some r := H
   have A7 := Aside0.mk A70
   clear A70
   replace H := Option.bind_eq_some_iff.mp H
   obtain ⟨⟨t118, t121⟩, A80, H⟩ := H
   replace H : ((fact_Map.f k t108 t111 t113).bind fun bt122 => ((fact_Map.f k bt122.1 bt122.2.1 t118).bind fun bt128 => ((fact_Points.f k t113 t118).bind fun bt133 => ((fact_Map.f k t108 t111 bt133.1).bind fun bt137 => (if bt122.2.2 = 0 then (if bt128.2.2 = 0 then (if bt133.2 = 0 then (if bt137.2.2 = 0 then ((timeboundref11_Same.f k bt128.1 bt128.2.1 bt137.1 bt137.2.1).bind fun t143 => (if t143 = true then ((timeboundlaw11_awake.f k).bind fun t144 => (timeboundlaw11_FactTwice.j0 k t144)) else (timeboundlaw11_FactTwice.j0 k false))) else (timeboundlaw11_FactTwice.j0 k false)) else (timeboundlaw11_FactTwice.j0 k false)) else (timeboundlaw11_FactTwice.j0 k false)) else (timeboundlaw11_FactTwice.j0 k false)))))) = some r := H
   have A8 := Aside0.mk A80
   clear A80
   replace H := Option.bind_eq_some_iff.mp H
   obtain ⟨⟨t122, t125, t126⟩, A90, H⟩ := H
   replace H : ((fact_Map.f k t122 t125 t118).bind fun bt128 => ((fact_Points.f k t113 t118).bind fun bt133 => ((fact_Map.f k t108 t111 bt133.1).bind fun bt137 => (if t126 = 0 then (if bt128.2.2 = 0 then (if bt133.2 = 0 then (if bt137.2.2 = 0 then ((timeboundref11_Same.f k bt128.1 bt128.2.1 bt137.1 bt137.2.1).bind fun t143 => (if t143 = true then ((timeboundlaw11_awake.f k).bind fun t144 => (timeboundlaw11_FactTwice.j0 k t144)) else (timeboundlaw11_FactTwice.j0 k false))) else (timeboundlaw11_FactTwice.j0 k false)) else (timeboundlaw11_FactTwice.j0 k false)) else (timeboundlaw11_FactTwice.j0 k false)) else (timeboundlaw11_FactTwice.j0 k false))))) = some r := H
   have A9 := Aside0.mk A90
   clear A90
   replace H := Option.bind_eq_some_iff.mp H
   obtain ⟨⟨t128, t131, t132⟩, A100, H⟩ := H
   replace H : ((fact_Points.f k t113 t118).bind fun bt133 => ((fact_Map.f k t108 t111 bt133.1).bind fun bt137 => (if t126 = 0 then (if t132 = 0 then (if bt133.2 = 0 then (if bt137.2.2 = 0 then ((timeboundref11_Same.f k t128 t131 bt137.1 bt137.2.1).bind fun t143 => (if t143 = true then ((timeboundlaw11_awake.f k).bind fun t144 => (timeboundlaw11_FactTwice.j0 k t144)) else (timeboundlaw11_FactTwice.j0 k false))) else (timeboundlaw11_FactTwice.j0 k false)) else (timeboundlaw11_FactTwice.j0 k false)) else (timeboundlaw11_FactTwice.j0 k false)) else (timeboundlaw11_FactTwice.j0 k false)))) = some r := H
   have A10 := Aside0.mk A100
   clear A100
   replace H := Option.bind_eq_some_iff.mp H
   obtain ⟨⟨t133, t134⟩, A110, H⟩ := H
   replace H : ((fact_Map.f k t108 t111 t133).bind fun bt137 => (if t126 = 0 then (if t132 = 0 then (if t134 = 0 then (if bt137.2.2 = 0 then ((timeboundref11_Same.f k t128 t131 bt137.1 bt137.2.1).bind fun t143 => (if t143 = true then ((timeboundlaw11_awake.f k).bind fun t144 => (timeboundlaw11_FactTwice.j0 k t144)) else (timeboundlaw11_FactTwice.j0 k false))) else (timeboundlaw11_FactTwice.j0 k false)) else (timeboundlaw11_FactTwice.j0 k false)) else (timeboundlaw11_FactTwice.j0 k false)) else (timeboundlaw11_FactTwice.j0 k false))) = some r := H
   have A11 := Aside0.mk A110
   clear A110
   replace H := Option.bind_eq_some_iff.mp H
   obtain ⟨⟨t137, t140, t141⟩, A120, H⟩ := H
   replace H : (if t126 = 0 then (if t132 = 0 then (if t134 = 0 then (if t141 = 0 then ((timeboundref11_Same.f k t128 t131 t137 t140).bind fun t143 => (if t143 = true then ((timeboundlaw11_awake.f k).bind fun t144 => (timeboundlaw11_FactTwice.j0 k t144)) else (timeboundlaw11_FactTwice.j0 k false))) else (timeboundlaw11_FactTwice.j0 k false)) else (timeboundlaw11_FactTwice.j0 k false)) else (timeboundlaw11_FactTwice.j0 k false)) else (timeboundlaw11_FactTwice.j0 k false)) = some r := H
   have A12 := Aside0.mk A120
   clear A120
   have HC13 := Aside0.mk H
   clear H
   go_enter Try.func6, Try.ntmps6
   go_upto_region 11 with (first | ((with_reducible refine gate_callee (f := 8) rfl ?_); refine goesL_ (some 16) rfl rfl Try.func8 (by kernel_rfl) rfl #[.slice A0 l0.length c0] rfl aM ?_; (with_reducible refine (timeboundmake_Few.calls _ _ l0 true _ ?side1 ?side2 A2.out).mono ?_); (case side1 => exact cK HR0.out); (case side2 => exact HC0.out); rintro e w' ⟨rfl, ⟨nd, rfl⟩⟩; refine ⟨_, rfl, ?_⟩) | ((with_reducible refine gate_callee (f := 10) rfl ?_); refine goesL_ (some 20) rfl rfl Try.func10 (by kernel_rfl) rfl #[.slice A0 l0.length c0] rfl aM ?_; (with_reducible refine (timeboundmake_New.calls _ _ l0 t103 t104 w _ ?side1 ?side2 ?side3 A4.out).mono ?_); (case side1 => repeat (first | (with_reducible first | exact HB.out | apply below_alloc | apply pw_below_drewN | apply below_drew1) | exact HB.out)); (case side2 => exact HR0.out); (case side3 => exact HC0.out); rintro e w14 ⟨g105, rfl, hi, hb, hb2⟩; refine ⟨_, rfl, ?_⟩; have n0_ := Aside0.mk (hb); have n1_ := Aside0.mk (hi); clear HB; have HB := n0_; have HI105 := n1_; clear n0_ n1_; (try clear hb); (try clear hb2); (try clear hi)) | ((with_reducible refine gate_callee (f := 11) rfl ?_); refine goesL_ (some 22) rfl rfl Try.func11 (by kernel_rfl) rfl #[.pointer (some ⟨g105, 0, none⟩), .int .i64 6] rfl aM ?_; (with_reducible refine (timeboundmake_Deck_Next.calls g105 t103 t104 6 t106 t107 w _ ?side1 ?side2 A5.out).mono ?_); (case side1 => repeat (first | (with_reducible first | exact HI105.out | apply IsS56.alloc | apply IsS56.drewN | apply IsS56.drew | apply IsS56.set_1) | exact HI105.out)); (case side2 => repeat (first | (with_reducible first | exact HB.out | apply below_alloc | apply pw_below_drewN | apply below_drew1 | refine below_set ?_ (IsS56.ge HI105.out)) | exact HB.out)); rintro e w15 ⟨rfl, hi, hb, hk⟩; refine ⟨_, rfl, ?_⟩; have n0_ := Aside0.mk (hb); have n1_ := Aside0.mk (hi); clear HB HI105; have HB := n0_; have HI105 := n1_; clear n0_ n1_; (try clear hb); (try clear hk); (try clear hi)) | ((with_reducible refine gate_callee (f := 12) rfl ?_); refine goesL_ (some 26) rfl rfl Try.func12 (by kernel_rfl) rfl #[.pointer (some ⟨g105, 0, none⟩), .int .i64 (wrap64 (1 + t106))] rfl aM ?_; (with_reducible refine (timeboundlaw11_some.calls k g105 t103 t107 (wrap64 (1 + t106)) t108 t111 t112 w _ ?side1 ?side2 A6.out).mono ?_); (case side1 => repeat (first | (with_reducible first | exact HI105.out | apply IsS56.alloc | apply IsS56.drewN | apply IsS56.drew | apply IsS56.set_1) | exact HI105.out)); (case side2 => repeat (first | (with_reducible first | exact HB.out | apply below_alloc | apply pw_below_drewN | apply below_drew1 | refine below_set ?_ (IsS56.ge HI105.out)) | exact HB.out)); rintro e w16 ⟨v109, rfl, ho0, hi, hb, hk⟩; refine ⟨_, rfl, ?_⟩; have n0_ := Aside0.mk (Kd.R_lower ho0 (below_size (hB1 HB.out (IsS56.ge HI105.out)))); have n1_ := Aside0.mk (hb); have n2_ := Aside0.mk (hi); clear HB HI105; have HO110 := n0_; have HB := n1_; have HI105 := n2_; clear n0_ n1_ n2_; (try clear hb); (try clear hk); (try clear hi); (try clear ho0)) | ((with_reducible refine gate_callee (f := 13) rfl ?_); refine goesL_ (some 29) rfl rfl Try.func13 (by kernel_rfl) rfl #[.pointer (some ⟨g105, 0, none⟩), .int .i64 (wrap64 (1 + t106))] rfl aM ?_; (with_reducible refine (timeboundlaw11_maps.calls k g105 t103 t112 (wrap64 (1 + t106)) t113 t116 w _ ?side1 ?side2 A7.out).mono ?_); (case side1 => repeat (first | (with_reducible first | exact HI105.out | apply IsS56.alloc | apply IsS56.drewN | apply IsS56.drew | apply IsS56.set_1) | exact HI105.out)); (case side2 => repeat (first | (with_reducible first | exact HB.out | apply below_alloc | apply pw_below_drewN | apply below_drew1 | refine below_set ?_ (IsS56.ge HI105.out)) | exact HB.out)); rintro e w17 ⟨v114, rfl, ho0, hi, hb, hk⟩; refine ⟨_, rfl, ?_⟩; have n0_ := Aside0.mk (Kd.R_mono (Kd.R_keep (IsS56.apart (show IsS56 w _ g105 t103 t112 from IsS56.k0 HI105.out) (rK HO110.out) (by decide)) hk (fun _ h => h.2)) (fun _ h => h.1)); have n1_ := Aside0.mk (Kd.S_lower ho0 (below_size (hB1 HB.out (IsS56.ge HI105.out)))); have n2_ := Aside0.mk (hb); have n3_ := Aside0.mk (hi); clear HO110 HB HI105; have HO110 := n0_; have HO115 := n1_; have HB := n2_; have HI105 := n3_; clear n0_ n1_ n2_ n3_; (try clear hb); (try clear hk); (try clear hi); (try clear ho0)) | ((with_reducible refine gate_dst (N := 5) rfl ?_); refine box_event ?hg (N := 5) ?hd (cs := #[.slice none 0 0, .int .i64 0]) (t := 30) ?hr ?_; (case hd => rfl); (case hg => rfl); (case hr => first | (go_simp; done) | (go_simp; rfl)); intro gb117 hg w18 hbox hb; have n0_ := Aside0.mk (Kd.R_below (rK HO110.out) hb); have n1_ := Aside0.mk (Kd.S_below (sK HO115.out) hb); have n2_ := Aside0.mk (IsS56.below (IsS56.k0 HI105.out) hb); have n3_ := Aside0.mk (below_step (hB1 HB.out (IsS56.ge HI105.out)) hb); have n4_ := Aside0.mk (hbox); have n5_ := Aside0.mk ((by rw [hg]; exact (below_size (hB1 HB.out (IsS56.ge HI105.out))) : w.heap.size ≤ gb117)); have n6_ := Aside0.mk ((by rw [hg]; exact (below_size (hB1 HB.out (IsS56.ge HI105.out))) : w.heap.size ≤ gb117)); have n7_ := Aside0.mk ((by rw [hg]; exact Nat.ne_of_lt (IsS56.lt (show IsS56 w _ g105 t103 t116 from IsS56.k0 HI105.out)) : g105 ≠ gb117)); have n8_ := Aside0.mk ((by rw [hg]; exact Nat.ne_of_gt (IsS56.lt (show IsS56 w _ g105 t103 t116 from IsS56.k0 HI105.out)) : gb117 ≠ g105)); clear HO110 HO115 HI105 HB; have HO110 := n0_; have HO115 := n1_; have HI105 := n2_; have HB := n3_; have BK117 := n4_; have GW117 := n5_; have GE117 := n6_; have NB105_117 := n7_; have NB117_105 := n8_; clear n0_ n1_ n2_ n3_ n4_ n5_ n6_ n7_ n8_; clear hb hbox hg; obtain ⟨Ao19, co19, eo19⟩ := Kd.R_slice HO110.out; subst eo19; have hnb20 := NB117_105.out; have hnc20 := NB105_117.out; have hcz21_0 : w18.cell? ⟨gb117, 0, none⟩ = some (.slice none 0 0) := (blk_cell BK117.out 0).trans rfl; have hcz21_1 : w18.cell? ⟨gb117, 1, none⟩ = some (.int .i64 0) := (blk_cell BK117.out 1).trans rfl; have hfz21_0 := blk_frozen BK117.out 0; have hfz21_1 := blk_frozen BK117.out 1) | ((with_reducible refine gate_callee (f := 13) rfl ?_); refine goesL_ (some 31) rfl rfl Try.func13 (by kernel_rfl) rfl #[.pointer (some ⟨g105, 0, none⟩), .int .i64 30] rfl aM ?_; (with_reducible refine (timeboundlaw11_maps.calls k g105 t103 t116 30 t118 t121 w _ ?side1 ?side2 A8.out).mono ?_); (case side1 => repeat (first | (with_reducible first | exact HI105.out | apply IsS56.alloc | apply IsS56.drewN | apply IsS56.drew | apply IsS56.set_1 | refine IsS56.far ?_ NB105_117.out _) | exact HI105.out)); (case side2 => repeat (first | (with_reducible first | exact HB.out | apply below_alloc | apply pw_below_drewN | apply below_drew1 | refine below_set ?_ (IsS56.ge HI105.out) | refine below_set ?_ GE117.out) | exact HB.out)); rintro e w22 ⟨v119, rfl, ho0, hi, hb, hk⟩; refine ⟨_, rfl, ?_⟩; have n0_ := Aside0.mk (Kd.R_mono (Kd.R_keep (IsS56.apart (show IsS56 w _ g105 t103 t116 from IsS56.k1 HI105.out NB105_117.out) (by (with_reducible repeat (first | apply Kd.R_alloc | apply Kd.R_drewN | apply Kd.R_drew)); exact (Kd.R_mono (Kd.R_far (p := ⟨gb117, 1, none⟩) (Kd.R_far (p := ⟨gb117, 0, none⟩) (Kd.R_types HO110.out BK117.out (by decide)) (fun _ hk => hk.2) (.slice Ao19 t108.length co19)) (fun _ hk => hk.2) (.int .i64 t111)) (fun _ h_ => h_.1))) (by decide)) hk (fun _ h => h.2)) (fun _ h => h.1)); have n1_ := Aside0.mk (Kd.S_mono (Kd.S_told (Kd.S_oldK (IsS56.apartS (show IsS56 w _ g105 t103 t116 from IsS56.k1 HI105.out NB105_117.out) (by (with_reducible repeat (first | apply Kd.S_alloc | apply Kd.S_drewN | apply Kd.S_drew)); exact (Kd.S_mono (Kd.S_far (p := ⟨gb117, 1, none⟩) (Kd.S_far (p := ⟨gb117, 0, none⟩) (Kd.S_types HO115.out BK117.out (by decide)) (fun _ hk => hk.2) (.slice Ao19 t108.length co19)) (fun _ hk => hk.2) (.int .i64 t111)) (fun _ h_ => h_.1))) (by decide)) hk) (Kd.S_base ho0)) (fun _ h_ => h_.1)); have n2_ := Aside0.mk (KeepBut.blk hk (g' := gb117) (o := .cells #[.slice Ao19 t108.length co19, .int .i64 t111] 30 (0, 0)) (by (with_reducible repeat (first | refine blk_drewN ?_ _ | refine blk_drew ?_ | refine blk_alloc ?_ _)); refine blk_put (cs := #[.slice Ao19 t108.length co19, .int .i64 0]) ?_ 1 _ rfl; (with_reducible repeat (first | refine blk_drewN ?_ _ | refine blk_drew ?_ | refine blk_alloc ?_ _)); refine blk_put (cs := #[.slice none 0 0, .int .i64 0]) ?_ 0 _ rfl; (with_reducible repeat (first | refine blk_drewN ?_ _ | refine blk_drew ?_ | refine blk_alloc ?_ _)); exact BK117.out) NB117_105.out (by simp)); have n3_ := Aside0.mk (Kd.S_lower (Kd.S_new' ho0 (Kd.S_lt (by (with_reducible repeat (first | apply Kd.S_alloc | apply Kd.S_drewN | apply Kd.S_drew)); exact (Kd.S_mono (Kd.S_far (p := ⟨gb117, 1, none⟩) (Kd.S_far (p := ⟨gb117, 0, none⟩) (Kd.S_types HO115.out BK117.out (by decide)) (fun _ hk => hk.2) (.slice Ao19 t108.length co19)) (fun _ hk => hk.2) (.int .i64 t111)) (fun _ h_ => h_.1))))) (below_size (hB2 HB.out (IsS56.ge HI105.out) GE117.out))); have n4_ := Aside0.mk (hb); have n5_ := Aside0.mk (hi); clear HO110 HO115 BK117 HB HI105; have HO110 := n0_; have HO115 := n1_; have BK117 := n2_; have HO120 := n3_; have HB := n4_; have HI105 := n5_; clear n0_ n1_ n2_ n3_ n4_ n5_; (try clear hb); (try clear hk); (try clear hi); (try clear ho0); have hcz23_0 : w22.cell? ⟨gb117, 0, none⟩ = some (.slice Ao19 t108.length co19) := (blk_cell BK117.out 0).trans rfl; have hcz23_1 : w22.cell? ⟨gb117, 1, none⟩ = some (.int .i64 t111) := (blk_cell BK117.out 1).trans rfl; have hfz23_0 := blk_frozen BK117.out 0; have hfz23_1 := blk_frozen BK117.out 1; obtain ⟨Ao24, co24, eo24⟩ := Kd.S_slice HO115.out; subst eo24) | ((with_reducible refine gate_callee (f := 15) rfl ?_); refine goesL_ (some 35) rfl rfl Try.func15 (by kernel_rfl) rfl #[.agg #[.slice Ao19 t108.length co19, .int .i64 t111], .slice Ao24 t113.length co24] rfl aM ?_; (with_reducible refine (fact_Map.calls k _ _ t108 t111 _ _ t113 t122 t125 t126 _ ?side1 ?side2 ?side3 ?side4 A9.out).mono ?_); (case side1 => exact cK (Kd.R_reads' HO110.out).2.2); (case side2 => exact (Kd.R_reads' HO110.out).2.1); (case side3 => exact cK (Kd.S_reads' HO115.out).2.2); (case side4 => exact (Kd.S_reads' HO115.out).2.1); rintro e w25 ⟨v123, rfl, ho0, hb⟩; refine ⟨_, rfl, ?_⟩; have n0_ := Aside0.mk (Kd.R_elder' (rK HO110.out) (Kd.R_base ho0) hb); have n1_ := Aside0.mk (Kd.S_below (sK HO115.out) hb); have n2_ := Aside0.mk (Kd.S_below (sK HO120.out) hb); have n3_ := Aside0.mk (Kd.R_lower (Kd.R_new' ho0 (Kd.R_lt (rK HO110.out))) (below_size (hB2 HB.out (IsS56.ge HI105.out) GE117.out))); have n4_ := Aside0.mk (IsS56.below (IsS56.k1 HI105.out NB105_117.out) hb); have n5_ := Aside0.mk (blk_below (g := gb117) (o := .cells #[.slice Ao19 t108.length co19, .int .i64 t111] 30 (0, 0)) (bK BK117.out) hb); have n6_ := Aside0.mk (below_step (hB2 HB.out (IsS56.ge HI105.out) GE117.out) hb); clear HO110 HO115 HO120 HI105 BK117 HB; have HO110 := n0_; have HO115 := n1_; have HO120 := n2_; have HO124 := n3_; have HI105 := n4_; have BK117 := n5_; have HB := n6_; clear n0_ n1_ n2_ n3_ n4_ n5_ n6_; (try clear hb); (try clear ho0)) | ((with_reducible refine gate_dst (N := 8) rfl ?_); refine box_event ?hg (N := 8) ?hd (cs := #[.slice none 0 0, .int .i64 0]) (t := 30) ?hr ?_; (case hd => rfl); (case hg => rfl); (case hr => first | (go_simp; done) | (go_simp; rfl)); intro gb127 hg w26 hbox hb; have n0_ := Aside0.mk (Kd.R_below (rK HO110.out) hb); have n1_ := Aside0.mk (Kd.S_below (sK HO115.out) hb); have n2_ := Aside0.mk (Kd.S_below (sK HO120.out) hb); have n3_ := Aside0.mk (Kd.R_below (rK HO124.out) hb); have n4_ := Aside0.mk (IsS56.below (IsS56.k1 HI105.out NB105_117.out) hb); have n5_ := Aside0.mk (blk_below (g := gb117) (o := .cells #[.slice Ao19 t108.length co19, .int .i64 t111] 30 (0, 0)) (bK BK117.out) hb); have n6_ := Aside0.mk (below_step (hB2 HB.out (IsS56.ge HI105.out) GE117.out) hb); have n7_ := Aside0.mk (hbox); have n8_ := Aside0.mk ((by rw [hg]; exact (below_size (hB2 HB.out (IsS56.ge HI105.out) GE117.out)) : w.heap.size ≤ gb127)); have n9_ := Aside0.mk ((by rw [hg]; exact (below_size (hB2 HB.out (IsS56.ge HI105.out) GE117.out)) : w.heap.size ≤ gb127)); have n10_ := Aside0.mk ((by rw [hg]; exact Nat.ne_of_lt (blk_lt (g := gb117) (o := .cells #[.slice Ao19 t108.length co19, .int .i64 t111] 30 (0, 0)) (bK BK117.out)) : gb117 ≠ gb127)); have n11_ := Aside0.mk ((by rw [hg]; exact Nat.ne_of_gt (blk_lt (g := gb117) (o := .cells #[.slice Ao19 t108.length co19, .int .i64 t111] 30 (0, 0)) (bK BK117.out)) : gb127 ≠ gb117)); have n12_ := Aside0.mk ((by rw [hg]; exact Nat.ne_of_lt (IsS56.lt (show IsS56 w _ g105 t103 t121 from IsS56.k1 HI105.out NB105_117.out)) : g105 ≠ gb127)); have n13_ := Aside0.mk ((by rw [hg]; exact Nat.ne_of_gt (IsS56.lt (show IsS56 w _ g105 t103 t121 from IsS56.k1 HI105.out NB105_117.out)) : gb127 ≠ g105)); clear HO110 HO115 HO120 HO124 HI105 BK117 HB; have HO110 := n0_; have HO115 := n1_; have HO120 := n2_; have HO124 := n3_; have HI105 := n4_; have BK117 := n5_; have HB := n6_; have BK127 := n7_; have GW127 := n8_; have GE127 := n9_; have NB117_127 := n10_; have NB127_117 := n11_; have NB105_127 := n12_; have NB127_105 := n13_; clear n0_ n1_ n2_ n3_ n4_ n5_ n6_ n7_ n8_ n9_ n10_ n11_ n12_ n13_; clear hb hbox hg; obtain ⟨Ao27, co27, eo27⟩ := Kd.R_slice HO124.out; subst eo27; have hnb28 := NB127_117.out; have hnc28 := NB117_127.out; have hnb29 := NB127_105.out; have hnc29 := NB105_127.out; have hcz30_0 : w26.cell? ⟨gb127, 0, none⟩ = some (.slice none 0 0) := (blk_cell BK127.out 0).trans rfl; have hcz30_1 : w26.cell? ⟨gb127, 1, none⟩ = some (.int .i64 0) := (blk_cell BK127.out 1).trans rfl; have hfz30_0 := blk_frozen BK127.out 0; have hfz30_1 := blk_frozen BK127.out 1; obtain ⟨Ao31, co31, eo31⟩ := Kd.S_slice HO120.out; subst eo31) | ((with_reducible refine gate_callee (f := 15) rfl ?_); refine goesL_ (some 41) rfl rfl Try.func15 (by kernel_rfl) rfl #[.agg #[.slice Ao27 t122.length co27, .int .i64 t125], .slice Ao31 t118.length co31] rfl aM ?_; (with_reducible refine (fact_Map.calls k _ _ t122 t125 _ _ t118 t128 t131 t132 _ ?side1 ?side2 ?side3 ?side4 A10.out).mono ?_); (case side1 => refine (Kd.R_reads' (e := 44) (base := w.heap.size) (ok := fun k_ => (True ∧ some k_ ≠ (.slice Ao19 t108.length co19 : Value).ownBlock)) (n := t122.length) (c := co27) ?_).2.2; exact (by (with_reducible repeat (first | apply Kd.R_alloc | apply Kd.R_drewN | apply Kd.R_drew)); exact (Kd.R_mono (Kd.R_far (p := ⟨gb127, 1, none⟩) (Kd.R_far (p := ⟨gb127, 0, none⟩) (Kd.R_types HO124.out BK127.out (by decide)) (fun _ hk => hk.2) (.slice Ao27 t122.length co27)) (fun _ hk => hk.2) (.int .i64 t125)) (fun _ h_ => h_.1)))); (case side2 => exact (Kd.R_reads' HO124.out).2.1); (case side3 => refine (Kd.S_reads' (e := 22) (base := w.heap.size) (ok := fun k_ => (True ∧ some k_ ≠ (.slice Ao24 t113.length co24 : Value).ownBlock)) (n := t118.length) (c := co31) ?_).2.2; exact (by (with_reducible repeat (first | apply Kd.S_alloc | apply Kd.S_drewN | apply Kd.S_drew)); exact (Kd.S_mono (Kd.S_far (p := ⟨gb127, 1, none⟩) (Kd.S_far (p := ⟨gb127, 0, none⟩) (Kd.S_types HO120.out BK127.out (by decide)) (fun _ hk => hk.2) (.slice Ao27 t122.length co27)) (fun _ hk => hk.2) (.int .i64 t125)) (fun _ h_ => h_.1)))); (case side4 => exact (Kd.S_reads' HO120.out).2.1); rintro e w32 ⟨v129, rfl, ho0, hb⟩; refine ⟨_, rfl, ?_⟩; have n0_ := Aside0.mk (Kd.R_elder' (by (with_reducible repeat (first | apply Kd.R_alloc | apply Kd.R_drewN | apply Kd.R_drew)); exact (Kd.R_mono (Kd.R_far (p := ⟨gb127, 1, none⟩) (Kd.R_far (p := ⟨gb127, 0, none⟩) (Kd.R_types HO110.out BK127.out (by decide)) (fun _ hk => hk.2) (.slice Ao27 t122.length co27)) (fun _ hk => hk.2) (.int .i64 t125)) (fun _ h_ => h_.1))) (Kd.R_base ho0) hb); have n1_ := Aside0.mk (Kd.S_below (by (with_reducible repeat (first | apply Kd.S_alloc | apply Kd.S_drewN | apply Kd.S_drew)); exact (Kd.S_mono (Kd.S_far (p := ⟨gb127, 1, none⟩) (Kd.S_far (p := ⟨gb127, 0, none⟩) (Kd.S_types HO115.out BK127.out (by decide)) (fun _ hk => hk.2) (.slice Ao27 t122.length co27)) (fun _ hk => hk.2) (.int .i64 t125)) (fun _ h_ => h_.1))) hb); have n2_ := Aside0.mk (Kd.S_below (by (with_reducible repeat (first | apply Kd.S_alloc | apply Kd.S_drewN | apply Kd.S_drew)); exact (Kd.S_mono (Kd.S_far (p := ⟨gb127, 1, none⟩) (Kd.S_far (p := ⟨gb127, 0, none⟩) (Kd.S_types HO120.out BK127.out (by decide)) (fun _ hk => hk.2) (.slice Ao27 t122.length co27)) (fun _ hk => hk.2) (.int .i64 t125)) (fun _ h_ => h_.1))) hb); have n3_ := Aside0.mk (Kd.R_elder' (by (with_reducible repeat (first | apply Kd.R_alloc | apply Kd.R_drewN | apply Kd.R_drew)); exact (Kd.R_mono (Kd.R_far (p := ⟨gb127, 1, none⟩) (Kd.R_far (p := ⟨gb127, 0, none⟩) (Kd.R_types HO124.out BK127.out (by decide)) (fun _ hk => hk.2) (.slice Ao27 t122.length co27)) (fun _ hk => hk.2) (.int .i64 t125)) (fun _ h_ => h_.1))) (Kd.R_base ho0) hb); have n4_ := Aside0.mk (Kd.R_lower (Kd.R_new' (Kd.R_new' ho0 (Kd.R_lt (by (with_reducible repeat (first | apply Kd.R_alloc | apply Kd.R_drewN | apply Kd.R_drew)); exact (Kd.R_mono (Kd.R_far (p := ⟨gb127, 1, none⟩) (Kd.R_far (p := ⟨gb127, 0, none⟩) (Kd.R_types HO110.out BK127.out (by decide)) (fun _ hk => hk.2) (.slice Ao27 t122.length co27)) (fun _ hk => hk.2) (.int .i64 t125)) (fun _ h_ => h_.1))))) (Kd.R_lt (by (with_reducible repeat (first | apply Kd.R_alloc | apply Kd.R_drewN | apply Kd.R_drew)); exact (Kd.R_mono (Kd.R_far (p := ⟨gb127, 1, none⟩) (Kd.R_far (p := ⟨gb127, 0, none⟩) (Kd.R_types HO124.out BK127.out (by decide)) (fun _ hk => hk.2) (.slice Ao27 t122.length co27)) (fun _ hk => hk.2) (.int .i64 t125)) (fun _ h_ => h_.1))))) (below_size (hB3 HB.out (IsS56.ge HI105.out) GE117.out GE127.out))); have n5_ := Aside0.mk (IsS56.below (show IsS56 w ((w26.setCell ⟨gb127, 0, none⟩ (.slice Ao27 t122.length co27)).setCell ⟨gb127, 1, none⟩ (.int .i64 t125)) g105 t103 t121 from IsS56.k2 HI105.out NB105_117.out NB105_127.out) hb); have n6_ := Aside0.mk (blk_below (g := gb117) (o := .cells #[.slice Ao19 t108.length co19, .int .i64 t111] 30 (0, 0)) (by (with_reducible repeat (first | refine blk_drewN ?_ _ | refine blk_drew ?_ | refine blk_alloc ?_ _)); refine blk_far ?_ NB117_127.out _; (with_reducible repeat (first | refine blk_drewN ?_ _ | refine blk_drew ?_ | refine blk_alloc ?_ _)); refine blk_far ?_ NB117_127.out _; (with_reducible repeat (first | refine blk_drewN ?_ _ | refine blk_drew ?_ | refine blk_alloc ?_ _)); exact BK117.out) hb); have n7_ := Aside0.mk (blk_below (g := gb127) (o := .cells #[.slice Ao27 t122.length co27, .int .i64 t125] 30 (0, 0)) (by (with_reducible repeat (first | refine blk_drewN ?_ _ | refine blk_drew ?_ | refine blk_alloc ?_ _)); refine blk_put (cs := #[.slice Ao27 t122.length co27, .int .i64 0]) ?_ 1 _ rfl; (with_reducible repeat (first | refine blk_drewN ?_ _ | refine blk_drew ?_ | refine blk_alloc ?_ _)); refine blk_put (cs := #[.slice none 0 0, .int .i64 0]) ?_ 0 _ rfl; (with_reducible repeat (first | refine blk_drewN ?_ _ | refine blk_drew ?_ | refine blk_alloc ?_ _)); exact BK127.out) hb); have n8_ := Aside0.mk (below_step (hB3 HB.out (IsS56.ge HI105.out) GE117.out GE127.out) hb); clear HO110 HO115 HO120 HO124 HI105 BK117 BK127 HB; have HO110 := n0_; have HO115 := n1_; have HO120 := n2_; have HO124 := n3_; have HO130 := n4_; have HI105 := n5_; have BK117 := n6_; have BK127 := n7_; have HB := n8_; clear n0_ n1_ n2_ n3_ n4_ n5_ n6_ n7_ n8_; (try clear hb); (try clear ho0); obtain ⟨Ao33, co33, eo33⟩ := Kd.R_slice HO130.out; subst eo33; have hcz34_0 : w32.cell? ⟨gb127, 0, none⟩ = some (.slice Ao27 t122.length co27) := (blk_cell BK127.out 0).trans rfl; have hcz34_1 : w32.cell? ⟨gb127, 1, none⟩ = some (.int .i64 t125) := (blk_cell BK127.out 1).trans rfl; have hfz34_0 := blk_frozen BK127.out 0; have hfz34_1 := blk_frozen BK127.out 1) | ((with_reducible refine gate_callee (f := 22) rfl ?_); refine goesL_ (some 47) rfl rfl Try.func22 (by kernel_rfl) rfl #[.slice Ao24 t113.length co24, .slice Ao31 t118.length co31] rfl aM ?_; (with_reducible refine (fact_Points.calls k _ _ t113 _ _ t118 t133 t134 _ ?side1 ?side2 ?side3 ?side4 A11.out).mono ?_); (case side1 => refine (Kd.S_reads' (e := 22) (base := w.heap.size) (ok := fun k_ => (True ∧ some k_ ≠ (.slice Ao31 t118.length co31 : Value).ownBlock)) (n := t113.length) (c := co24) ?_).2.2; exact (by (with_reducible repeat (first | apply Kd.S_alloc | apply Kd.S_drewN | apply Kd.S_drew)); exact (Kd.S_mono (Kd.S_far (p := ⟨gb127, 1, none⟩) (Kd.S_far (p := ⟨gb127, 0, none⟩) (Kd.S_types HO115.out BK127.out (by decide)) (fun _ hk => hk.2) (.slice Ao33 t128.length co33)) (fun _ hk => hk.2) (.int .i64 t131)) (fun _ h_ => h_.1)))); (case side2 => exact (Kd.S_reads' HO115.out).2.1); (case side3 => refine (Kd.S_reads' (e := 22) (base := w.heap.size) (ok := fun k_ => (True ∧ some k_ ≠ (.slice Ao24 t113.length co24 : Value).ownBlock)) (n := t118.length) (c := co31) ?_).2.2; exact (by (with_reducible repeat (first | apply Kd.S_alloc | apply Kd.S_drewN | apply Kd.S_drew)); exact (Kd.S_mono (Kd.S_far (p := ⟨gb127, 1, none⟩) (Kd.S_far (p := ⟨gb127, 0, none⟩) (Kd.S_types HO120.out BK127.out (by decide)) (fun _ hk => hk.2) (.slice Ao33 t128.length co33)) (fun _ hk => hk.2) (.int .i64 t131)) (fun _ h_ => h_.1)))); (case side4 => exact (Kd.S_reads' HO120.out).2.1); rintro e w35 ⟨v135, rfl, ho0, hb⟩; refine ⟨_, rfl, ?_⟩; have n0_ := Aside0.mk (Kd.R_below (by (with_reducible repeat (first | apply Kd.R_alloc | apply Kd.R_drewN | apply Kd.R_drew)); exact (Kd.R_mono (Kd.R_far (p := ⟨gb127, 1, none⟩) (Kd.R_far (p := ⟨gb127, 0, none⟩) (Kd.R_types HO110.out BK127.out (by decide)) (fun _ hk => hk.2) (.slice Ao33 t128.length co33)) (fun _ hk => hk.2) (.int .i64 t131)) (fun _ h_ => h_.1))) hb); have n1_ := Aside0.mk (Kd.S_elder' (by (with_reducible repeat (first | apply Kd.S_alloc | apply Kd.S_drewN | apply Kd.S_drew)); exact (Kd.S_mono (Kd.S_far (p := ⟨gb127, 1, none⟩) (Kd.S_far (p := ⟨gb127, 0, none⟩) (Kd.S_types HO115.out BK127.out (by decide)) (fun _ hk => hk.2) (.slice Ao33 t128.length co33)) (fun _ hk => hk.2) (.int .i64 t131)) (fun _ h_ => h_.1))) (Kd.S_base ho0) hb); have n2_ := Aside0.mk (Kd.S_elder' (by (with_reducible repeat (first | apply Kd.S_alloc | apply Kd.S_drewN | apply Kd.S_drew)); exact (Kd.S_mono (Kd.S_far (p := ⟨gb127, 1, none⟩) (Kd.S_far (p := ⟨gb127, 0, none⟩) (Kd.S_types HO120.out BK127.out (by decide)) (fun _ hk => hk.2) (.slice Ao33 t128.length co33)) (fun _ hk => hk.2) (.int .i64 t131)) (fun _ h_ => h_.1))) (Kd.S_base ho0) hb); have n3_ := Aside0.mk (Kd.R_below (by (with_reducible repeat (first | apply Kd.R_alloc | apply Kd.R_drewN | apply Kd.R_drew)); exact (Kd.R_mono (Kd.R_far (p := ⟨gb127, 1, none⟩) (Kd.R_far (p := ⟨gb127, 0, none⟩) (Kd.R_types HO124.out BK127.out (by decide)) (fun _ hk => hk.2) (.slice Ao33 t128.length co33)) (fun _ hk => hk.2) (.int .i64 t131)) (fun _ h_ => h_.1))) hb); have n4_ := Aside0.mk (Kd.R_below (by (with_reducible repeat (first | apply Kd.R_alloc | apply Kd.R_drewN | apply Kd.R_drew)); exact (Kd.R_mono (Kd.R_far (p := ⟨gb127, 1, none⟩) (Kd.R_far (p := ⟨gb127, 0, none⟩) (Kd.R_types HO130.out BK127.out (by decide)) (fun _ hk => hk.2) (.slice Ao33 t128.length co33)) (fun _ hk => hk.2) (.int .i64 t131)) (fun _ h_ => h_.1))) hb); have n5_ := Aside0.mk (Kd.S_lower (Kd.S_new' (Kd.S_new' ho0 (Kd.S_lt (by (with_reducible repeat (first | apply Kd.S_alloc | apply Kd.S_drewN | apply Kd.S_drew)); exact (Kd.S_mono (Kd.S_far (p := ⟨gb127, 1, none⟩) (Kd.S_far (p := ⟨gb127, 0, none⟩) (Kd.S_types HO115.out BK127.out (by decide)) (fun _ hk => hk.2) (.slice Ao33 t128.length co33)) (fun _ hk => hk.2) (.int .i64 t131)) (fun _ h_ => h_.1))))) (Kd.S_lt (by (with_reducible repeat (first | apply Kd.S_alloc | apply Kd.S_drewN | apply Kd.S_drew)); exact (Kd.S_mono (Kd.S_far (p := ⟨gb127, 1, none⟩) (Kd.S_far (p := ⟨gb127, 0, none⟩) (Kd.S_types HO120.out BK127.out (by decide)) (fun _ hk => hk.2) (.slice Ao33 t128.length co33)) (fun _ hk => hk.2) (.int .i64 t131)) (fun _ h_ => h_.1))))) (below_size (hB3 HB.out (IsS56.ge HI105.out) GE117.out GE127.out))); have n6_ := Aside0.mk (IsS56.below (show IsS56 w ((w32.setCell ⟨gb127, 0, none⟩ (.slice Ao33 t128.length co33)).setCell ⟨gb127, 1, none⟩ (.int .i64 t131)) g105 t103 t121 from IsS56.k2 HI105.out NB105_117.out NB105_127.out) hb); have n7_ := Aside0.mk (blk_below (g := gb117) (o := .cells #[.slice Ao19 t108.length co19, .int .i64 t111] 30 (0, 0)) (by (with_reducible repeat (first | refine blk_drewN ?_ _ | refine blk_drew ?_ | refine blk_alloc ?_ _)); refine blk_far ?_ NB117_127.out _; (with_reducible repeat (first | refine blk_drewN ?_ _ | refine blk_drew ?_ | refine blk_alloc ?_ _)); refine blk_far ?_ NB117_127.out _; (with_reducible repeat (first | refine blk_drewN ?_ _ | refine blk_drew ?_ | refine blk_alloc ?_ _)); exact BK117.out) hb); have n8_ := Aside0.mk (blk_below (g := gb127) (o := .cells #[.slice Ao33 t128.length co33, .int .i64 t131] 30 (0, 0)) (by (with_reducible repeat (first | refine blk_drewN ?_ _ | refine blk_drew ?_ | refine blk_alloc ?_ _)); refine blk_put (cs := #[.slice Ao33 t128.length co33, .int .i64 t125]) ?_ 1 _ rfl; (with_reducible repeat (first | refine blk_drewN ?_ _ | refine blk_drew ?_ | refine blk_alloc ?_ _)); refine blk_put (cs := #[.slice Ao27 t122.length co27, .int .i64 t125]) ?_ 0 _ rfl; (with_reducible repeat (first | refine blk_drewN ?_ _ | refine blk_drew ?_ | refine blk_alloc ?_ _)); exact BK127.out) hb); have n9_ := Aside0.mk (below_step (hB3 HB.out (IsS56.ge HI105.out) GE117.out GE127.out) hb); clear HO110 HO115 HO120 HO124 HO130 HI105 BK117 BK127 HB; have HO110 := n0_; have HO115 := n1_; have HO120 := n2_; have HO124 := n3_; have HO130 := n4_; have HO136 := n5_; have HI105 := n6_; have BK117 := n7_; have BK127 := n8_; have HB := n9_; clear n0_ n1_ n2_ n3_ n4_ n5_ n6_ n7_ n8_ n9_; (try clear hb); (try clear ho0); have hcz36_0 : w35.cell? ⟨gb117, 0, none⟩ = some (.slice Ao19 t108.length co19) := (blk_cell BK117.out 0).trans rfl; have hcz36_1 : w35.cell? ⟨gb117, 1, none⟩ = some (.int .i64 t111) := (blk_cell BK117.out 1).trans rfl; have hfz36_0 := blk_frozen BK117.out 0; have hfz36_1 := blk_frozen BK117.out 1; obtain ⟨Ao37, co37, eo37⟩ := Kd.S_slice HO136.out; subst eo37) | ((with_reducible refine gate_callee (f := 15) rfl ?_); refine goesL_ (some 53) rfl rfl Try.func15 (by kernel_rfl) rfl #[.agg #[.slice Ao19 t108.length co19, .int .i64 t111], .slice Ao37 t133.length co37] rfl aM ?_; (with_reducible refine (fact_Map.calls k _ _ t108 t111 _ _ t133 t137 t140 t141 _ ?side1 ?side2 ?side3 ?side4 A12.out).mono ?_); (case side1 => exact cK (Kd.R_reads' HO110.out).2.2); (case side2 => exact (Kd.R_reads' HO110.out).2.1); (case side3 => exact cK (Kd.S_reads' HO136.out).2.2); (case side4 => exact (Kd.S_reads' HO136.out).2.1); rintro e w38 ⟨v138, rfl, ho0, hb⟩; refine ⟨_, rfl, ?_⟩; have n0_ := Aside0.mk (Kd.R_elder' (rK HO110.out) (Kd.R_base ho0) hb); have n1_ := Aside0.mk (Kd.S_below (sK HO115.out) hb); have n2_ := Aside0.mk (Kd.S_below (sK HO120.out) hb); have n3_ := Aside0.mk (Kd.R_elder' (rK HO124.out) (Kd.R_base ho0) hb); have n4_ := Aside0.mk (Kd.R_elder' (rK HO130.out) (Kd.R_base ho0) hb); have n5_ := Aside0.mk (Kd.S_below (sK HO136.out) hb); have n6_ := Aside0.mk (Kd.R_lower (Kd.R_new' (Kd.R_new' (Kd.R_new' ho0 (Kd.R_lt (rK HO110.out))) (Kd.R_lt (rK HO124.out))) (Kd.R_lt (rK HO130.out))) (below_size (hB3 HB.out (IsS56.ge HI105.out) GE117.out GE127.out))); have n7_ := Aside0.mk (IsS56.below (IsS56.k2 HI105.out NB105_117.out NB105_127.out) hb); have n8_ := Aside0.mk (blk_below (g := gb117) (o := .cells #[.slice Ao19 t108.length co19, .int .i64 t111] 30 (0, 0)) (bK BK117.out) hb); have n9_ := Aside0.mk (blk_below (g := gb127) (o := .cells #[.slice Ao33 t128.length co33, .int .i64 t131] 30 (0, 0)) (bK BK127.out) hb); have n10_ := Aside0.mk (below_step (hB3 HB.out (IsS56.ge HI105.out) GE117.out GE127.out) hb); clear HO110 HO115 HO120 HO124 HO130 HO136 HI105 BK117 BK127 HB; have HO110 := n0_; have HO115 := n1_; have HO120 := n2_; have HO124 := n3_; have HO130 := n4_; have HO136 := n5_; have HO139 := n6_; have HI105 := n7_; have BK117 := n8_; have BK127 := n9_; have HB := n10_; clear n0_ n1_ n2_ n3_ n4_ n5_ n6_ n7_ n8_ n9_ n10_; (try clear hb); (try clear ho0)) | ((with_reducible refine gate_dst (N := 13) rfl ?_); refine box_event ?hg (N := 13) ?hd (cs := #[.slice none 0 0, .int .i64 0]) (t := 30) ?hr ?_; (case hd => rfl); (case hg => rfl); (case hr => first | (go_simp; done) | (go_simp; rfl)); intro gb142 hg w39 hbox hb; have n0_ := Aside0.mk (Kd.R_below (rK HO110.out) hb); have n1_ := Aside0.mk (Kd.S_below (sK HO115.out) hb); have n2_ := Aside0.mk (Kd.S_below (sK HO120.out) hb); have n3_ := Aside0.mk (Kd.R_below (rK HO124.out) hb); have n4_ := Aside0.mk (Kd.R_below (rK HO130.out) hb); have n5_ := Aside0.mk (Kd.S_below (sK HO136.out) hb); have n6_ := Aside0.mk (Kd.R_below (rK HO139.out) hb); have n7_ := Aside0.mk (IsS56.below (IsS56.k2 HI105.out NB105_117.out NB105_127.out) hb); have n8_ := Aside0.mk (blk_below (g := gb117) (o := .cells #[.slice Ao19 t108.length co19, .int .i64 t111] 30 (0, 0)) (bK BK117.out) hb); have n9_ := Aside0.mk (blk_below (g := gb127) (o := .cells #[.slice Ao33 t128.length co33, .int .i64 t131] 30 (0, 0)) (bK BK127.out) hb); have n10_ := Aside0.mk (below_step (hB3 HB.out (IsS56.ge HI105.out) GE117.out GE127.out) hb); have n11_ := Aside0.mk (hbox); have n12_ := Aside0.mk ((by rw [hg]; exact (below_size (hB3 HB.out (IsS56.ge HI105.out) GE117.out GE127.out)) : w.heap.size ≤ gb142)); have n13_ := Aside0.mk ((by rw [hg]; exact (below_size (hB3 HB.out (IsS56.ge HI105.out) GE117.out GE127.out)) : w.heap.size ≤ gb142)); have n14_ := Aside0.mk ((by rw [hg]; exact Nat.ne_of_lt (blk_lt (g := gb117) (o := .cells #[.slice Ao19 t108.length co19, .int .i64 t111] 30 (0, 0)) (bK BK117.out)) : gb117 ≠ gb142)); have n15_ := Aside0.mk ((by rw [hg]; exact Nat.ne_of_gt (blk_lt (g := gb117) (o := .cells #[.slice Ao19 t108.length co19, .int .i64 t111] 30 (0, 0)) (bK BK117.out)) : gb142 ≠ gb117)); have n16_ := Aside0.mk ((by rw [hg]; exact Nat.ne_of_lt (blk_lt (g := gb127) (o := .cells #[.slice Ao33 t128.length co33, .int .i64 t131] 30 (0, 0)) (bK BK127.out)) : gb127 ≠ gb142)); have n17_ := Aside0.mk ((by rw [hg]; exact Nat.ne_of_gt (blk_lt (g := gb127) (o := .cells #[.slice Ao33 t128.length co33, .int .i64 t131] 30 (0, 0)) (bK BK127.out)) : gb142 ≠ gb127)); have n18_ := Aside0.mk ((by rw [hg]; exact Nat.ne_of_lt (IsS56.lt (show IsS56 w _ g105 t103 t121 from IsS56.k2 HI105.out NB105_117.out NB105_127.out)) : g105 ≠ gb142)); have n19_ := Aside0.mk ((by rw [hg]; exact Nat.ne_of_gt (IsS56.lt (show IsS56 w _ g105 t103 t121 from IsS56.k2 HI105.out NB105_117.out NB105_127.out)) : gb142 ≠ g105)); clear HO110 HO115 HO120 HO124 HO130 HO136 HO139 HI105 BK117 BK127 HB; have HO110 := n0_; have HO115 := n1_; have HO120 := n2_; have HO124 := n3_; have HO130 := n4_; have HO136 := n5_; have HO139 := n6_; have HI105 := n7_; have BK117 := n8_; have BK127 := n9_; have HB := n10_; have BK142 := n11_; have GW142 := n12_; have GE142 := n13_; have NB117_142 := n14_; have NB142_117 := n15_; have NB127_142 := n16_; have NB142_127 := n17_; have NB105_142 := n18_; have NB142_105 := n19_; clear n0_ n1_ n2_ n3_ n4_ n5_ n6_ n7_ n8_ n9_ n10_ n11_ n12_ n13_ n14_ n15_ n16_ n17_ n18_ n19_; clear hb hbox hg; obtain ⟨Ao40, co40, eo40⟩ := Kd.R_slice HO139.out; subst eo40; have hnb41 := NB142_117.out; have hnc41 := NB117_142.out; have hnb42 := NB142_127.out; have hnc42 := NB127_142.out; have hnb43 := NB142_105.out; have hnc43 := NB105_142.out; have hcz44_0 : w39.cell? ⟨gb142, 0, none⟩ = some (.slice none 0 0) := (blk_cell BK142.out 0).trans rfl; have hcz44_1 : w39.cell? ⟨gb142, 1, none⟩ = some (.int .i64 0) := (blk_cell BK142.out 1).trans rfl; have hfz44_0 := blk_frozen BK142.out 0; have hfz44_1 := blk_frozen BK142.out 1))
   (try simp only [Act.put, List.setIfInBounds_toArray, List.set_cons_zero, List.set_cons_succ])
   go_cut [2] (fun v2 wc => ∃ (kq : Nat) (x2_12 : Bool), v2 = .bool x2_12 ∧ Aside0 (timeboundlaw11_FactTwice.j0 kq x2_12 = some r) ∧ Aside0 (kq ≤ k) ∧ Aside0 (Kd.R k44 44 wc w.heap.size (fun k_ => some k_ ≠ ((.slice Ao33 t128.length co33) : Value).ownBlock ∧ some k_ ≠ ((.slice Ao40 t137.length co40) : Value).ownBlock) (.slice Ao19 t108.length co19) t108) ∧ Aside0 (Kd.R k44 44 wc w.heap.size (fun k_ => some k_ ≠ ((.slice Ao19 t108.length co19) : Value).ownBlock ∧ some k_ ≠ ((.slice Ao40 t137.length co40) : Value).ownBlock) (.slice Ao33 t128.length co33) t128) ∧ Aside0 (Kd.R k44 44 wc w.heap.size (fun k_ => some k_ ≠ ((.slice Ao19 t108.length co19) : Value).ownBlock ∧ some k_ ≠ ((.slice Ao33 t128.length co33) : Value).ownBlock) (.slice Ao40 t137.length co40) t137) ∧ Aside0 (wc.heap[gb117]? = some (.cells #[(.slice Ao19 t108.length co19), .int .i64 t111] 30 (0, 0))) ∧ Aside0 (wc.heap[gb127]? = some (.cells #[(.slice Ao33 t128.length co33), .int .i64 t131] 30 (0, 0))) ∧ Aside0 (wc.heap[gb142]? = some (.cells #[(.slice Ao40 t137.length co40), .int .i64 t140] 30 (0, 0))) ∧ Aside0 (Below w.heap.size w wc))
   case first =>
    have H := HC13.out
    clear HC13
    by_cases c45 : t126 = 0
    ·rw [if_pos c45] at H
     have c45b0 : (t126 == 0) = true := beq_iff_eq.mpr c45
     have c45b1 : (t126 != 0) = false := bne_eq_false_iff_eq.mpr c45
     clear c45
     (first | rw [c45b0] | (simp only [i64_w, i32_w]; rw [c45b0]) | skip)
     by_cases c46 : t132 = 0
     ·rw [if_pos c46] at H
      have c46b0 : (t132 == 0) = true := beq_iff_eq.mpr c46
      have c46b1 : (t132 != 0) = false := bne_eq_false_iff_eq.mpr c46
      clear c46
      by_cases c47 : t134 = 0
      ·rw [if_pos c47] at H
       have c47b0 : (t134 == 0) = true := beq_iff_eq.mpr c47
       have c47b1 : (t134 != 0) = false := bne_eq_false_iff_eq.mpr c47
       clear c47
       by_cases c48 : t141 = 0
       ·rw [if_pos c48] at H
        have c48b0 : (t141 == 0) = true := beq_iff_eq.mpr c48
        have c48b1 : (t141 != 0) = false := bne_eq_false_iff_eq.mpr c48
        clear c48
        replace H := Option.bind_eq_some_iff.mp H
        obtain ⟨t143, A490, H⟩ := H
        replace H : (if t143 = true then ((timeboundlaw11_awake.f k).bind fun t144 => (timeboundlaw11_FactTwice.j0 k t144)) else (timeboundlaw11_FactTwice.j0 k false)) = some r := H
        have A49 := Aside0.mk A490
        clear A490
        by_cases c50 : t143 = true
        ·subst c50
         have H1 : ((timeboundlaw11_awake.f k).bind fun t144 => (timeboundlaw11_FactTwice.j0 k t144)) = some r := by rw [if_pos rfl] at H; exact H
         clear H
         have H := H1
         clear H1
         replace H := Option.bind_eq_some_iff.mp H
         obtain ⟨t144, A510, H⟩ := H
         replace H : (timeboundlaw11_FactTwice.j0 k t144) = some r := H
         have A51 := Aside0.mk A510
         clear A510
         have H' := Aside0.mk H
         clear H
         have hnb52 := NB127_117.out
         have hnc52 := NB117_127.out
         have hnb53 := NB127_142.out
         have hnc53 := NB142_127.out
         have hnb54 := NB127_105.out
         have hnc54 := NB105_127.out
         have hcz55_0 : w39.cell? ⟨gb127, 0, none⟩ = some (.slice Ao33 t128.length co33) := (blk_cell BK127.out 0).trans rfl
         have hcz55_1 : w39.cell? ⟨gb127, 1, none⟩ = some (.int .i64 t131) := (blk_cell BK127.out 1).trans rfl
         have hfz55_0 := blk_frozen BK127.out 0
         have hfz55_1 := blk_frozen BK127.out 1
         have hnb56 := NB142_117.out
         have hnc56 := NB117_142.out
         have hnb57 := NB142_105.out
         have hnc57 := NB105_142.out
         have hcz58_0 : w39.cell? ⟨gb142, 0, none⟩ = some (.slice none 0 0) := (blk_cell BK142.out 0).trans rfl
         have hcz58_1 : w39.cell? ⟨gb142, 1, none⟩ = some (.int .i64 0) := (blk_cell BK142.out 1).trans rfl
         have hfz58_0 := blk_frozen BK142.out 0
         have hfz58_1 := blk_frozen BK142.out 1
         go_wp2_with (first | (go_at_call 20; (with_reducible refine (timeboundref11_Same.calls k _ _ t128 t131 _ _ t137 t140 true _ ?side1 ?side2 ?side3 ?side4 A49.out).mono ?_); (case side1 => refine (Kd.R_reads' (e := 44) (base := w.heap.size) (ok := fun k_ => (((True ∧ some k_ ≠ (.slice Ao19 t108.length co19 : Value).ownBlock) ∧ some k_ ≠ (.slice Ao27 t122.length co27 : Value).ownBlock) ∧ some k_ ≠ (.slice Ao40 t137.length co40 : Value).ownBlock)) (n := t128.length) (c := co33) ?_).2.2; exact (by (with_reducible repeat (first | apply Kd.R_alloc | apply Kd.R_drewN | apply Kd.R_drew)); exact (Kd.R_mono (Kd.R_far (p := ⟨gb142, 1, none⟩) (Kd.R_far (p := ⟨gb142, 0, none⟩) (Kd.R_types HO130.out BK142.out (by decide)) (fun _ hk => hk.2) (.slice Ao40 t137.length co40)) (fun _ hk => hk.2) (.int .i64 t140)) (fun _ h_ => h_.1)))); (case side2 => exact (Kd.R_reads' HO130.out).2.1); (case side3 => refine (Kd.R_reads' (e := 44) (base := w.heap.size) (ok := fun k_ => (((True ∧ some k_ ≠ (.slice Ao19 t108.length co19 : Value).ownBlock) ∧ some k_ ≠ (.slice Ao27 t122.length co27 : Value).ownBlock) ∧ some k_ ≠ (.slice Ao33 t128.length co33 : Value).ownBlock)) (n := t137.length) (c := co40) ?_).2.2; exact (by (with_reducible repeat (first | apply Kd.R_alloc | apply Kd.R_drewN | apply Kd.R_drew)); exact (Kd.R_mono (Kd.R_far (p := ⟨gb142, 1, none⟩) (Kd.R_far (p := ⟨gb142, 0, none⟩) (Kd.R_types HO139.out BK142.out (by decide)) (fun _ hk => hk.2) (.slice Ao40 t137.length co40)) (fun _ hk => hk.2) (.int .i64 t140)) (fun _ h_ => h_.1)))); (case side4 => exact (Kd.R_reads' HO139.out).2.1); rintro e w59 ⟨rfl, hb⟩; have n0_ := Aside0.mk (Kd.R_below (by (with_reducible repeat (first | apply Kd.R_alloc | apply Kd.R_drewN | apply Kd.R_drew)); exact (Kd.R_mono (Kd.R_far (p := ⟨gb142, 1, none⟩) (Kd.R_far (p := ⟨gb142, 0, none⟩) (Kd.R_types HO110.out BK142.out (by decide)) (fun _ hk => hk.2) (.slice Ao40 t137.length co40)) (fun _ hk => hk.2) (.int .i64 t140)) (fun _ h_ => h_.1))) hb); have n1_ := Aside0.mk (Kd.S_below (by (with_reducible repeat (first | apply Kd.S_alloc | apply Kd.S_drewN | apply Kd.S_drew)); exact (Kd.S_mono (Kd.S_far (p := ⟨gb142, 1, none⟩) (Kd.S_far (p := ⟨gb142, 0, none⟩) (Kd.S_types HO115.out BK142.out (by decide)) (fun _ hk => hk.2) (.slice Ao40 t137.length co40)) (fun _ hk => hk.2) (.int .i64 t140)) (fun _ h_ => h_.1))) hb); have n2_ := Aside0.mk (Kd.S_below (by (with_reducible repeat (first | apply Kd.S_alloc | apply Kd.S_drewN | apply Kd.S_drew)); exact (Kd.S_mono (Kd.S_far (p := ⟨gb142, 1, none⟩) (Kd.S_far (p := ⟨gb142, 0, none⟩) (Kd.S_types HO120.out BK142.out (by decide)) (fun _ hk => hk.2) (.slice Ao40 t137.length co40)) (fun _ hk => hk.2) (.int .i64 t140)) (fun _ h_ => h_.1))) hb); have n3_ := Aside0.mk (Kd.R_below (by (with_reducible repeat (first | apply Kd.R_alloc | apply Kd.R_drewN | apply Kd.R_drew)); exact (Kd.R_mono (Kd.R_far (p := ⟨gb142, 1, none⟩) (Kd.R_far (p := ⟨gb142, 0, none⟩) (Kd.R_types HO124.out BK142.out (by decide)) (fun _ hk => hk.2) (.slice Ao40 t137.length co40)) (fun _ hk => hk.2) (.int .i64 t140)) (fun _ h_ => h_.1))) hb); have n4_ := Aside0.mk (Kd.R_below (by (with_reducible repeat (first | apply Kd.R_alloc | apply Kd.R_drewN | apply Kd.R_drew)); exact (Kd.R_mono (Kd.R_far (p := ⟨gb142, 1, none⟩) (Kd.R_far (p := ⟨gb142, 0, none⟩) (Kd.R_types HO130.out BK142.out (by decide)) (fun _ hk => hk.2) (.slice Ao40 t137.length co40)) (fun _ hk => hk.2) (.int .i64 t140)) (fun _ h_ => h_.1))) hb); have n5_ := Aside0.mk (Kd.S_below (by (with_reducible repeat (first | apply Kd.S_alloc | apply Kd.S_drewN | apply Kd.S_drew)); exact (Kd.S_mono (Kd.S_far (p := ⟨gb142, 1, none⟩) (Kd.S_far (p := ⟨gb142, 0, none⟩) (Kd.S_types HO136.out BK142.out (by decide)) (fun _ hk => hk.2) (.slice Ao40 t137.length co40)) (fun _ hk => hk.2) (.int .i64 t140)) (fun _ h_ => h_.1))) hb); have n6_ := Aside0.mk (Kd.R_below (by (with_reducible repeat (first | apply Kd.R_alloc | apply Kd.R_drewN | apply Kd.R_drew)); exact (Kd.R_mono (Kd.R_far (p := ⟨gb142, 1, none⟩) (Kd.R_far (p := ⟨gb142, 0, none⟩) (Kd.R_types HO139.out BK142.out (by decide)) (fun _ hk => hk.2) (.slice Ao40 t137.length co40)) (fun _ hk => hk.2) (.int .i64 t140)) (fun _ h_ => h_.1))) hb); have n7_ := Aside0.mk (IsS56.below (show IsS56 w ((w39.setCell ⟨gb142, 0, none⟩ (.slice Ao40 t137.length co40)).setCell ⟨gb142, 1, none⟩ (.int .i64 t140)) g105 t103 t121 from IsS56.k3 HI105.out NB105_117.out NB105_127.out NB105_142.out) hb); have n8_ := Aside0.mk (blk_below (g := gb117) (o := .cells #[.slice Ao19 t108.length co19, .int .i64 t111] 30 (0, 0)) (by (with_reducible repeat (first | refine blk_drewN ?_ _ | refine blk_drew ?_ | refine blk_alloc ?_ _)); refine blk_far ?_ NB117_142.out _; (with_reducible repeat (first | refine blk_drewN ?_ _ | refine blk_drew ?_ | refine blk_alloc ?_ _)); refine blk_far ?_ NB117_142.out _; (with_reducible repeat (first | refine blk_drewN ?_ _ | refine blk_drew ?_ | refine blk_alloc ?_ _)); exact BK117.out) hb); have n9_ := Aside0.mk (blk_below (g := gb127) (o := .cells #[.slice Ao33 t128.length co33, .int .i64 t131] 30 (0, 0)) (by (with_reducible repeat (first | refine blk_drewN ?_ _ | refine blk_drew ?_ | refine blk_alloc ?_ _)); refine blk_far ?_ NB127_142.out _; (with_reducible repeat (first | refine blk_drewN ?_ _ | refine blk_drew ?_ | refine blk_alloc ?_ _)); refine blk_far ?_ NB127_142.out _; (with_reducible repeat (first | refine blk_drewN ?_ _ | refine blk_drew ?_ | refine blk_alloc ?_ _)); exact BK127.out) hb); have n10_ := Aside0.mk (blk_below (g := gb142) (o := .cells #[.slice Ao40 t137.length co40, .int .i64 t140] 30 (0, 0)) (by (with_reducible repeat (first | refine blk_drewN ?_ _ | refine blk_drew ?_ | refine blk_alloc ?_ _)); refine blk_put (cs := #[.slice Ao40 t137.length co40, .int .i64 0]) ?_ 1 _ rfl; (with_reducible repeat (first | refine blk_drewN ?_ _ | refine blk_drew ?_ | refine blk_alloc ?_ _)); refine blk_put (cs := #[.slice none 0 0, .int .i64 0]) ?_ 0 _ rfl; (with_reducible repeat (first | refine blk_drewN ?_ _ | refine blk_drew ?_ | refine blk_alloc ?_ _)); exact BK142.out) hb); have n11_ := Aside0.mk (below_step (hB4 HB.out (IsS56.ge HI105.out) GE117.out GE127.out GE142.out) hb); clear HO110 HO115 HO120 HO124 HO130 HO136 HO139 HI105 BK117 BK127 BK142 HB; have HO110 := n0_; have HO115 := n1_; have HO120 := n2_; have HO124 := n3_; have HO130 := n4_; have HO136 := n5_; have HO139 := n6_; have HI105 := n7_; have BK117 := n8_; have BK127 := n9_; have BK142 := n10_; have HB := n11_; clear n0_ n1_ n2_ n3_ n4_ n5_ n6_ n7_ n8_ n9_ n10_ n11_; (try clear hb); (try clear hk)) | (go_at_call 9; (with_reducible refine (timeboundlaw11_awake.calls k  t144 _ A51.out).mono ?_); rintro e w60 ⟨rfl, hb⟩; have n0_ := Aside0.mk (Kd.R_below (rK HO110.out) hb); have n1_ := Aside0.mk (Kd.S_below (sK HO115.out) hb); have n2_ := Aside0.mk (Kd.S_below (sK HO120.out) hb); have n3_ := Aside0.mk (Kd.R_below (rK HO124.out) hb); have n4_ := Aside0.mk (Kd.R_below (rK HO130.out) hb); have n5_ := Aside0.mk (Kd.S_below (sK HO136.out) hb); have n6_ := Aside0.mk (Kd.R_below (rK HO139.out) hb); have n7_ := Aside0.mk (IsS56.below (IsS56.k3 HI105.out NB105_117.out NB105_127.out NB105_142.out) hb); have n8_ := Aside0.mk (blk_below (g := gb117) (o := .cells #[.slice Ao19 t108.length co19, .int .i64 t111] 30 (0, 0)) (bK BK117.out) hb); have n9_ := Aside0.mk (blk_below (g := gb127) (o := .cells #[.slice Ao33 t128.length co33, .int .i64 t131] 30 (0, 0)) (bK BK127.out) hb); have n10_ := Aside0.mk (blk_below (g := gb142) (o := .cells #[.slice Ao40 t137.length co40, .int .i64 t140] 30 (0, 0)) (bK BK142.out) hb); have n11_ := Aside0.mk (below_step (hB4 HB.out (IsS56.ge HI105.out) GE117.out GE127.out GE142.out) hb); clear HO110 HO115 HO120 HO124 HO130 HO136 HO139 HI105 BK117 BK127 BK142 HB; have HO110 := n0_; have HO115 := n1_; have HO120 := n2_; have HO124 := n3_; have HO130 := n4_; have HO136 := n5_; have HO139 := n6_; have HI105 := n7_; have BK117 := n8_; have BK127 := n9_; have BK142 := n10_; have HB := n11_; clear n0_ n1_ n2_ n3_ n4_ n5_ n6_ n7_ n8_ n9_ n10_ n11_; (try clear hb)))
         go_meet
         case rel => exact ⟨_, (t144), rS, H', ⟨by first | omega | exact Nat.le_refl _⟩, ⟨by (with_reducible repeat (first | apply Kd.R_alloc | apply Kd.R_drewN | apply Kd.R_drew)); exact Kd.R_mono HO110.out (fun _ hk => ⟨hk.1.2, hk.2⟩)⟩, ⟨by (with_reducible repeat (first | apply Kd.R_alloc | apply Kd.R_drewN | apply Kd.R_drew)); exact Kd.R_mono HO130.out (fun _ hk => ⟨hk.1.1.2, hk.2⟩)⟩, ⟨by (with_reducible repeat (first | apply Kd.R_alloc | apply Kd.R_drewN | apply Kd.R_drew)); exact Kd.R_mono HO139.out (fun _ hk => ⟨hk.1.1.2, hk.2⟩)⟩, ⟨bK BK117.out⟩, ⟨bK BK127.out⟩, ⟨bK BK142.out⟩, ⟨hB4 HB.out (IsS56.ge HI105.out) GE117.out GE127.out GE142.out⟩⟩
        ·replace c50 := Bool.eq_false_iff.mpr c50
         subst c50
         have H1 : (timeboundlaw11_FactTwice.j0 k false) = some r := by rw [if_neg (show ¬ (false = true) by decide)] at H; exact H
         clear H
         have H := H1
         clear H1
         have H' := Aside0.mk H
         clear H
         have hnb61 := NB127_117.out
         have hnc61 := NB117_127.out
         have hnb62 := NB127_142.out
         have hnc62 := NB142_127.out
         have hnb63 := NB127_105.out
         have hnc63 := NB105_127.out
         have hcz64_0 : w39.cell? ⟨gb127, 0, none⟩ = some (.slice Ao33 t128.length co33) := (blk_cell BK127.out 0).trans rfl
         have hcz64_1 : w39.cell? ⟨gb127, 1, none⟩ = some (.int .i64 t131) := (blk_cell BK127.out 1).trans rfl
         have hfz64_0 := blk_frozen BK127.out 0
         have hfz64_1 := blk_frozen BK127.out 1
         have hnb65 := NB142_117.out
         have hnc65 := NB117_142.out
         have hnb66 := NB142_105.out
         have hnc66 := NB105_142.out
         have hcz67_0 : w39.cell? ⟨gb142, 0, none⟩ = some (.slice none 0 0) := (blk_cell BK142.out 0).trans rfl
         have hcz67_1 : w39.cell? ⟨gb142, 1, none⟩ = some (.int .i64 0) := (blk_cell BK142.out 1).trans rfl
         have hfz67_0 := blk_frozen BK142.out 0
         have hfz67_1 := blk_frozen BK142.out 1
         go_wp2_with (first | (go_at_call 20; (with_reducible refine (timeboundref11_Same.calls k _ _ t128 t131 _ _ t137 t140 false _ ?side1 ?side2 ?side3 ?side4 A49.out).mono ?_); (case side1 => refine (Kd.R_reads' (e := 44) (base := w.heap.size) (ok := fun k_ => (((True ∧ some k_ ≠ (.slice Ao19 t108.length co19 : Value).ownBlock) ∧ some k_ ≠ (.slice Ao27 t122.length co27 : Value).ownBlock) ∧ some k_ ≠ (.slice Ao40 t137.length co40 : Value).ownBlock)) (n := t128.length) (c := co33) ?_).2.2; exact (by (with_reducible repeat (first | apply Kd.R_alloc | apply Kd.R_drewN | apply Kd.R_drew)); exact (Kd.R_mono (Kd.R_far (p := ⟨gb142, 1, none⟩) (Kd.R_far (p := ⟨gb142, 0, none⟩) (Kd.R_types HO130.out BK142.out (by decide)) (fun _ hk => hk.2) (.slice Ao40 t137.length co40)) (fun _ hk => hk.2) (.int .i64 t140)) (fun _ h_ => h_.1)))); (case side2 => exact (Kd.R_reads' HO130.out).2.1); (case side3 => refine (Kd.R_reads' (e := 44) (base := w.heap.size) (ok := fun k_ => (((True ∧ some k_ ≠ (.slice Ao19 t108.length co19 : Value).ownBlock) ∧ some k_ ≠ (.slice Ao27 t122.length co27 : Value).ownBlock) ∧ some k_ ≠ (.slice Ao33 t128.length co33 : Value).ownBlock)) (n := t137.length) (c := co40) ?_).2.2; exact (by (with_reducible repeat (first | apply Kd.R_alloc | apply Kd.R_drewN | apply Kd.R_drew)); exact (Kd.R_mono (Kd.R_far (p := ⟨gb142, 1, none⟩) (Kd.R_far (p := ⟨gb142, 0, none⟩) (Kd.R_types HO139.out BK142.out (by decide)) (fun _ hk => hk.2) (.slice Ao40 t137.length co40)) (fun _ hk => hk.2) (.int .i64 t140)) (fun _ h_ => h_.1)))); (case side4 => exact (Kd.R_reads' HO139.out).2.1); rintro e w68 ⟨rfl, hb⟩; have n0_ := Aside0.mk (Kd.R_below (by (with_reducible repeat (first | apply Kd.R_alloc | apply Kd.R_drewN | apply Kd.R_drew)); exact (Kd.R_mono (Kd.R_far (p := ⟨gb142, 1, none⟩) (Kd.R_far (p := ⟨gb142, 0, none⟩) (Kd.R_types HO110.out BK142.out (by decide)) (fun _ hk => hk.2) (.slice Ao40 t137.length co40)) (fun _ hk => hk.2) (.int .i64 t140)) (fun _ h_ => h_.1))) hb); have n1_ := Aside0.mk (Kd.S_below (by (with_reducible repeat (first | apply Kd.S_alloc | apply Kd.S_drewN | apply Kd.S_drew)); exact (Kd.S_mono (Kd.S_far (p := ⟨gb142, 1, none⟩) (Kd.S_far (p := ⟨gb142, 0, none⟩) (Kd.S_types HO115.out BK142.out (by decide)) (fun _ hk => hk.2) (.slice Ao40 t137.length co40)) (fun _ hk => hk.2) (.int .i64 t140)) (fun _ h_ => h_.1))) hb); have n2_ := Aside0.mk (Kd.S_below (by (with_reducible repeat (first | apply Kd.S_alloc | apply Kd.S_drewN | apply Kd.S_drew)); exact (Kd.S_mono (Kd.S_far (p := ⟨gb142, 1, none⟩) (Kd.S_far (p := ⟨gb142, 0, none⟩) (Kd.S_types HO120.out BK142.out (by decide)) (fun _ hk => hk.2) (.slice Ao40 t137.length co40)) (fun _ hk => hk.2) (.int .i64 t140)) (fun _ h_ => h_.1))) hb); have n3_ := Aside0.mk (Kd.R_below (by (with_reducible repeat (first | apply Kd.R_alloc | apply Kd.R_drewN | apply Kd.R_drew)); exact (Kd.R_mono (Kd.R_far (p := ⟨gb142, 1, none⟩) (Kd.R_far (p := ⟨gb142, 0, none⟩) (Kd.R_types HO124.out BK142.out (by decide)) (fun _ hk => hk.2) (.slice Ao40 t137.length co40)) (fun _ hk => hk.2) (.int .i64 t140)) (fun _ h_ => h_.1))) hb); have n4_ := Aside0.mk (Kd.R_below (by (with_reducible repeat (first | apply Kd.R_alloc | apply Kd.R_drewN | apply Kd.R_drew)); exact (Kd.R_mono (Kd.R_far (p := ⟨gb142, 1, none⟩) (Kd.R_far (p := ⟨gb142, 0, none⟩) (Kd.R_types HO130.out BK142.out (by decide)) (fun _ hk => hk.2) (.slice Ao40 t137.length co40)) (fun _ hk => hk.2) (.int .i64 t140)) (fun _ h_ => h_.1))) hb); have n5_ := Aside0.mk (Kd.S_below (by (with_reducible repeat (first | apply Kd.S_alloc | apply Kd.S_drewN | apply Kd.S_drew)); exact (Kd.S_mono (Kd.S_far (p := ⟨gb142, 1, none⟩) (Kd.S_far (p := ⟨gb142, 0, none⟩) (Kd.S_types HO136.out BK142.out (by decide)) (fun _ hk => hk.2) (.slice Ao40 t137.length co40)) (fun _ hk => hk.2) (.int .i64 t140)) (fun _ h_ => h_.1))) hb); have n6_ := Aside0.mk (Kd.R_below (by (with_reducible repeat (first | apply Kd.R_alloc | apply Kd.R_drewN | apply Kd.R_drew)); exact (Kd.R_mono (Kd.R_far (p := ⟨gb142, 1, none⟩) (Kd.R_far (p := ⟨gb142, 0, none⟩) (Kd.R_types HO139.out BK142.out (by decide)) (fun _ hk => hk.2) (.slice Ao40 t137.length co40)) (fun _ hk => hk.2) (.int .i64 t140)) (fun _ h_ => h_.1))) hb); have n7_ := Aside0.mk (IsS56.below (show IsS56 w ((w39.setCell ⟨gb142, 0, none⟩ (.slice Ao40 t137.length co40)).setCell ⟨gb142, 1, none⟩ (.int .i64 t140)) g105 t103 t121 from IsS56.k3 HI105.out NB105_117.out NB105_127.out NB105_142.out) hb); have n8_ := Aside0.mk (blk_below (g := gb117) (o := .cells #[.slice Ao19 t108.length co19, .int .i64 t111] 30 (0, 0)) (by (with_reducible repeat (first | refine blk_drewN ?_ _ | refine blk_drew ?_ | refine blk_alloc ?_ _)); refine blk_far ?_ NB117_142.out _; (with_reducible repeat (first | refine blk_drewN ?_ _ | refine blk_drew ?_ | refine blk_alloc ?_ _)); refine blk_far ?_ NB117_142.out _; (with_reducible repeat (first | refine blk_drewN ?_ _ | refine blk_drew ?_ | refine blk_alloc ?_ _)); exact BK117.out) hb); have n9_ := Aside0.mk (blk_below (g := gb127) (o := .cells #[.slice Ao33 t128.length co33, .int .i64 t131] 30 (0, 0)) (by (with_reducible repeat (first | refine blk_drewN ?_ _ | refine blk_drew ?_ | refine blk_alloc ?_ _)); refine blk_far ?_ NB127_142.out _; (with_reducible repeat (first | refine blk_drewN ?_ _ | refine blk_drew ?_ | refine blk_alloc ?_ _)); refine blk_far ?_ NB127_142.out _; (with_reducible repeat (first | refine blk_drewN ?_ _ | refine blk_drew ?_ | refine blk_alloc ?_ _)); exact BK127.out) hb); have n10_ := Aside0.mk (blk_below (g := gb142) (o := .cells #[.slice Ao40 t137.length co40, .int .i64 t140] 30 (0, 0)) (by (with_reducible repeat (first | refine blk_drewN ?_ _ | refine blk_drew ?_ | refine blk_alloc ?_ _)); refine blk_put (cs := #[.slice Ao40 t137.length co40, .int .i64 0]) ?_ 1 _ rfl; (with_reducible repeat (first | refine blk_drewN ?_ _ | refine blk_drew ?_ | refine blk_alloc ?_ _)); refine blk_put (cs := #[.slice none 0 0, .int .i64 0]) ?_ 0 _ rfl; (with_reducible repeat (first | refine blk_drewN ?_ _ | refine blk_drew ?_ | refine blk_alloc ?_ _)); exact BK142.out) hb); have n11_ := Aside0.mk (below_step (hB4 HB.out (IsS56.ge HI105.out) GE117.out GE127.out GE142.out) hb); clear HO110 HO115 HO120 HO124 HO130 HO136 HO139 HI105 BK117 BK127 BK142 HB; have HO110 := n0_; have HO115 := n1_; have HO120 := n2_; have HO124 := n3_; have HO130 := n4_; have HO136 := n5_; have HO139 := n6_; have HI105 := n7_; have BK117 := n8_; have BK127 := n9_; have BK142 := n10_; have HB := n11_; clear n0_ n1_ n2_ n3_ n4_ n5_ n6_ n7_ n8_ n9_ n10_ n11_; (try clear hb); (try clear hk)))
         go_meet
         case rel => exact ⟨_, (false), rS, H', ⟨by first | omega | exact Nat.le_refl _⟩, ⟨by (with_reducible repeat (first | apply Kd.R_alloc | apply Kd.R_drewN | apply Kd.R_drew)); exact Kd.R_mono HO110.out (fun _ hk => ⟨hk.1.2, hk.2⟩)⟩, ⟨by (with_reducible repeat (first | apply Kd.R_alloc | apply Kd.R_drewN | apply Kd.R_drew)); exact Kd.R_mono HO130.out (fun _ hk => ⟨hk.1.1.2, hk.2⟩)⟩, ⟨by (with_reducible repeat (first | apply Kd.R_alloc | apply Kd.R_drewN | apply Kd.R_drew)); exact Kd.R_mono HO139.out (fun _ hk => ⟨hk.1.1.2, hk.2⟩)⟩, ⟨bK BK117.out⟩, ⟨bK BK127.out⟩, ⟨bK BK142.out⟩, ⟨hB4 HB.out (IsS56.ge HI105.out) GE117.out GE127.out GE142.out⟩⟩
       ·rw [if_neg c48] at H
        have c48b0 : (t141 == 0) = false := beq_eq_false_iff_ne.mpr c48
        have c48b1 : (t141 != 0) = true := bne_iff_ne.mpr c48
        have H' := Aside0.mk H
        clear H
        go_wp2
        go_meet
        case rel => exact ⟨_, (false), rS, H', ⟨by first | omega | exact Nat.le_refl _⟩, ⟨by (with_reducible repeat (first | apply Kd.R_alloc | apply Kd.R_drewN | apply Kd.R_drew)); exact Kd.R_mono (Kd.R_far (p := ⟨gb142, 1, none⟩) (Kd.R_far (p := ⟨gb142, 0, none⟩) (Kd.R_types HO110.out BK142.out (by decide)) (fun _ hk => hk.2) (.slice Ao40 t137.length co40)) (fun _ hk => hk.2) (.int .i64 t140)) (fun _ hk => ⟨hk.1.1.2, hk.1.2⟩)⟩, ⟨by (with_reducible repeat (first | apply Kd.R_alloc | apply Kd.R_drewN | apply Kd.R_drew)); exact Kd.R_mono (Kd.R_far (p := ⟨gb142, 1, none⟩) (Kd.R_far (p := ⟨gb142, 0, none⟩) (Kd.R_types HO130.out BK142.out (by decide)) (fun _ hk => hk.2) (.slice Ao40 t137.length co40)) (fun _ hk => hk.2) (.int .i64 t140)) (fun _ hk => ⟨hk.1.1.1.2, hk.1.2⟩)⟩, ⟨by (with_reducible repeat (first | apply Kd.R_alloc | apply Kd.R_drewN | apply Kd.R_drew)); exact Kd.R_mono (Kd.R_far (p := ⟨gb142, 1, none⟩) (Kd.R_far (p := ⟨gb142, 0, none⟩) (Kd.R_types HO139.out BK142.out (by decide)) (fun _ hk => hk.2) (.slice Ao40 t137.length co40)) (fun _ hk => hk.2) (.int .i64 t140)) (fun _ hk => ⟨hk.1.1.1.2, hk.1.2⟩)⟩, ⟨by (with_reducible repeat (first | refine blk_drewN ?_ _ | refine blk_drew ?_ | refine blk_alloc ?_ _)); refine blk_far ?_ NB117_142.out _; (with_reducible repeat (first | refine blk_drewN ?_ _ | refine blk_drew ?_ | refine blk_alloc ?_ _)); refine blk_far ?_ NB117_142.out _; (with_reducible repeat (first | refine blk_drewN ?_ _ | refine blk_drew ?_ | refine blk_alloc ?_ _)); exact BK117.out⟩, ⟨by (with_reducible repeat (first | refine blk_drewN ?_ _ | refine blk_drew ?_ | refine blk_alloc ?_ _)); refine blk_far ?_ NB127_142.out _; (with_reducible repeat (first | refine blk_drewN ?_ _ | refine blk_drew ?_ | refine blk_alloc ?_ _)); refine blk_far ?_ NB127_142.out _; (with_reducible repeat (first | refine blk_drewN ?_ _ | refine blk_drew ?_ | refine blk_alloc ?_ _)); exact BK127.out⟩, ⟨by (with_reducible repeat (first | refine blk_drewN ?_ _ | refine blk_drew ?_ | refine blk_alloc ?_ _)); refine blk_put (cs := #[.slice Ao40 t137.length co40, .int .i64 0]) ?_ 1 _ rfl; (with_reducible repeat (first | refine blk_drewN ?_ _ | refine blk_drew ?_ | refine blk_alloc ?_ _)); refine blk_put (cs := #[.slice none 0 0, .int .i64 0]) ?_ 0 _ rfl; (with_reducible repeat (first | refine blk_drewN ?_ _ | refine blk_drew ?_ | refine blk_alloc ?_ _)); exact BK142.out⟩, ⟨hB4 HB.out (IsS56.ge HI105.out) GE117.out GE127.out GE142.out⟩⟩
      ·rw [if_neg c47] at H
       have c47b0 : (t134 == 0) = false := beq_eq_false_iff_ne.mpr c47
       have c47b1 : (t134 != 0) = true := bne_iff_ne.mpr c47
       have H' := Aside0.mk H
       clear H
       go_wp2
       go_meet
       case rel => exact ⟨_, (false), rS, H', ⟨by first | omega | exact Nat.le_refl _⟩, ⟨by (with_reducible repeat (first | apply Kd.R_alloc | apply Kd.R_drewN | apply Kd.R_drew)); exact Kd.R_mono (Kd.R_far (p := ⟨gb142, 1, none⟩) (Kd.R_far (p := ⟨gb142, 0, none⟩) (Kd.R_types HO110.out BK142.out (by decide)) (fun _ hk => hk.2) (.slice Ao40 t137.length co40)) (fun _ hk => hk.2) (.int .i64 t140)) (fun _ hk => ⟨hk.1.1.2, hk.1.2⟩)⟩, ⟨by (with_reducible repeat (first | apply Kd.R_alloc | apply Kd.R_drewN | apply Kd.R_drew)); exact Kd.R_mono (Kd.R_far (p := ⟨gb142, 1, none⟩) (Kd.R_far (p := ⟨gb142, 0, none⟩) (Kd.R_types HO130.out BK142.out (by decide)) (fun _ hk => hk.2) (.slice Ao40 t137.length co40)) (fun _ hk => hk.2) (.int .i64 t140)) (fun _ hk => ⟨hk.1.1.1.2, hk.1.2⟩)⟩, ⟨by (with_reducible repeat (first | apply Kd.R_alloc | apply Kd.R_drewN | apply Kd.R_drew)); exact Kd.R_mono (Kd.R_far (p := ⟨gb142, 1, none⟩) (Kd.R_far (p := ⟨gb142, 0, none⟩) (Kd.R_types HO139.out BK142.out (by decide)) (fun _ hk => hk.2) (.slice Ao40 t137.length co40)) (fun _ hk => hk.2) (.int .i64 t140)) (fun _ hk => ⟨hk.1.1.1.2, hk.1.2⟩)⟩, ⟨by (with_reducible repeat (first | refine blk_drewN ?_ _ | refine blk_drew ?_ | refine blk_alloc ?_ _)); refine blk_far ?_ NB117_142.out _; (with_reducible repeat (first | refine blk_drewN ?_ _ | refine blk_drew ?_ | refine blk_alloc ?_ _)); refine blk_far ?_ NB117_142.out _; (with_reducible repeat (first | refine blk_drewN ?_ _ | refine blk_drew ?_ | refine blk_alloc ?_ _)); exact BK117.out⟩, ⟨by (with_reducible repeat (first | refine blk_drewN ?_ _ | refine blk_drew ?_ | refine blk_alloc ?_ _)); refine blk_far ?_ NB127_142.out _; (with_reducible repeat (first | refine blk_drewN ?_ _ | refine blk_drew ?_ | refine blk_alloc ?_ _)); refine blk_far ?_ NB127_142.out _; (with_reducible repeat (first | refine blk_drewN ?_ _ | refine blk_drew ?_ | refine blk_alloc ?_ _)); exact BK127.out⟩, ⟨by (with_reducible repeat (first | refine blk_drewN ?_ _ | refine blk_drew ?_ | refine blk_alloc ?_ _)); refine blk_put (cs := #[.slice Ao40 t137.length co40, .int .i64 0]) ?_ 1 _ rfl; (with_reducible repeat (first | refine blk_drewN ?_ _ | refine blk_drew ?_ | refine blk_alloc ?_ _)); refine blk_put (cs := #[.slice none 0 0, .int .i64 0]) ?_ 0 _ rfl; (with_reducible repeat (first | refine blk_drewN ?_ _ | refine blk_drew ?_ | refine blk_alloc ?_ _)); exact BK142.out⟩, ⟨hB4 HB.out (IsS56.ge HI105.out) GE117.out GE127.out GE142.out⟩⟩
     ·rw [if_neg c46] at H
      have c46b0 : (t132 == 0) = false := beq_eq_false_iff_ne.mpr c46
      have c46b1 : (t132 != 0) = true := bne_iff_ne.mpr c46
      have H' := Aside0.mk H
      clear H
      go_wp2
      go_meet
      case rel => exact ⟨_, (false), rS, H', ⟨by first | omega | exact Nat.le_refl _⟩, ⟨by (with_reducible repeat (first | apply Kd.R_alloc | apply Kd.R_drewN | apply Kd.R_drew)); exact Kd.R_mono (Kd.R_far (p := ⟨gb142, 1, none⟩) (Kd.R_far (p := ⟨gb142, 0, none⟩) (Kd.R_types HO110.out BK142.out (by decide)) (fun _ hk => hk.2) (.slice Ao40 t137.length co40)) (fun _ hk => hk.2) (.int .i64 t140)) (fun _ hk => ⟨hk.1.1.2, hk.1.2⟩)⟩, ⟨by (with_reducible repeat (first | apply Kd.R_alloc | apply Kd.R_drewN | apply Kd.R_drew)); exact Kd.R_mono (Kd.R_far (p := ⟨gb142, 1, none⟩) (Kd.R_far (p := ⟨gb142, 0, none⟩) (Kd.R_types HO130.out BK142.out (by decide)) (fun _ hk => hk.2) (.slice Ao40 t137.length co40)) (fun _ hk => hk.2) (.int .i64 t140)) (fun _ hk => ⟨hk.1.1.1.2, hk.1.2⟩)⟩, ⟨by (with_reducible repeat (first | apply Kd.R_alloc | apply Kd.R_drewN | apply Kd.R_drew)); exact Kd.R_mono (Kd.R_far (p := ⟨gb142, 1, none⟩) (Kd.R_far (p := ⟨gb142, 0, none⟩) (Kd.R_types HO139.out BK142.out (by decide)) (fun _ hk => hk.2) (.slice Ao40 t137.length co40)) (fun _ hk => hk.2) (.int .i64 t140)) (fun _ hk => ⟨hk.1.1.1.2, hk.1.2⟩)⟩, ⟨by (with_reducible repeat (first | refine blk_drewN ?_ _ | refine blk_drew ?_ | refine blk_alloc ?_ _)); refine blk_far ?_ NB117_142.out _; (with_reducible repeat (first | refine blk_drewN ?_ _ | refine blk_drew ?_ | refine blk_alloc ?_ _)); refine blk_far ?_ NB117_142.out _; (with_reducible repeat (first | refine blk_drewN ?_ _ | refine blk_drew ?_ | refine blk_alloc ?_ _)); exact BK117.out⟩, ⟨by (with_reducible repeat (first | refine blk_drewN ?_ _ | refine blk_drew ?_ | refine blk_alloc ?_ _)); refine blk_far ?_ NB127_142.out _; (with_reducible repeat (first | refine blk_drewN ?_ _ | refine blk_drew ?_ | refine blk_alloc ?_ _)); refine blk_far ?_ NB127_142.out _; (with_reducible repeat (first | refine blk_drewN ?_ _ | refine blk_drew ?_ | refine blk_alloc ?_ _)); exact BK127.out⟩, ⟨by (with_reducible repeat (first | refine blk_drewN ?_ _ | refine blk_drew ?_ | refine blk_alloc ?_ _)); refine blk_put (cs := #[.slice Ao40 t137.length co40, .int .i64 0]) ?_ 1 _ rfl; (with_reducible repeat (first | refine blk_drewN ?_ _ | refine blk_drew ?_ | refine blk_alloc ?_ _)); refine blk_put (cs := #[.slice none 0 0, .int .i64 0]) ?_ 0 _ rfl; (with_reducible repeat (first | refine blk_drewN ?_ _ | refine blk_drew ?_ | refine blk_alloc ?_ _)); exact BK142.out⟩, ⟨hB4 HB.out (IsS56.ge HI105.out) GE117.out GE127.out GE142.out⟩⟩
    ·rw [if_neg c45] at H
     have c45b0 : (t126 == 0) = false := beq_eq_false_iff_ne.mpr c45
     have c45b1 : (t126 != 0) = true := bne_iff_ne.mpr c45
     (first | rw [c45b0] | (simp only [i64_w, i32_w]; rw [c45b0]) | skip)
     have H' := Aside0.mk H
     clear H
     go_wp2
     go_meet
     case rel => exact ⟨_, (false), rS, H', ⟨by first | omega | exact Nat.le_refl _⟩, ⟨by (with_reducible repeat (first | apply Kd.R_alloc | apply Kd.R_drewN | apply Kd.R_drew)); exact Kd.R_mono (Kd.R_far (p := ⟨gb142, 1, none⟩) (Kd.R_far (p := ⟨gb142, 0, none⟩) (Kd.R_types HO110.out BK142.out (by decide)) (fun _ hk => hk.2) (.slice Ao40 t137.length co40)) (fun _ hk => hk.2) (.int .i64 t140)) (fun _ hk => ⟨hk.1.1.2, hk.1.2⟩)⟩, ⟨by (with_reducible repeat (first | apply Kd.R_alloc | apply Kd.R_drewN | apply Kd.R_drew)); exact Kd.R_mono (Kd.R_far (p := ⟨gb142, 1, none⟩) (Kd.R_far (p := ⟨gb142, 0, none⟩) (Kd.R_types HO130.out BK142.out (by decide)) (fun _ hk => hk.2) (.slice Ao40 t137.length co40)) (fun _ hk => hk.2) (.int .i64 t140)) (fun _ hk => ⟨hk.1.1.1.2, hk.1.2⟩)⟩, ⟨by (with_reducible repeat (first | apply Kd.R_alloc | apply Kd.R_drewN | apply Kd.R_drew)); exact Kd.R_mono (Kd.R_far (p := ⟨gb142, 1, none⟩) (Kd.R_far (p := ⟨gb142, 0, none⟩) (Kd.R_types HO139.out BK142.out (by decide)) (fun _ hk => hk.2) (.slice Ao40 t137.length co40)) (fun _ hk => hk.2) (.int .i64 t140)) (fun _ hk => ⟨hk.1.1.1.2, hk.1.2⟩)⟩, ⟨by (with_reducible repeat (first | refine blk_drewN ?_ _ | refine blk_drew ?_ | refine blk_alloc ?_ _)); refine blk_far ?_ NB117_142.out _; (with_reducible repeat (first | refine blk_drewN ?_ _ | refine blk_drew ?_ | refine blk_alloc ?_ _)); refine blk_far ?_ NB117_142.out _; (with_reducible repeat (first | refine blk_drewN ?_ _ | refine blk_drew ?_ | refine blk_alloc ?_ _)); exact BK117.out⟩, ⟨by (with_reducible repeat (first | refine blk_drewN ?_ _ | refine blk_drew ?_ | refine blk_alloc ?_ _)); refine blk_far ?_ NB127_142.out _; (with_reducible repeat (first | refine blk_drewN ?_ _ | refine blk_drew ?_ | refine blk_alloc ?_ _)); refine blk_far ?_ NB127_142.out _; (with_reducible repeat (first | refine blk_drewN ?_ _ | refine blk_drew ?_ | refine blk_alloc ?_ _)); exact BK127.out⟩, ⟨by (with_reducible repeat (first | refine blk_drewN ?_ _ | refine blk_drew ?_ | refine blk_alloc ?_ _)); refine blk_put (cs := #[.slice Ao40 t137.length co40, .int .i64 0]) ?_ 1 _ rfl; (with_reducible repeat (first | refine blk_drewN ?_ _ | refine blk_drew ?_ | refine blk_alloc ?_ _)); refine blk_put (cs := #[.slice none 0 0, .int .i64 0]) ?_ 0 _ rfl; (with_reducible repeat (first | refine blk_drewN ?_ _ | refine blk_drew ?_ | refine blk_alloc ?_ _)); exact BK142.out⟩, ⟨hB4 HB.out (IsS56.ge HI105.out) GE117.out GE127.out GE142.out⟩⟩
   case rest =>
    clear HC13
    try clear c3
    try clear hcz21_0
    try clear hcz21_1
    try clear hcz23_0
    try clear hcz23_1
    try clear hcz30_0
    try clear hcz30_1
    try clear hcz34_0
    try clear hcz34_1
    try clear hcz36_0
    try clear hcz36_1
    try clear hcz44_0
    try clear hcz44_1
    try clear hfz21_0
    try clear hfz21_1
    try clear hfz23_0
    try clear hfz23_1
    try clear hfz30_0
    try clear hfz30_1
    try clear hfz34_0
    try clear hfz34_1
    try clear hfz36_0
    try clear hfz36_1
    try clear hfz44_0
    try clear hfz44_1
    obtain ⟨kq, x2_12, rfl, HA, HJ12, HO_118000, HO_128000, HO_143000, BK117, BK127, BK142, HB⟩ := hcut
    cases kq with
    | zero => exact absurd HA.out (by simp [timeboundlaw11_FactTwice.j0])
    | succ kj12 =>
     have H := HA.out
     clear HA
     simp only [timeboundlaw11_FactTwice.j0] at H
     obtain rfl := Option.some.inj H
     go_wp2
     go_ret
     exact ⟨eW, hB3 HB.out GE117.out GE127.out GE142.out⟩
  ·replace c3 := Bool.eq_false_iff.mpr c3
   subst c3
   have H1 : ((timeboundlaw11_awake.f k).bind fun t102 => (some t102)) = some r := by rw [if_neg (show ¬ (false = true) by decide)] at H; exact H
   clear H
   have H := H1
   clear H1
   replace H := Option.bind_eq_some_iff.mp H
   obtain ⟨t102, A690, H⟩ := H
   replace H : (some t102) = some r := H
   have A69 := Aside0.mk A690
   clear A690
   obtain rfl := Option.some.inj H
   go_enter Try.func6, Try.ntmps6
   go_wp2_with (first | ((with_reducible refine gate_callee (f := 8) rfl ?_); refine goesL_ (some 16) rfl rfl Try.func8 (by kernel_rfl) rfl #[.slice A0 l0.length c0] rfl aM ?_; (with_reducible refine (timeboundmake_Few.calls _ _ l0 false _ ?side1 ?side2 A2.out).mono ?_); (case side1 => exact cK HR0.out); (case side2 => exact HC0.out); rintro e w' ⟨rfl, ⟨nd, rfl⟩⟩; refine ⟨_, rfl, ?_⟩) | ((with_reducible refine gate_callee (f := 9) rfl ?_); refine goesL_ (some 18) rfl rfl Try.func9 (by kernel_rfl) rfl #[] rfl aM ?_; (with_reducible refine (timeboundlaw11_awake.calls k  t102 _ A69.out).mono ?_); rintro e w70 ⟨rfl, hb⟩; refine ⟨_, rfl, ?_⟩; have n0_ := Aside0.mk (below_step (hB0 HB.out) hb); clear HB; have HB := n0_; clear n0_; (try clear hb)))
   go_ret
   exact ⟨eW, hB0 HB.out⟩
def timeboundlaw11_FactTwice.Pure : Prop := ∀ (l0 : List Int), l0.length ≤ maxLen → l0.length * 8 ≤ 140737488351232 → (∀ x ∈ l0, (Lit.int .i64 x).wf = true) → ∃ k, timeboundlaw11_FactTwice.f k l0 = some true
theorem timeboundlaw11_FactTwice.walk (P : timeboundlaw11_FactTwice.Pure) (a0 : Option Addr) (len0 cap0 : Nat) (z0 : List Int) (w : World) (w0 : (a0 = none ∧ len0 = 0 ∧ cap0 = 0 ∧ z0 = []) ∨ ∃ x, a0 = some x ∧ len0 ≤ cap0 ∧ cap0 ≤ maxLen ∧ z0.length = cap0 ∧ (∀ i, i < z0.length → w.cell? (x.add i) = some (.int .i64 (z0.getD i 0))) ∧ ∀ n ∈ z0, (Lit.int .i64 n).wf = true) (y0 : len0 * 8 ≤ 140737488351232) :
   Calls Try.prog 6 #[.slice a0 len0 cap0] w fun e w' => e = .returned (.bool true) ∧ Below w.heap.size w w' := by
  obtain ⟨l0, rfl, hr0, hm0, hw0, hc0⟩ := ReadsInt.ofRowC w0
  obtain ⟨k, h⟩ := P l0 hm0 y0 hw0
  refine (timeboundlaw11_FactTwice.calls k _ _ l0 true w (Kd.C_of_reads (d := (0 : Int)) (h1 := fun _ => rfl) hr0) hc0 h).mono ?_
  rintro e w' ⟨rfl, hd⟩
  exact ⟨rfl, hd⟩
end Go.Proofs.Ytikpfbfeoifmkaa.X
end
section
namespace Go.Proofs.Ytikpfbfeoifmkaa.Z
open Go.RowKit Go.Proofs.Ytikpfbfeoifmkaa.X Go.Proofs.YtikpfbfeoifmkaaW.PrintWords Go.Proofs.YtikpfbfeoifmkaaW.PrintLast
set_option linter.unusedVariables false
section
variable {α β : Type} {f g : Nat → Option α} {r : α}
theorem evp {c : Prop} [Decidable c] (h : c) (k : Ev f r) : Ev (fun n => if c then f n else g n) r := by
  simpa only [if_pos h] using k
theorem evn {c : Prop} [Decidable c] (h : ¬ c) (k : Ev g r) : Ev (fun n => if c then f n else g n) r := by
  simpa only [if_neg h] using k
theorem evs {a : β} {f : Nat → β → Option α} (k : Ev (fun n => f n a) r) : Ev (fun n => (some a).bind (f n)) r := by
  simpa only [Option.bind_some] using k
theorem evb {g : Nat → Option β} {f : Nat → β → Option α} {a : β} (h : Ev g a) (k : Ev (fun n => f n a) r) : Ev (fun n => (g n).bind (f n)) r := Ev.bind h k
theorem evr (r : α) : Ev (fun _ => some r) r := Ev.now r
theorem evr' {r s : α} (h : s = r) : Ev (fun _ => some s) r := h ▸ Ev.now r
theorem evc {f g : Nat → Option α} (h : ∀ k, g k = f k) (k : Ev f r) : Ev g r := Ev.congr h k
end
theorem w64 {n : Int} (h0 : -9223372036854775808 ≤ n) (h1 : n < 9223372036854775808) : wrap64 n = n := by
  unfold wrap64
  omega
theorem half {i j : Int} (h0 : 0 ≤ i) (h1 : 0 ≤ j) (h2 : i + j < 4611686018427387904) : wrap64 (IntKind.u64.wrap (wrap64 (i + j)) / 2) = (i + j) / 2 := by
  rw [w64 (n := i + j) (by omega) (by omega)]
  have : IntKind.u64.wrap (i + j) = i + j := by
   simp [IntKind.wrap, IntKind.signed, IntKind.bits]
   omega
  rw [this, w64 (by omega) (by omega)]
def gd (l : List S44) (i : Nat) : S44 := l.getD i z44
theorem rd_gd (l : List S44) (i : Nat) : rd_T44 l (i : Int) = gd l i := by simp [rd_T44, gd]
theorem gd_lt {l : List S44} {i : Nat} (h : i < l.length) : gd l i = l[i] := by
  simp [gd, h]
theorem gd_ge {l : List S44} {i : Nat} (h : l.length ≤ i) : gd l i = z44 := by
  simp [gd, List.getD_eq_getElem?_getD, h]
theorem gd_set {l : List S44} {i : Nat} (x : S44) (j : Nat) (h : i < l.length) : gd (l.set i x) j = if i = j then x else gd l j := by
  simp only [gd, List.getD_eq_getElem?_getD, List.getElem?_set]
  split
  ·simp [h]
  ·rfl
def sw (l : List S44) (i j : Nat) : List S44 := (l.set i (gd l j)).set j (gd l i)
theorem sw_length (l : List S44) (i j : Nat) : (sw l i j).length = l.length := by simp [sw]
theorem gd_sw {l : List S44} {i j : Nat} (hi : i < l.length) (hj : j < l.length) (p : Nat) : gd (sw l i j) p = if j = p then gd l i else if i = p then gd l j else gd l p := by
  unfold sw
  rw [gd_set _ _ (by simpa using hj)]
  split
  ·rfl
  ·rw [gd_set _ _ hi]
theorem sw_perm {l : List S44} {i j : Nat} (hi : i < l.length) (hj : j < l.length) : (sw l i j).Perm l := by
  unfold sw
  rw [gd_lt hi, gd_lt hj]
  exact List.set_set_perm hi hj
structure Shuf (a b : Nat) (l l' : List S44) : Prop where
  len : l'.length = l.length
  perm : l'.Perm l
  out : ∀ i, i < a ∨ b ≤ i → gd l' i = gd l i
theorem Shuf.refl (a b : Nat) (l : List S44) : Shuf a b l l := ⟨rfl, List.Perm.refl _, fun _ _ => rfl⟩
theorem Shuf.trans {a b : Nat} {l l1 l2 : List S44} (h : Shuf a b l l1) (k : Shuf a b l1 l2) : Shuf a b l l2 :=
  ⟨k.len.trans h.len, k.perm.trans h.perm, fun i hi => (k.out i hi).trans (h.out i hi)⟩
theorem Shuf.mono {a b a' b' : Nat} {l l1 : List S44} (h : Shuf a b l l1) (ha : a' ≤ a) (hb : b ≤ b') : Shuf a' b' l l1 :=
  ⟨h.len, h.perm, fun i hi => h.out i (by omega)⟩
theorem Shuf.sw {a b i j : Nat} {l : List S44} (hi : a ≤ i ∧ i < b) (hj : a ≤ j ∧ j < b) (hb : b ≤ l.length) : Shuf a b l (sw l i j) :=
  ⟨sw_length _ _ _, sw_perm (by omega) (by omega), fun p hp => by rw [gd_sw (by omega) (by omega), if_neg (by omega), if_neg (by omega)]⟩
theorem take_eq_of {l l' : List S44} (hl : l'.length = l.length) {a : Nat} (h : ∀ i, i < a → gd l' i = gd l i) : l'.take a = l.take a := by
  apply List.ext_getElem (by simp [hl])
  intro i h1 h2
  simp only [List.length_take] at h1 h2
  rw [List.getElem_take, List.getElem_take, ← gd_lt, ← gd_lt, h i (by omega)]
theorem drop_eq_of {l l' : List S44} (hl : l'.length = l.length) {b : Nat} (h : ∀ i, b ≤ i → gd l' i = gd l i) : l'.drop b = l.drop b := by
  apply List.ext_getElem (by simp [hl])
  intro i h1 h2
  simp only [List.length_drop] at h1 h2
  rw [List.getElem_drop, List.getElem_drop, ← gd_lt, ← gd_lt, h (b + i) (by omega)]
theorem Shuf.seg {a b : Nat} {l l' : List S44} (h : Shuf a b l l') (hab : a ≤ b) : ((l'.take b).drop a).Perm ((l.take b).drop a) := by
  have e : ∀ x : List S44, x = (x.take a ++ (x.take b).drop a) ++ x.drop b := by
   intro x
   have : x.take a = (x.take b).take a := by rw [List.take_take, Nat.min_eq_left hab]
   rw [this, List.take_append_drop, List.take_append_drop]
  have hp := h.perm
  rw [e l', e l, take_eq_of h.len (fun i hi => h.out i (Or.inl hi)), drop_eq_of h.len (fun i hi => h.out i (Or.inr hi))] at hp
  rw [List.perm_append_right_iff] at hp
  rw [List.perm_append_left_iff] at hp
  exact hp
theorem mem_seg {l : List S44} {a b : Nat} (hb : b ≤ l.length) {x : S44} : x ∈ (l.take b).drop a ↔ ∃ i, a ≤ i ∧ i < b ∧ gd l i = x := by
  constructor
  ·intro h
   obtain ⟨i, hi, rfl⟩ := List.mem_iff_getElem.1 h
   simp only [List.length_drop, List.length_take] at hi
   refine ⟨a + i, by omega, by omega, ?_⟩
   rw [List.getElem_drop, List.getElem_take, gd_lt (by omega)]
  ·rintro ⟨i, h0, h1, rfl⟩
   rw [List.mem_iff_getElem]
   refine ⟨i - a, by simp only [List.length_drop, List.length_take]; omega, ?_⟩
   rw [List.getElem_drop, List.getElem_take, gd_lt (by omega)]
   congr 1
   omega
theorem Shuf.range {a b : Nat} {l l' : List S44} (h : Shuf a b l l') (hb : b ≤ l.length) {P : S44 → Prop} (hP : ∀ i, a ≤ i → i < b → P (gd l i)) : ∀ i, a ≤ i → i < b → P (gd l' i) := by
  intro i h0 h1
  have hm : gd l' i ∈ (l'.take b).drop a := (mem_seg (by rw [h.len]; exact hb)).2 ⟨i, h0, h1, rfl⟩
  rw [(h.seg (by omega)).mem_iff, mem_seg hb] at hm
  obtain ⟨j, h2, h3, e⟩ := hm
  rw [← e]
  exact hP j h2 h3
def K (l : List S44) (i : Nat) : Int := (gd l i).f0
def Bd (l : List S44) : Prop := ∀ i, 0 ≤ K l i ∧ K l i ≤ 255
theorem Bd.of_mem {l : List S44} (h : ∀ t ∈ l, 0 ≤ t.f0 ∧ t.f0 ≤ 255) : Bd l := by
  intro i
  unfold K
  by_cases hi : i < l.length
  ·rw [gd_lt hi]
   exact h _ (by simp)
  ·rw [gd_ge (by omega)]
   simp [z44]
theorem Bd.mem {l : List S44} (h : Bd l) : ∀ t ∈ l, 0 ≤ t.f0 ∧ t.f0 ≤ 255 := by
  intro t ht
  obtain ⟨i, hi, rfl⟩ := List.mem_iff_getElem.1 ht
  have := h i
  unfold K at this
  rwa [gd_lt hi] at this
theorem Bd.perm {l l' : List S44} (h : Bd l) (hp : l'.Perm l) : Bd l' := Bd.of_mem fun t ht => h.mem t (hp.mem_iff.1 ht)
def Srt (l : List S44) (a b : Nat) : Prop := ∀ i j, a ≤ i → i ≤ j → j < b → K l i ≤ K l j
theorem Srt.mono {l : List S44} {a b a' b' : Nat} (h : Srt l a b) (ha : a ≤ a') (hb : b' ≤ b) : Srt l a' b' := fun i j h0 h1 h2 => h i j (by omega) h1 (by omega)
theorem Srt.small {l : List S44} {a b : Nat} (h : b ≤ a + 1) : Srt l a b := fun i j h0 h1 h2 => by
  obtain rfl : i = j := by omega
  exact Int.le_refl _
theorem Srt.cong {l l' : List S44} {a b : Nat} (h : Srt l a b) (e : ∀ i, a ≤ i → i < b → gd l' i = gd l i) : Srt l' a b := fun i j h0 h1 h2 => by
  unfold K
  rw [e i h0 (by omega), e j (by omega) h2]
  exact h i j h0 h1 h2
theorem Shuf.srt {l l' : List S44} {a b c d : Nat} (h : Shuf a b l l') (k : Srt l c d) (hd : d ≤ a ∨ b ≤ c) : Srt l' c d := k.cong fun i h0 h1 => h.out i (by omega)
theorem cmp_ {l : List S44} (h : Bd l) (i j : Nat) (x y : Int) : fact_gather_1.f (gd l i).f0 x (gd l j).f0 y = some (K l i - K l j) := by
  have h1 := h i
  have h2 := h j
  unfold fact_gather_1.f
  unfold K at *
  rw [w64 (by omega) (by omega)]
end Go.Proofs.Ytikpfbfeoifmkaa.Z
end
section
namespace Go.Proofs.Ytikpfbfeoifmkaa.Z
open Go.RowKit Go.Proofs.Ytikpfbfeoifmkaa.X Go.Proofs.YtikpfbfeoifmkaaW.PrintWords Go.Proofs.YtikpfbfeoifmkaaW.PrintLast
set_option linter.unusedVariables false
set_option linter.unusedSimpArgs false
def cf : List S44 → Int → Int
  | [], _ => 0
  | t :: l, b => (if t.f0 = b then t.f1 else 0) + cf l b
def wsum : List S44 → (Int → Int) → Int
  | [], _ => 0
  | t :: l, w => t.f1 * w t.f0 + wsum l w
theorem cf_append (l l' : List S44) (b : Int) : cf (l ++ l') b = cf l b + cf l' b := by
  induction l with
  | nil => simp [cf]
  | cons t l ih => simp only [List.cons_append, cf, ih]; omega
theorem wsum_append (l l' : List S44) (w : Int → Int) : wsum (l ++ l') w = wsum l w + wsum l' w := by
  induction l with
  | nil => simp [wsum]
  | cons t l ih => simp only [List.cons_append, wsum, ih]; omega
theorem cf_perm {l l' : List S44} (h : l.Perm l') (b : Int) : cf l b = cf l' b := by
  induction h with
  | nil => rfl
  | cons x _ ih => simp only [cf, ih]
  | swap x y l => simp only [cf]; omega
  | trans _ _ ih1 ih2 => exact ih1.trans ih2
theorem cf_single (t : S44) (b : Int) : cf [t] b = if t.f0 = b then t.f1 else 0 := by simp [cf]
theorem cf_none {l : List S44} {b : Int} (h : ∀ t ∈ l, t.f0 ≠ b) : cf l b = 0 := by
  induction l with
  | nil => rfl
  | cons t l ih =>
   have h1 := h t (by simp)
   simp only [cf, if_neg h1, ih (fun x hx => h x (by simp [hx]))]
   rfl
theorem cf_filter_nz (l : List S44) (b : Int) : cf (l.filter fun t => !(t.f1 == 0)) b = cf l b := by
  induction l with
  | nil => rfl
  | cons t l ih =>
   rw [List.filter_cons]
   by_cases h : t.f1 = 0
   ·simp [h, cf, ih]
   ·simp [h, cf, ih]
theorem wsum_split (l : List S44) (w : Int → Int) (b : Int) : wsum l w = cf l b * w b + wsum (l.filter fun t => !(t.f0 == b)) w := by
  induction l with
  | nil => simp [wsum, cf]
  | cons t l ih =>
   rw [List.filter_cons]
   by_cases h : t.f0 = b
   ·simp only [wsum, cf, h, if_true, ih, beq_self_eq_true, Bool.not_true, Bool.false_eq_true, if_false, Int.add_mul]
    omega
   ·have h2 : (!(t.f0 == b)) = true := by simp [h]
    simp only [wsum, cf, if_neg h, h2, if_true, ih, Int.zero_add]
    omega
theorem cf_filter_ne (l : List S44) (b c : Int) : cf (l.filter fun t => !(t.f0 == b)) c = if c = b then 0 else cf l c := by
  induction l with
  | nil => simp [cf]
  | cons t l ih =>
   rw [List.filter_cons]
   by_cases h : t.f0 = b
   ·simp only [h, beq_self_eq_true, Bool.not_true, Bool.false_eq_true, if_false, ih, cf]
    by_cases hc : c = b
    ·rw [if_pos hc, if_pos hc]
    ·rw [if_neg hc, if_neg hc, if_neg (fun e => hc e.symm)]
     omega
   ·have h2 : (!(t.f0 == b)) = true := by simp [h]
    simp only [h2, if_true, cf, ih]
    by_cases hc : c = b
    ·subst hc
     rw [if_neg h, if_pos rfl, if_pos rfl]
     rfl
    ·rw [if_neg hc, if_neg hc]
theorem wsum_zero (w : Int → Int) : ∀ (n : Nat) (l : List S44), l.length ≤ n → (∀ b, cf l b = 0) → wsum l w = 0 := by
  intro n
  induction n with
  | zero =>
   intro l hl _
   obtain rfl : l = [] := List.eq_nil_of_length_eq_zero (by omega)
   rfl
  | succ n ih =>
   intro l hl h
   cases l with
   | nil => rfl
   | cons t l =>
    rw [wsum_split _ w t.f0, h t.f0, ih]
    ·simp
    ·rw [List.filter_cons]
     simp only [beq_self_eq_true, Bool.not_true, Bool.false_eq_true, if_false]
     have := List.length_filter_le (fun x : S44 => !(x.f0 == t.f0)) l
     simp only [List.length_cons] at hl
     omega
    ·intro c
     rw [cf_filter_ne, h c]
     split <;> rfl
def neg (l : List S44) : List S44 := l.map fun t => ⟨t.f0, -t.f1⟩
theorem cf_neg (l : List S44) (b : Int) : cf (neg l) b = - cf l b := by
  induction l with
  | nil => rfl
  | cons t l ih =>
   unfold neg at ih
   simp only [neg, List.map_cons, cf, ih]
   split <;> omega
theorem wsum_neg (l : List S44) (w : Int → Int) : wsum (neg l) w = - wsum l w := by
  induction l with
  | nil => rfl
  | cons t l ih =>
   unfold neg at ih
   simp only [neg, List.map_cons, wsum, ih, Int.neg_mul]
   omega
theorem wsum_of_cf {l l' : List S44} (h : ∀ b, cf l b = cf l' b) (w : Int → Int) : wsum l w = wsum l' w := by
  have := wsum_zero w _ (l ++ neg l') (Nat.le_refl _) (fun b => by rw [cf_append, cf_neg, h b]; omega)
  rw [wsum_append, wsum_neg] at this
  omega
theorem cf_wsum (l : List S44) (b : Int) : cf l b = wsum l (fun x => if x = b then 1 else 0) := by
  induction l with
  | nil => rfl
  | cons t l ih =>
   simp only [cf, wsum, ih]
   split <;> simp
structure Canon (r : List S44) (c : Int → Int) : Prop where
  inc : r.Pairwise fun x y => x.f0 < y.f0
  nz : ∀ t ∈ r, t.f1 ≠ 0
  sums : ∀ b, cf r b = c b
theorem cf_head {t : S44} {l : List S44} (h : (t :: l).Pairwise fun x y => x.f0 < y.f0) : cf (t :: l) t.f0 = t.f1 := by
  rw [List.pairwise_cons] at h
  simp only [cf, if_true]
  rw [cf_none (fun x hx => by have := h.1 x hx; omega)]
  omega
theorem cf_below {t : S44} {l : List S44} (h : (t :: l).Pairwise fun x y => x.f0 < y.f0) {b : Int} (hb : b < t.f0) : cf (t :: l) b = 0 := by
  rw [List.pairwise_cons] at h
  refine cf_none fun x hx => ?_
  rcases List.mem_cons.1 hx with rfl | hx
  ·omega
  ·have := h.1 x hx
   omega
theorem Canon.unique : ∀ {r r' : List S44} {c : Int → Int}, Canon r c → Canon r' c → r = r'
  | [], [], _, _, _ => rfl
  | [], t :: l, c, h, k => by
   have h1 := h.sums t.f0
   have h2 := k.sums t.f0
   rw [cf_head k.inc] at h2
   have h3 : cf [] t.f0 = 0 := rfl
   exact absurd (by omega : t.f1 = 0) (k.nz t (by simp))
  | t :: l, [], c, h, k => by
   have h1 := h.sums t.f0
   have h2 := k.sums t.f0
   rw [cf_head h.inc] at h1
   have h3 : cf [] t.f0 = 0 := rfl
   exact absurd (by omega : t.f1 = 0) (h.nz t (by simp))
  | t :: l, t' :: l', c, h, k => by
   have e0 : t.f0 = t'.f0 := by
    rcases Int.lt_trichotomy t.f0 t'.f0 with h1 | h1 | h1
    ·have g1 := h.sums t.f0
     have g2 := k.sums t.f0
     rw [cf_head h.inc] at g1
     rw [cf_below k.inc h1] at g2
     exact absurd (by omega : t.f1 = 0) (h.nz t (by simp))
    ·exact h1
    ·have g1 := h.sums t'.f0
     have g2 := k.sums t'.f0
     rw [cf_head k.inc] at g2
     rw [cf_below h.inc h1] at g1
     exact absurd (by omega : t'.f1 = 0) (k.nz t' (by simp))
   have e1 : t.f1 = t'.f1 := by
    have g1 := h.sums t.f0
    have g2 := k.sums t.f0
    rw [cf_head h.inc] at g1
    rw [e0, cf_head k.inc] at g2
    rw [e0] at g1
    omega
   obtain rfl : t = t' := by
    cases t; cases t'
    simp_all
   have hl : Canon l (cf l) := ⟨(List.pairwise_cons.1 h.inc).2, fun x hx => h.nz x (by simp [hx]), fun _ => rfl⟩
   have hl' : Canon l' (cf l) := ⟨(List.pairwise_cons.1 k.inc).2, fun x hx => k.nz x (by simp [hx]), fun b => by
    have g1 := h.sums b
    have g2 := k.sums b
    simp only [cf] at g1 g2
    omega⟩
   rw [Canon.unique hl hl']
theorem Canon.filter {r : List S44} {c : Int → Int} (h : r.Pairwise fun x y => x.f0 < y.f0) (hc : ∀ b, cf r b = c b) : Canon (r.filter fun t => !(t.f1 == 0)) c :=
  ⟨h.filter _, fun t ht => by simpa using (List.mem_filter.1 ht).2, fun b => by rw [cf_filter_nz, hc]⟩
end Go.Proofs.Ytikpfbfeoifmkaa.Z
end
section
namespace Go.Proofs.Ytikpfbfeoifmkaa.Z
open Go.RowKit Go.Proofs.Ytikpfbfeoifmkaa.X Go.Proofs.YtikpfbfeoifmkaaW.PrintWords Go.Proofs.YtikpfbfeoifmkaaW.PrintLast
set_option linter.unusedVariables false
set_option linter.unusedSimpArgs false
theorem K_sw {l : List S44} {i j : Nat} (hi : i < l.length) (hj : j < l.length) (p : Nat) : K (sw l i j) p = if j = p then K l i else if i = p then K l j else K l p := by
  unfold K
  rw [gd_sw hi hj]
  split
  ·rfl
  ·split <;> rfl
theorem ins_l1 (a b i n : Nat) (hib : i < b) (hbn : b ≤ n) (hn : n < 1152921504606846976)
   (next : ∀ l : List S44, l.length = n → Bd l → Srt l a (i + 1) → ∃ r, Ev (fun k => api_Term_59_at52.l0 k l a b ((i + 1 : Nat) : Int)) r ∧ Shuf a b l r ∧ Srt r a b) :
   ∀ (j : Nat) (l : List S44), l.length = n → Bd l → a ≤ j → j ≤ i → (∀ p q, a ≤ p → p ≤ q → q ≤ i → q ≠ j → K l p ≤ K l q) →
    ∃ r, Ev (fun k => api_Term_59_at52.l1 k l a b (i : Int) (j : Int)) r ∧ Shuf a b l r ∧ Srt r a b := by
  have hw1 : wrap64 ((i : Int) + 1) = ((i + 1 : Nat) : Int) := by rw [w64] <;> omega
  intro j
  induction j with
  | zero =>
   intro l hl hB ha hj hs
   have hS : Srt l a (i + 1) := by
    intro p q h0 h1 h2
    by_cases hq : q = 0
    ·have : p = q := by omega
     rw [this]
     exact Int.le_refl _
    ·exact hs p q h0 h1 (by omega) hq
   obtain ⟨r, hr, h1, h2⟩ := next l hl hB hS
   refine ⟨r, ?_, h1, h2⟩
   refine Ev.step (fun k => by rw [api_Term_59_at52.l1]) ?_
   refine evn (by omega) ?_
   rw [hw1]
   exact hr
  | succ j ih =>
   intro l hl hB ha hj hs
   by_cases haj : a = j + 1
   ·have hS : Srt l a (i + 1) := by
     intro p q h0 h1 h2
     by_cases hq : q = j + 1
     ·have : p = q := by omega
      rw [this]
      exact Int.le_refl _
     ·exact hs p q h0 h1 (by omega) hq
    obtain ⟨r, hr, h1, h2⟩ := next l hl hB hS
    refine ⟨r, ?_, h1, h2⟩
    refine Ev.step (fun k => by rw [api_Term_59_at52.l1]) ?_
    refine evn (by omega) ?_
    rw [hw1]
    exact hr
   ·have hw2 : wrap64 (((j + 1 : Nat) : Int) - 1) = (j : Int) := by rw [w64] <;> omega
    have hc := cmp_ hB (j + 1) j (gd l (j + 1)).f1 (gd l j).f1
    by_cases hlt : K l (j + 1) - K l j < 0
    ·have hj1 : j + 1 < l.length := by omega
     have hj0 : j < l.length := by omega
     obtain ⟨r, hr, h1, h2⟩ := ih (sw l (j + 1) j) (by rw [sw_length]; exact hl) (hB.perm (sw_perm hj1 hj0)) (by omega) (by omega) (by
      intro p q h0 h1 h2 h3
      rw [K_sw hj1 hj0, K_sw hj1 hj0]
      by_cases e1 : j + 1 = q
      ·subst e1
       rw [if_neg (show ¬ j = j + 1 by omega), if_pos rfl]
       by_cases e2 : j = p
       ·rw [if_pos e2]; omega
       ·rw [if_neg e2]
        by_cases e3 : j + 1 = p
        ·rw [if_pos e3]; exact Int.le_refl _
        ·rw [if_neg e3]; exact hs p j h0 (by omega) (by omega) (by omega)
      ·rw [if_neg (show ¬ j = q by omega), if_neg e1]
       by_cases e2 : j = p
       ·rw [if_pos e2]; exact hs (j + 1) q (by omega) (by omega) h2 (by omega)
       ·rw [if_neg e2]
        by_cases e3 : j + 1 = p
        ·rw [if_pos e3]; exact hs j q (by omega) (by omega) h2 (by omega)
        ·rw [if_neg e3]; exact hs p q h0 h1 h2 (by omega))
     refine ⟨r, ?_, (Shuf.sw (by omega) (by omega) (by omega)).trans h1, h2⟩
     refine Ev.step (fun k => by rw [api_Term_59_at52.l1]) ?_
     refine evp (by omega) (evp (by omega) (evp (by omega) ?_))
     rw [hw2]
     refine evp (by omega) (evp (by omega) ?_)
     rw [rd_gd, rd_gd, hc]
     refine evs (evp hlt ?_)
     exact hr
    ·have hS : Srt l a (i + 1) := by
      intro p q h0 h1 h2
      by_cases hq : q = j + 1
      ·subst hq
       by_cases hp : p = j + 1
       ·rw [hp]; exact Int.le_refl _
       ·have := hs p j h0 (by omega) (by omega) (by omega)
        omega
      ·exact hs p q h0 h1 (by omega) hq
     obtain ⟨r, hr, h1, h2⟩ := next l hl hB hS
     refine ⟨r, ?_, h1, h2⟩
     refine Ev.step (fun k => by rw [api_Term_59_at52.l1]) ?_
     refine evp (by omega) (evp (by omega) (evp (by omega) ?_))
     rw [hw2]
     refine evp (by omega) (evp (by omega) ?_)
     rw [rd_gd, rd_gd, hc]
     refine evs (evn hlt ?_)
     rw [hw1]
     exact hr
theorem ins_l0 (a b n : Nat) (hbn : b ≤ n) (hn : n < 1152921504606846976) (d : Nat) : ∀ (i : Nat) (l : List S44), b - i = d → a < i → l.length = n → Bd l → Srt l a (min i b) →
   ∃ r, Ev (fun k => api_Term_59_at52.l0 k l a b (i : Int)) r ∧ Shuf a b l r ∧ Srt r a b := by
  induction d with
  | zero =>
   intro i l hd hai hl hB hs
   refine ⟨l, Ev.step (fun k => by rw [api_Term_59_at52.l0]) (evn (by omega) (evr _)), Shuf.refl _ _ _, ?_⟩
   rwa [Nat.min_eq_right (by omega)] at hs
  | succ d ih =>
   intro i l hd hai hl hB hs
   rw [Nat.min_eq_left (by omega)] at hs
   obtain ⟨r, hr, h1, h2⟩ := ins_l1 a b i n (by omega) hbn hn (fun l hl hB hs => ih (i + 1) l (by omega) (by omega) hl hB (hs.mono (Nat.le_refl _) (by omega))) i l hl hB (by omega) (Nat.le_refl _)
    (fun p q h0 h1 h2 h3 => hs p q h0 h1 (by omega))
   exact ⟨r, Ev.step (fun k => by rw [api_Term_59_at52.l0]) (evp (by omega) hr), h1, h2⟩
theorem ins_sorts (a b n : Nat) (l : List S44) (hab : a ≤ b) (hbn : b ≤ n) (hn : n < 1152921504606846976) (hl : l.length = n) (hB : Bd l) :
   ∃ r, Ev (fun k => api_Term_59_at52.f k l a b) r ∧ Shuf a b l r ∧ Srt r a b := by
  have hw1 : wrap64 ((a : Int) + 1) = ((a + 1 : Nat) : Int) := by rw [w64] <;> omega
  obtain ⟨r, hr, h⟩ := ins_l0 a b n hbn hn _ (a + 1) l rfl (by omega) hl hB (Srt.small (by omega))
  refine ⟨r, ?_, h⟩
  unfold api_Term_59_at52.f
  rw [hw1]
  exact hr
end Go.Proofs.Ytikpfbfeoifmkaa.Z
end
section
namespace Go.Proofs.Ytikpfbfeoifmkaa.Z
open Go.RowKit Go.Proofs.Ytikpfbfeoifmkaa.X Go.Proofs.YtikpfbfeoifmkaaW.PrintWords Go.Proofs.YtikpfbfeoifmkaaW.PrintLast
set_option linter.unusedVariables false
set_option linter.unusedSimpArgs false
theorem swr_l0 (a b m N : Nat) (hab : a + m ≤ b) (hb : b + m ≤ N) (hN : N < 1152921504606846976) (d : Nat) : ∀ (i : Nat) (l : List S44), m - i = d → i ≤ m → l.length = N →
   ∃ r, Ev (fun k => api_Term_62_at52.l0 k l a b m (i : Int)) r ∧ r.length = N ∧ r.Perm l ∧
    ∀ p, gd r p = if a + i ≤ p ∧ p < a + m then gd l (p - a + b) else if b + i ≤ p ∧ p < b + m then gd l (p - b + a) else gd l p := by
  induction d with
  | zero =>
   intro i l hd hi hl
   refine ⟨l, ?_, hl, List.Perm.refl _, fun p => ?_⟩
   ·refine Ev.step (fun k => by rw [api_Term_62_at52.l0]) ?_
    exact evn (by omega) (evr _)
   ·rw [if_neg (by omega), if_neg (by omega)]
  | succ d ih =>
   intro i l hd hi hl
   have h1 : a + i < l.length := by omega
   have h2 : b + i < l.length := by omega
   obtain ⟨r, hr, hrl, hp, hg⟩ := ih (i + 1) (sw l (a + i) (b + i)) (by omega) (by omega) (by rw [sw_length]; exact hl)
   refine ⟨r, ?_, hrl, hp.trans (sw_perm h1 h2), fun p => ?_⟩
   ·refine Ev.step (fun k => by rw [api_Term_62_at52.l0]) ?_
    refine evp (by omega) ?_
    rw [show wrap64 ((b : Int) + (i : Int)) = ((b + i : Nat) : Int) from by rw [w64] <;> omega, show wrap64 ((a : Int) + (i : Int)) = ((a + i : Nat) : Int) from by rw [w64] <;> omega, show wrap64 ((i : Int) + 1) = ((i + 1 : Nat) : Int) from by rw [w64] <;> omega]
    refine evp (by omega) (evp (by omega) (evp (by omega) (evp (by omega) ?_)))
    exact hr
   ·rw [hg p, gd_sw h1 h2, gd_sw h1 h2, gd_sw h1 h2]
    repeat' split
    all_goals first | rfl | (exfalso; omega) | (congr 1; omega)
theorem swr (a b m N : Nat) (l : List S44) (hab : a + m ≤ b) (hb : b + m ≤ N) (hN : N < 1152921504606846976) (hl : l.length = N) :
   ∃ r, Ev (fun k => api_Term_62_at52.f k l a b m) r ∧ r.length = N ∧ r.Perm l ∧
    ∀ p, gd r p = if a ≤ p ∧ p < a + m then gd l (p - a + b) else if b ≤ p ∧ p < b + m then gd l (p - b + a) else gd l p := by
  obtain ⟨r, hr, h1, h2, h3⟩ := swr_l0 a b m N hab hb hN _ 0 l rfl (by omega) hl
  exact ⟨r, hr, h1, h2, by simpa using h3⟩
theorem rot_l0 (N m : Nat) (hN : N < 1152921504606846976) (d : Nat) : ∀ (i j : Nat) (l : List S44), i + j ≤ d → 0 < i → 0 < j → i ≤ m → m + j ≤ N → l.length = N →
   ∃ r, Ev (fun k => api_Term_61_at52.l0 k l (m : Int) (i : Int) (j : Int)) r ∧ r.length = N ∧ r.Perm l ∧
    ∀ p, gd r p = if m - i ≤ p ∧ p < m - i + j then gd l (p + i) else if m - i + j ≤ p ∧ p < m + j then gd l (p - j) else gd l p := by
  induction d with
  | zero => intro i j l h h1; omega
  | succ d ih =>
   intro i j l hd hi hj him hmj hl
   have hw1 : wrap64 ((m : Int) - (i : Int)) = ((m - i : Nat) : Int) := by rw [w64] <;> omega
   by_cases hij : i = j
   ·subst hij
    obtain ⟨r, hr, h1, h2, h3⟩ := swr (m - i) m i N l (by omega) (by omega) hN hl
    refine ⟨r, ?_, h1, h2, fun p => ?_⟩
    ·refine Ev.step (fun k => by rw [api_Term_61_at52.l0]) ?_
     refine evp rfl ?_
     rw [hw1]
     exact evb hr (evr _)
    ·rw [h3 p]
     repeat' split
     all_goals first | rfl | (exfalso; omega) | (congr 1; omega)
   ·by_cases hgt : j < i
    ·obtain ⟨l1, hr1, g1, g2, g3⟩ := swr (m - i) m j N l (by omega) (by omega) hN hl
     have hw2 : wrap64 ((i : Int) - (j : Int)) = ((i - j : Nat) : Int) := by rw [w64] <;> omega
     obtain ⟨r, hr, h1, h2, h3⟩ := ih (i - j) j l1 (by omega) (by omega) hj (by omega) hmj g1
     refine ⟨r, ?_, h1, h2.trans g2, fun p => ?_⟩
     ·refine Ev.step (fun k => by rw [api_Term_61_at52.l0]) ?_
      refine evn (by omega) (evp (by omega) ?_)
      rw [hw1, hw2]
      exact evb hr1 hr
     ·rw [h3 p, g3, g3, g3]
      repeat' split
      all_goals first | rfl | (exfalso; omega) | (congr 1; omega)
    ·have hw3 : wrap64 (wrap64 ((m : Int) + (j : Int)) - (i : Int)) = ((m + j - i : Nat) : Int) := by
      rw [w64 (n := (m : Int) + (j : Int)) (by omega) (by omega), w64] <;> omega
     obtain ⟨l1, hr1, g1, g2, g3⟩ := swr (m - i) (m + j - i) i N l (by omega) (by omega) hN hl
     have hw2 : wrap64 ((j : Int) - (i : Int)) = ((j - i : Nat) : Int) := by rw [w64] <;> omega
     obtain ⟨r, hr, h1, h2, h3⟩ := ih i (j - i) l1 (by omega) hi (by omega) him (by omega) g1
     refine ⟨r, ?_, h1, h2.trans g2, fun p => ?_⟩
     ·refine Ev.step (fun k => by rw [api_Term_61_at52.l0]) ?_
      refine evn (by omega) (evn (by omega) ?_)
      rw [hw1, hw2, hw3]
      exact evb hr1 hr
     ·rw [h3 p, g3, g3, g3]
      repeat' split
      all_goals first | rfl | (exfalso; omega) | (congr 1; omega)
theorem rot (a m b N : Nat) (l : List S44) (ham : a < m) (hmb : m < b) (hb : b ≤ N) (hN : N < 1152921504606846976) (hl : l.length = N) :
   ∃ r, Ev (fun k => api_Term_61_at52.f k l a m b) r ∧ Shuf a b l r ∧
    (∀ p, a ≤ p → p < a + (b - m) → gd r p = gd l (p + (m - a))) ∧ (∀ p, a + (b - m) ≤ p → p < b → gd r p = gd l (p - (b - m))) := by
  have hw1 : wrap64 ((m : Int) - (a : Int)) = ((m - a : Nat) : Int) := by rw [w64] <;> omega
  have hw2 : wrap64 ((b : Int) - (m : Int)) = ((b - m : Nat) : Int) := by rw [w64] <;> omega
  obtain ⟨r, hr, h1, h2, h3⟩ := rot_l0 N m hN _ (m - a) (b - m) l (Nat.le_refl _) (by omega) (by omega) (by omega) (by omega) hl
  refine ⟨r, ?_, ⟨by omega, h2, fun i hi => ?_⟩, fun p h4 h5 => ?_, fun p h4 h5 => ?_⟩
  ·unfold api_Term_61_at52.f
   rw [hw1, hw2]
   exact hr
  ·rw [h3, if_neg (by omega), if_neg (by omega)]
  ·rw [h3, if_pos (by omega)]
  ·rw [h3, if_neg (by omega), if_pos (by omega)]
end Go.Proofs.Ytikpfbfeoifmkaa.Z
end
section
namespace Go.Proofs.Ytikpfbfeoifmkaa.Z
open Go.RowKit Go.Proofs.Ytikpfbfeoifmkaa.X Go.Proofs.YtikpfbfeoifmkaaW.PrintWords Go.Proofs.YtikpfbfeoifmkaaW.PrintLast
set_option linter.unusedVariables false
set_option linter.unusedSimpArgs false
theorem halfN {i j N : Nat} (h : i + j ≤ 2 * N) (hN : N < 1152921504606846976) : wrap64 (IntKind.u64.wrap (wrap64 ((i : Int) + (j : Int))) / 2) = (((i + j) / 2 : Nat) : Int) := by
  rw [half] <;> omega
theorem sm_l1 (a b i N : Nat) (hN : N < 1152921504606846976) (hbN : b ≤ N) (hib : i ≤ b) (d : Nat) : ∀ (c : Nat) (l : List S44), i - 1 - c = d → a ≤ c → c + 1 ≤ i → l.length = N → Bd l →
   Srt l a c → Srt l (c + 1) b → (∀ p q, a ≤ p → p < c → c ≤ q → q < b → K l p ≤ K l q) → (∀ p, c + 1 ≤ p → p < i → K l p < K l c) → (∀ p, i ≤ p → p < b → K l c ≤ K l p) →
   ∃ r, Ev (fun k => api_Term_60_at52.l1 k l (i : Int) (c : Int)) r ∧ Shuf a b l r ∧ Srt r a b := by
  induction d with
  | zero =>
   intro c l hd hac hci hl hB h1 h2 h3 h4 h5
   refine ⟨l, ?_, Shuf.refl _ _ _, ?_⟩
   ·refine Ev.step (fun k => by rw [api_Term_60_at52.l1]) ?_
    rw [show wrap64 ((i : Int) - 1) = ((i - 1 : Nat) : Int) from by rw [w64] <;> omega]
    exact evn (by omega) (evr _)
   ·intro p q g0 g1 g2
    by_cases hpq : p = q
    ·rw [hpq]; exact Int.le_refl _
    ·by_cases hqc : q < c
     ·exact h1 p q g0 g1 hqc
     ·by_cases hpc : p < c
      ·exact h3 p q g0 hpc (by omega) g2
      ·by_cases hpc2 : p = c
       ·subst hpc2
        exact h5 q (by omega) g2
       ·exact h2 p q (by omega) g1 g2
  | succ d ih =>
   intro c l hd hac hci hl hB h1 h2 h3 h4 h5
   have g1 : c < l.length := by omega
   have g2 : c + 1 < l.length := by omega
   have hlt := h4 (c + 1) (by omega) (by omega)
   obtain ⟨r, hr, k1, k2⟩ := ih (c + 1) (sw l c (c + 1)) (by omega) (by omega) (by omega) (by rw [sw_length]; exact hl) (hB.perm (sw_perm g1 g2))
    (by
     intro p q e0 e1 e2
     rw [K_sw g1 g2, K_sw g1 g2, if_neg (by omega), if_neg (show ¬ c + 1 = q by omega)]
     by_cases hq : c = q
     ·rw [if_pos hq]
      by_cases hp : c = p
      ·rw [if_pos hp]; exact Int.le_refl _
      ·rw [if_neg hp]; exact h3 p (c + 1) e0 (by omega) (by omega) (by omega)
     ·rw [if_neg hq, if_neg (by omega)]
      exact h1 p q e0 e1 (by omega))
    (by
     intro p q e0 e1 e2
     rw [K_sw g1 g2, K_sw g1 g2, if_neg (by omega), if_neg (by omega), if_neg (by omega), if_neg (by omega)]
     exact h2 p q (by omega) e1 e2)
    (by
     intro p q e0 e1 e2 e3
     rw [K_sw g1 g2, K_sw g1 g2, if_neg (by omega)]
     by_cases hp : c = p
     ·rw [if_pos hp]
      by_cases hq : c + 1 = q
      ·rw [if_pos hq]; omega
      ·rw [if_neg hq, if_neg (by omega)]
       exact h2 (c + 1) q (by omega) (by omega) e3
     ·rw [if_neg hp]
      by_cases hq : c + 1 = q
      ·rw [if_pos hq]; exact h3 p c e0 (by omega) (by omega) (by omega)
      ·rw [if_neg hq, if_neg (by omega)]
       exact h3 p q e0 (by omega) (by omega) e3)
    (by
     intro p e0 e1
     rw [K_sw g1 g2, K_sw g1 g2, if_neg (by omega), if_neg (by omega), if_pos rfl]
     exact h4 p (by omega) e1)
    (by
     intro p e0 e1
     rw [K_sw g1 g2, K_sw g1 g2, if_pos rfl, if_neg (by omega), if_neg (by omega)]
     exact h5 p e0 e1)
   refine ⟨r, ?_, (Shuf.sw (by omega) (by omega) (by omega)).trans k1, k2⟩
   refine Ev.step (fun k => by rw [api_Term_60_at52.l1]) ?_
   rw [show wrap64 ((i : Int) - 1) = ((i - 1 : Nat) : Int) from by rw [w64] <;> omega]
   refine evp (by omega) ?_
   rw [show wrap64 ((c : Int) + 1) = ((c + 1 : Nat) : Int) from by rw [w64] <;> omega]
   refine evp (by omega) (evp (by omega) (evp (by omega) (evp (by omega) ?_)))
   exact hr
theorem sm_l0 (a m b N : Nat) (hN : N < 1152921504606846976) (hbN : b ≤ N) (ham : m = a + 1) (hmb : m < b) (l : List S44) (hl : l.length = N) (hB : Bd l) (hs : Srt l m b) (d : Nat) :
   ∀ (i j : Nat), j - i ≤ d → m ≤ i → i ≤ j → j ≤ b → (∀ p, m ≤ p → p < i → K l p < K l a) → (∀ p, j ≤ p → p < b → K l a ≤ K l p) →
   ∃ r, Ev (fun k => api_Term_60_at52.l0 k l (a : Int) (i : Int) (j : Int)) r ∧ Shuf a b l r ∧ Srt r a b := by
  induction d with
  | zero =>
   intro i j hd hmi hij hjb h1 h2
   obtain ⟨r, hr, k⟩ := sm_l1 a b i N hN hbN (by omega) _ a l rfl (Nat.le_refl _) (by omega) hl hB (Srt.small (by omega)) (by rw [← ham]; exact hs) (fun p q g0 g1 => by omega) (fun p g0 g1 => h1 p (by omega) g1) (fun p g0 g1 => h2 p (by omega) g1)
   refine ⟨r, ?_, k⟩
   refine Ev.step (fun k => by rw [api_Term_60_at52.l0]) ?_
   exact evn (by omega) hr
  | succ d ih =>
   intro i j hd hmi hij hjb h1 h2
   by_cases hlt : i < j
   ·have hc := cmp_ hB ((i + j) / 2) a (gd l ((i + j) / 2)).f1 (gd l a).f1
    by_cases hk : K l ((i + j) / 2) - K l a < 0
    ·obtain ⟨r, hr, k⟩ := ih ((i + j) / 2 + 1) j (by omega) (by omega) (by omega) hjb (fun p g0 g1 => by
      have := hs p ((i + j) / 2) g0 (by omega) (by omega)
      omega) h2
     refine ⟨r, ?_, k⟩
     refine Ev.step (fun k => by rw [api_Term_60_at52.l0]) ?_
     refine evp (by omega) ?_
     rw [halfN (N := N) (by omega) hN]
     refine evp (by omega) (evp (by omega) (evp (by omega) (evp (by omega) ?_)))
     rw [rd_gd, rd_gd, hc, show wrap64 ((((i + j) / 2 : Nat) : Int) + 1) = (((i + j) / 2 + 1 : Nat) : Int) from by rw [w64] <;> omega]
     exact evs (evp hk hr)
    ·obtain ⟨r, hr, k⟩ := ih i ((i + j) / 2) (by omega) hmi (by omega) (by omega) h1 (fun p g0 g1 => by
      have := hs ((i + j) / 2) p (by omega) g0 g1
      omega)
     refine ⟨r, ?_, k⟩
     refine Ev.step (fun k => by rw [api_Term_60_at52.l0]) ?_
     refine evp (by omega) ?_
     rw [halfN (N := N) (by omega) hN]
     refine evp (by omega) (evp (by omega) (evp (by omega) (evp (by omega) ?_)))
     rw [rd_gd, rd_gd, hc]
     exact evs (evn hk hr)
   ·exact ih i j (by omega) hmi hij hjb h1 h2
theorem sm_l3 (a b i N : Nat) (hN : N < 1152921504606846976) (hbN : b ≤ N) (hai : a ≤ i) (d : Nat) : ∀ (c : Nat) (l : List S44), c - i = d → i ≤ c → c < b → l.length = N → Bd l →
   Srt l a c → Srt l (c + 1) b → (∀ p q, a ≤ p → p ≤ c → c < q → q < b → K l p ≤ K l q) → (∀ p, i ≤ p → p < c → K l c < K l p) → (∀ p, a ≤ p → p < i → K l p ≤ K l c) →
   ∃ r, Ev (fun k => api_Term_60_at52.l3 k l (i : Int) (c : Int)) r ∧ Shuf a b l r ∧ Srt r a b := by
  induction d with
  | zero =>
   intro c l hd hic hcb hl hB h1 h2 h3 h4 h5
   refine ⟨l, ?_, Shuf.refl _ _ _, ?_⟩
   ·refine Ev.step (fun k => by rw [api_Term_60_at52.l3]) ?_
    exact evn (by omega) (evr _)
   ·intro p q g0 g1 g2
    by_cases hpq : p = q
    ·rw [hpq]; exact Int.le_refl _
    ·by_cases hqc : q < c
     ·exact h1 p q g0 g1 hqc
     ·by_cases hqc2 : q = c
      ·subst hqc2
       exact h5 p g0 (by omega)
      ·by_cases hpc : p ≤ c
       ·exact h3 p q g0 hpc (by omega) g2
       ·exact h2 p q (by omega) g1 g2
  | succ d ih =>
   intro c l hd hic hcb hl hB h1 h2 h3 h4 h5
   obtain ⟨c, rfl⟩ : ∃ c', c = c' + 1 := ⟨c - 1, by omega⟩
   have g1 : c < l.length := by omega
   have g2 : c + 1 < l.length := by omega
   have hlt := h4 c (by omega) (by omega)
   obtain ⟨r, hr, k1, k2⟩ := ih c (sw l (c + 1) c) (by omega) (by omega) (by omega) (by rw [sw_length]; exact hl) (hB.perm (sw_perm g2 g1))
    (by
     intro p q e0 e1 e2
     rw [K_sw g2 g1, K_sw g2 g1, if_neg (by omega), if_neg (by omega), if_neg (by omega), if_neg (by omega)]
     exact h1 p q e0 e1 (by omega))
    (by
     intro p q e0 e1 e2
     rw [K_sw g2 g1, K_sw g2 g1, if_neg (by omega), if_neg (show ¬ c = q by omega)]
     by_cases hp : c + 1 = p
     ·rw [if_pos hp]
      by_cases hq : c + 1 = q
      ·rw [if_pos hq]; exact Int.le_refl _
      ·rw [if_neg hq]; exact h3 c q (by omega) (by omega) (by omega) e2
     ·rw [if_neg hp, if_neg (by omega)]
      exact h2 p q (by omega) e1 e2)
    (by
     intro p q e0 e1 e2 e3
     rw [K_sw g2 g1, K_sw g2 g1, if_neg (show ¬ c = q by omega)]
     by_cases hp : c = p
     ·rw [if_pos hp]
      by_cases hq : c + 1 = q
      ·rw [if_pos hq]; omega
      ·rw [if_neg hq]
       exact h3 (c + 1) q (by omega) (by omega) (by omega) e3
     ·rw [if_neg hp, if_neg (by omega)]
      by_cases hq : c + 1 = q
      ·rw [if_pos hq]; exact h1 p c e0 (by omega) (by omega)
      ·rw [if_neg hq]
       exact h3 p q e0 (by omega) (by omega) e3)
    (by
     intro p e0 e1
     rw [K_sw g2 g1, K_sw g2 g1, if_pos rfl, if_neg (by omega), if_neg (by omega)]
     exact h4 p e0 (by omega))
    (by
     intro p e0 e1
     rw [K_sw g2 g1, K_sw g2 g1, if_pos rfl, if_neg (by omega), if_neg (by omega)]
     exact h5 p e0 e1)
   refine ⟨r, ?_, (Shuf.sw (by omega) (by omega) (by omega)).trans k1, k2⟩
   refine Ev.step (fun k => by rw [api_Term_60_at52.l3]) ?_
   refine evp (by omega) ?_
   rw [show wrap64 (((c + 1 : Nat) : Int) - 1) = (c : Int) from by rw [w64] <;> omega]
   refine evp (by omega) (evp (by omega) (evp (by omega) (evp (by omega) ?_)))
   exact hr
theorem sm_l2 (a m b N : Nat) (hN : N < 1152921504606846976) (hbN : b ≤ N) (hmb : b = m + 1) (ham : a < m) (l : List S44) (hl : l.length = N) (hB : Bd l) (hs : Srt l a m) (d : Nat) :
   ∀ (i j : Nat), j - i ≤ d → a ≤ i → i ≤ j → j ≤ m → (∀ p, a ≤ p → p < i → K l p ≤ K l m) → (∀ p, j ≤ p → p < m → K l m < K l p) →
   ∃ r, Ev (fun k => api_Term_60_at52.l2 k l (m : Int) (i : Int) (j : Int)) r ∧ Shuf a b l r ∧ Srt r a b := by
  induction d with
  | zero =>
   intro i j hd hmi hij hjb h1 h2
   obtain ⟨r, hr, k⟩ := sm_l3 a b i N hN hbN (by omega) _ m l rfl (by omega) (by omega) hl hB hs (Srt.small (by omega)) (fun p q g0 g1 g2 g3 => by omega) (fun p g0 g1 => h2 p (by omega) g1) (fun p g0 g1 => h1 p (by omega) g1)
   refine ⟨r, ?_, k⟩
   refine Ev.step (fun k => by rw [api_Term_60_at52.l2]) ?_
   exact evn (by omega) hr
  | succ d ih =>
   intro i j hd hmi hij hjb h1 h2
   by_cases hlt : i < j
   ·have hc := cmp_ hB m ((i + j) / 2) (gd l m).f1 (gd l ((i + j) / 2)).f1
    by_cases hk : K l m - K l ((i + j) / 2) < 0
    ·obtain ⟨r, hr, k⟩ := ih i ((i + j) / 2) (by omega) hmi (by omega) (by omega) h1 (fun p g0 g1 => by
      have := hs ((i + j) / 2) p (by omega) g0 g1
      omega)
     refine ⟨r, ?_, k⟩
     refine Ev.step (fun k => by rw [api_Term_60_at52.l2]) ?_
     refine evp (by omega) ?_
     rw [halfN (N := N) (by omega) hN]
     refine evp (by omega) (evp (by omega) (evp (by omega) (evp (by omega) ?_)))
     rw [rd_gd, rd_gd, hc]
     exact evs (evp hk hr)
    ·obtain ⟨r, hr, k⟩ := ih ((i + j) / 2 + 1) j (by omega) (by omega) (by omega) hjb (fun p g0 g1 => by
      have := hs p ((i + j) / 2) g0 (by omega) (by omega)
      omega) h2
     refine ⟨r, ?_, k⟩
     refine Ev.step (fun k => by rw [api_Term_60_at52.l2]) ?_
     refine evp (by omega) ?_
     rw [halfN (N := N) (by omega) hN]
     refine evp (by omega) (evp (by omega) (evp (by omega) (evp (by omega) ?_)))
     rw [rd_gd, rd_gd, hc, show wrap64 ((((i + j) / 2 : Nat) : Int) + 1) = (((i + j) / 2 + 1 : Nat) : Int) from by rw [w64] <;> omega]
     exact evs (evn hk hr)
   ·exact ih i j (by omega) hmi hij hjb h1 h2
end Go.Proofs.Ytikpfbfeoifmkaa.Z
end
section
namespace Go.Proofs.Ytikpfbfeoifmkaa.Z
open Go.RowKit Go.Proofs.Ytikpfbfeoifmkaa.X Go.Proofs.YtikpfbfeoifmkaaW.PrintWords Go.Proofs.YtikpfbfeoifmkaaW.PrintLast
set_option linter.unusedVariables false
set_option linter.unusedSimpArgs false
def Merges (N d : Nat) : Prop := ∀ (a m b : Nat) (l : List S44), b - a ≤ d → a < m → m < b → b ≤ N → l.length = N → Bd l → Srt l a m → Srt l m b →
  ∃ r, Ev (fun k => api_Term_60_at52.f k l (a : Int) (m : Int) (b : Int)) r ∧ Shuf a b l r ∧ Srt r a b
theorem sm_two (N d a mid b : Nat) (hd : Merges N d) (ha : a ≤ mid) (hb : mid ≤ b) (hbN : b ≤ N) (hda : mid - a ≤ d) (hdb : b - mid ≤ d) (l : List S44) (hl : l.length = N) (hB : Bd l) (s e : Nat)
   (has : a ≤ s) (hsm : s ≤ mid) (hme : mid ≤ e) (heb : e ≤ b) (h1 : Srt l a s) (h2 : Srt l s mid) (h3 : Srt l mid e) (h4 : Srt l e b) (hx : ∀ p q, a ≤ p → p < mid → mid ≤ q → q < b → K l p ≤ K l q) :
   ∃ r, Ev (fun k => api_Term_60_at52.j7 k l (a : Int) (b : Int) (mid : Int) (s : Int) (e : Int)) r ∧ Shuf a b l r ∧ Srt r a b := by
  have left : ∃ l1, Shuf a mid l l1 ∧ Srt l1 a mid ∧ ((a < s ∧ s < mid) → Ev (fun k => api_Term_60_at52.f k l (a : Int) (s : Int) (mid : Int)) l1) ∧ (¬ (a < s ∧ s < mid) → l1 = l) := by
   by_cases h : a < s ∧ s < mid
   ·obtain ⟨l1, hr, k1, k2⟩ := hd a s mid l hda h.1 h.2 (by omega) hl hB h1 h2
    exact ⟨l1, k1, k2, fun _ => hr, fun hn => absurd h hn⟩
   ·refine ⟨l, Shuf.refl _ _ _, ?_, fun hn => absurd hn h, fun _ => rfl⟩
    by_cases h5 : a = s
    ·rw [h5]; exact h2
    ·have : s = mid := by omega
     rw [← this]; exact h1
  obtain ⟨l1, k1, k2, k3, k4⟩ := left
  have hl1 : l1.length = N := by rw [k1.len]; exact hl
  have hB1 : Bd l1 := hB.perm k1.perm
  have right : ∃ r, Shuf mid b l1 r ∧ Srt r mid b ∧ ((mid < e ∧ e < b) → Ev (fun k => api_Term_60_at52.f k l1 (mid : Int) (e : Int) (b : Int)) r) ∧ (¬ (mid < e ∧ e < b) → r = l1) := by
   have g3 := k1.srt h3 (Or.inr (Nat.le_refl _))
   have g4 := k1.srt h4 (Or.inr (by omega))
   by_cases h : mid < e ∧ e < b
   ·obtain ⟨r, hr, j1, j2⟩ := hd mid e b l1 hdb h.1 h.2 hbN hl1 hB1 g3 g4
    exact ⟨r, j1, j2, fun _ => hr, fun hn => absurd h hn⟩
   ·refine ⟨l1, Shuf.refl _ _ _, ?_, fun hn => absurd hn h, fun _ => rfl⟩
    by_cases h5 : mid = e
    ·rw [h5]; exact g4
    ·have : e = b := by omega
     rw [← this]; exact g3
  obtain ⟨r, j1, j2, j3, j4⟩ := right
  refine ⟨r, ?_, (k1.mono (Nat.le_refl _) hb).trans (j1.mono ha (Nat.le_refl _)), ?_⟩
  ·have tail1 : ∀ x, x = l1 → Ev (fun k => if (mid : Int) < (e : Int) then (if (e : Int) < (b : Int) then ((api_Term_60_at52.f k x (mid : Int) (e : Int) (b : Int)).bind fun t123 => (some t123)) else (some x)) else (some x)) r := by
    rintro x rfl
    by_cases h5 : mid < e
    ·by_cases h6 : e < b
     ·exact evp (by omega) (evp (by omega) (evb (j3 ⟨h5, h6⟩) (evr _)))
     ·exact evp (by omega) (evn (by omega) (evr' (j4 (by omega)).symm))
    ·exact evn (by omega) (evr' (j4 (by omega)).symm)
   refine Ev.step (fun k => by rw [api_Term_60_at52.j7]) ?_
   by_cases h5 : a < s
   ·refine evp (by omega) ?_
    refine Ev.step (fun k => by rw [api_Term_60_at52.j8]) ?_
    by_cases h6 : s < mid
    ·refine evp (by simpa using h6) ?_
     exact evb (k3 ⟨h5, h6⟩) (tail1 l1 rfl)
    ·refine evn (by simpa using h6) ?_
     exact tail1 l (k4 (by omega)).symm
   ·refine evn (by omega) ?_
    refine Ev.step (fun k => by rw [api_Term_60_at52.j8]) ?_
    refine evn (by simp) ?_
    exact tail1 l (k4 (by omega)).symm
  ·have c1 : Srt r a mid := j1.srt k2 (Or.inl (Nat.le_refl _))
   have cx : ∀ p q, a ≤ p → p < mid → mid ≤ q → q < b → K r p ≤ K r q := by
    intro p q e0 e1 e2 e3
    have s1 : ∀ q', mid ≤ q' → q' < b → ∀ p', a ≤ p' → p' < mid → (gd l1 p').f0 ≤ (gd l q').f0 := by
     intro q' f0 f1
     exact k1.range (by omega) (P := fun t => t.f0 ≤ (gd l q').f0) (fun p' f2 f3 => hx p' q' f2 f3 f0 f1)
    have s2 : ∀ q', mid ≤ q' → q' < b → (gd l1 p).f0 ≤ (gd r q').f0 :=
     j1.range (by omega) (P := fun t => (gd l1 p).f0 ≤ t.f0) (fun q' f0 f1 => by rw [k1.out q' (Or.inr f0)]; exact s1 q' f0 f1 p e0 e1)
    have := s2 q e2 e3
    unfold K
    rw [j1.out p (Or.inl e1)]
    exact this
   intro p q e0 e1 e2
   by_cases h5 : q < mid
   ·exact c1 p q e0 e1 h5
   ·by_cases h6 : p < mid
    ·exact cx p q e0 h6 (by omega) e2
    ·exact j2 p q (by omega) e1 e2
theorem sm_rest (N d a m b : Nat) (hN : N < 576460752303423488) (hd : Merges N d) (ham : a < m) (hmb : m < b) (hbN : b ≤ N) (hdd : b - a ≤ d + 1) (hm2 : 2 ≤ m - a) (hb2 : 2 ≤ b - m) (l : List S44) (hl : l.length = N) (hB : Bd l)
   (h1 : Srt l a m) (h2 : Srt l m b) (s : Nat) (has : a ≤ s) (hsm : s ≤ m) (hs2 : s ≤ (a + b) / 2) (hse : (a + b) / 2 + m ≤ s + b)
   (hlo : ∀ q, a < s → (a + b) / 2 + m - s ≤ q → q < b → K l (s - 1) ≤ K l q) (hhi : ∀ p, m ≤ p → p < (a + b) / 2 + m - s → s < m → K l p ≤ K l s) :
   ∃ r, Ev (fun k => if (s : Int) < (m : Int) then (api_Term_60_at52.j6 k l (a : Int) (m : Int) (b : Int) (((a + b) / 2 : Nat) : Int) (s : Int) (((a + b) / 2 + m - s : Nat) : Int) (decide ((m : Int) < (((a + b) / 2 + m - s : Nat) : Int)))) else (api_Term_60_at52.j6 k l (a : Int) (m : Int) (b : Int) (((a + b) / 2 : Nat) : Int) (s : Int) (((a + b) / 2 + m - s : Nat) : Int) false)) r ∧ Shuf a b l r ∧ Srt r a b := by
  obtain ⟨mid, hmid⟩ : ∃ mid, (a + b) / 2 = mid := ⟨_, rfl⟩
  have hm0 : 2 * mid ≤ a + b ∧ a + b ≤ 2 * mid + 1 := by omega
  rw [hmid] at hs2 hse hlo hhi ⊢
  clear hmid
  obtain ⟨e, he⟩ : ∃ e, mid + m - s = e := ⟨_, rfl⟩
  have he0 : e + s = mid + m := by omega
  rw [he] at hlo hhi ⊢
  clear he
  by_cases hrot : s < m ∧ m < e
  ·obtain ⟨l1, hr1, k1, k2, k3⟩ := rot s m e N l hrot.1 hrot.2 (by omega) (by omega) hl
   have e1 : s + (e - m) = mid := by omega
   rw [e1] at k2 k3
   have sh : Shuf a b l l1 := k1.mono has (by omega)
   obtain ⟨r, hr, j1, j2⟩ := sm_two N d a mid b hd (by omega) (by omega) hbN (by omega) (by omega) l1 (by rw [k1.len]; exact hl) (hB.perm k1.perm) s e has hs2 (by omega) (by omega)
    (k1.srt (h1.mono (Nat.le_refl _) hsm) (Or.inl (Nat.le_refl _)))
    (by
     intro p q f0 f1 f2
     unfold K
     rw [k2 p f0 (by omega), k2 q (by omega) f2]
     exact h2 _ _ (by omega) (by omega) (by omega))
    (by
     intro p q f0 f1 f2
     unfold K
     rw [k3 p f0 (by omega), k3 q (by omega) f2]
     exact h1 _ _ (by omega) (by omega) (by omega))
    (k1.srt (h2.mono (by omega) (Nat.le_refl _)) (Or.inr (Nat.le_refl _)))
    (by
     intro p q f0 f1 f2 f3
     unfold K
     by_cases hp : p < s
     ·rw [k1.out p (Or.inl hp)]
      by_cases hq : q < e
      ·rw [k3 q f2 hq]
       exact h1 _ _ f0 (by omega) (by omega)
      ·rw [k1.out q (Or.inr (by omega))]
       have g1 := h1 p (s - 1) f0 (by omega) (by omega)
       have g2 := hlo q (by omega) (by omega) f3
       unfold K at g1 g2
       omega
     ·rw [k2 p (by omega) f1]
      by_cases hq : q < e
      ·rw [k3 q f2 hq]
       have g1 := hhi (p + (m - s)) (by omega) (by omega) hrot.1
       have g2 := h1 s (q - (e - m)) (by omega) (by omega) (by omega)
       unfold K at g1 g2
       omega
      ·rw [k1.out q (Or.inr (by omega))]
       exact h2 _ _ (by omega) (by omega) f3)
   refine ⟨r, ?_, sh.trans j1, j2⟩
   refine evp (by omega) ?_
   refine Ev.step (fun k => by rw [api_Term_60_at52.j6]) ?_
   refine evp (by simp; omega) ?_
   exact evb hr1 hr
  ·have hcase : s = m ∨ m = e := by omega
   obtain ⟨r, hr, j1, j2⟩ := sm_two N d a mid b hd (by omega) (by omega) hbN (by omega) (by omega) l hl hB s e has hs2 (by omega) (by omega)
    (h1.mono (Nat.le_refl _) hsm)
    (by
     intro p q f0 f1 f2
     rcases hcase with h | h
     ·exact h2 p q (by omega) f1 (by omega)
     ·exact h1 p q (by omega) f1 (by omega))
    (by
     intro p q f0 f1 f2
     rcases hcase with h | h
     ·exact h2 p q (by omega) f1 (by omega)
     ·exact h1 p q (by omega) f1 (by omega))
    (h2.mono (by omega) (Nat.le_refl _))
    (by
     intro p q f0 f1 f2 f3
     rcases hcase with h | h
     ·
      by_cases hp : p < m
      ·have g1 := h1 p (s - 1) f0 (by omega) (by omega)
       have g2 := hlo q (by omega) (by omega) f3
       omega
      ·exact h2 p q (by omega) (by omega) f3
     ·
      by_cases hq : q < m
      ·exact h1 p q f0 (by omega) hq
      ·have g1 := h1 p (s - 1) f0 (by omega) (by omega)
       have g2 := hlo q (by omega) (by omega) f3
       omega)
   refine ⟨r, ?_, j1, j2⟩
   by_cases hsm2 : s < m
   ·refine evp (by omega) ?_
    refine Ev.step (fun k => by rw [api_Term_60_at52.j6]) ?_
    exact evn (by simp; omega) hr
   ·refine evn (by omega) ?_
    refine Ev.step (fun k => by rw [api_Term_60_at52.j6]) ?_
    exact evn (by simp) hr
end Go.Proofs.Ytikpfbfeoifmkaa.Z
end
section
namespace Go.Proofs.Ytikpfbfeoifmkaa.Z
open Go.RowKit Go.Proofs.Ytikpfbfeoifmkaa.X Go.Proofs.YtikpfbfeoifmkaaW.PrintWords Go.Proofs.YtikpfbfeoifmkaaW.PrintLast
set_option linter.unusedVariables false
set_option linter.unusedSimpArgs false
theorem sm_l4 (N d a m b mid : Nat) (hN : N < 576460752303423488) (hd : Merges N d) (ham : a < m) (hmb : m < b) (hbN : b ≤ N) (hdd : b - a ≤ d + 1) (hm2 : 2 ≤ m - a) (hb2 : 2 ≤ b - m) (l : List S44) (hl : l.length = N) (hB : Bd l)
   (h1 : Srt l a m) (h2 : Srt l m b) (hmid : mid = (a + b) / 2) (s0 r0 : Nat) (hc : (s0 + b = mid + m ∧ r0 = mid ∧ mid < m) ∨ (s0 = a ∧ r0 = m ∧ m ≤ mid)) (dd : Nat) :
   ∀ (x y : Nat), y - x ≤ dd → s0 ≤ x → x ≤ y → y ≤ r0 → (∀ c, s0 ≤ c → c < x → K l c ≤ K l (mid + m - 1 - c)) → (∀ c, y ≤ c → c < r0 → K l (mid + m - 1 - c) < K l c) →
   ∃ r, Ev (fun k => api_Term_60_at52.l4 k l (a : Int) (m : Int) (b : Int) (mid : Int) ((mid + m : Nat) : Int) (x : Int) (y : Int) ((mid + m - 1 : Nat) : Int)) r ∧ Shuf a b l r ∧ Srt r a b := by
  have hm0 : 2 * mid ≤ a + b ∧ a + b ≤ 2 * mid + 1 := by omega
  induction dd with
  | zero =>
   intro x y hxy hsx hxy2 hyr hlo hhi
   obtain ⟨r, hr, k⟩ := sm_rest N d a m b hN hd ham hmb hbN hdd hm2 hb2 l hl hB h1 h2 x (by omega) (by omega) (by omega) (by omega)
    (by
     intro q f0 f1 f2
     rw [← hmid] at f1
     have g := hlo (x - 1) (by omega) (by omega)
     have e1 : mid + m - 1 - (x - 1) = mid + m - x := by omega
     rw [e1] at g
     have g2 := h2 (mid + m - x) q (by omega) f1 f2
     omega)
    (by
     intro p f0 f1 f2
     rw [← hmid] at f1
     have g := hhi x (by omega) (by omega)
     have g2 := h2 p (mid + m - 1 - x) f0 (by omega) (by omega)
     omega)
   rw [← hmid] at hr
   refine ⟨r, ?_, k⟩
   refine Ev.step (fun k => by rw [api_Term_60_at52.l4]) ?_
   refine evn (by omega) ?_
   rw [show wrap64 (((mid + m : Nat) : Int) - (x : Int)) = ((mid + m - x : Nat) : Int) from by rw [w64] <;> omega]
   exact hr
  | succ dd ih =>
   intro x y hxy hsx hxy2 hyr hlo hhi
   by_cases hlt : x < y
   ·obtain ⟨c, hcd⟩ : ∃ c, (x + y) / 2 = c := ⟨_, rfl⟩
    have hc1 : x ≤ c ∧ c < y := by omega
    have hcm := cmp_ hB (mid + m - 1 - c) c (gd l (mid + m - 1 - c)).f1 (gd l c).f1
    have hw : wrap64 (((mid + m - 1 : Nat) : Int) - (c : Int)) = ((mid + m - 1 - c : Nat) : Int) := by rw [w64] <;> omega
    by_cases hk : K l (mid + m - 1 - c) - K l c < 0
    ·obtain ⟨r, hr, k⟩ := ih x c (by omega) hsx (by omega) (by omega) hlo (fun c' f0 f1 => by
      have g1 := h1 c c' (by omega) f0 (by omega)
      have g2 := h2 (mid + m - 1 - c') (mid + m - 1 - c) (by omega) (by omega) (by omega)
      omega)
     refine ⟨r, ?_, k⟩
     refine Ev.step (fun k => by rw [api_Term_60_at52.l4]) ?_
     refine evp (by omega) ?_
     rw [halfN (N := N) (by omega) (by omega), hcd, hw]
     refine evp (by omega) (evp (by omega) (evp (by omega) (evp (by omega) ?_)))
     rw [rd_gd, rd_gd, hcm]
     exact evs (evp hk hr)
    ·obtain ⟨r, hr, k⟩ := ih (c + 1) y (by omega) (by omega) (by omega) hyr (fun c' f0 f1 => by
      have g1 := h1 c' c (by omega) (by omega) (by omega)
      have g2 := h2 (mid + m - 1 - c) (mid + m - 1 - c') (by omega) (by omega) (by omega)
      omega) hhi
     refine ⟨r, ?_, k⟩
     refine Ev.step (fun k => by rw [api_Term_60_at52.l4]) ?_
     refine evp (by omega) ?_
     rw [halfN (N := N) (by omega) (by omega), hcd, hw]
     refine evp (by omega) (evp (by omega) (evp (by omega) (evp (by omega) ?_)))
     rw [rd_gd, rd_gd, hcm, show wrap64 ((c : Int) + 1) = ((c + 1 : Nat) : Int) from by rw [w64] <;> omega]
     exact evs (evn hk hr)
   ·exact ih x y (by omega) hsx hxy2 hyr hlo hhi
theorem merges (N : Nat) (hN : N < 576460752303423488) : ∀ d, Merges N d := by
  intro d
  induction d with
  | zero => intro a m b l h0 h1 h2; omega
  | succ d ih =>
   intro a m b l hdd ham hmb hbN hl hB h1 h2
   have hw1 : wrap64 ((m : Int) - (a : Int)) = ((m - a : Nat) : Int) := by rw [w64] <;> omega
   have hw2 : wrap64 ((b : Int) - (m : Int)) = ((b - m : Nat) : Int) := by rw [w64] <;> omega
   by_cases hc1 : m = a + 1
   ·obtain ⟨r, hr, k⟩ := sm_l0 a m b N (by omega) hbN hc1 hmb l hl hB h2 _ m b (Nat.le_refl _) (Nat.le_refl _) (by omega) (Nat.le_refl _) (fun p f0 f1 => by omega) (fun p f0 f1 => by omega)
    refine ⟨r, ?_, k⟩
    refine Ev.step (fun k => by rw [api_Term_60_at52.f]) ?_
    rw [hw1]
    exact evp (by omega) hr
   ·by_cases hc2 : b = m + 1
    ·obtain ⟨r, hr, k⟩ := sm_l2 a m b N (by omega) hbN hc2 ham l hl hB h1 _ a m (Nat.le_refl _) (Nat.le_refl _) (by omega) (Nat.le_refl _) (fun p f0 f1 => by omega) (fun p f0 f1 => by omega)
     refine ⟨r, ?_, k⟩
     refine Ev.step (fun k => by rw [api_Term_60_at52.f]) ?_
     rw [hw1, hw2]
     exact evn (by omega) (evp (by omega) hr)
    ·obtain ⟨mid, hmid⟩ : ∃ mid, mid = (a + b) / 2 := ⟨_, rfl⟩
     have hm0 : 2 * mid ≤ a + b ∧ a + b ≤ 2 * mid + 1 := by omega
     by_cases hgt : mid < m
     ·obtain ⟨r, hr, k⟩ := sm_l4 N d a m b mid hN ih ham hmb hbN hdd (by omega) (by omega) l hl hB h1 h2 hmid (mid + m - b) mid (Or.inl ⟨by omega, rfl, hgt⟩) _ (mid + m - b) mid (Nat.le_refl _) (Nat.le_refl _) (by omega) (Nat.le_refl _) (fun c f0 f1 => by omega) (fun c f0 f1 => by omega)
      refine ⟨r, ?_, k⟩
      refine Ev.step (fun k => by rw [api_Term_60_at52.f]) ?_
      rw [hw1, hw2, halfN (N := N) (by omega) (by omega), ← hmid]
      refine evn (by omega) (evn (by omega) (evp (by omega) ?_))
      rw [show wrap64 ((mid : Int) + (m : Int)) = ((mid + m : Nat) : Int) from by rw [w64] <;> omega, show wrap64 (((mid + m : Nat) : Int) - (b : Int)) = ((mid + m - b : Nat) : Int) from by rw [w64] <;> omega]
      refine Ev.step (fun k => by rw [api_Term_60_at52.j4]) ?_
      rw [show wrap64 (((mid + m : Nat) : Int) - 1) = ((mid + m - 1 : Nat) : Int) from by rw [w64] <;> omega]
      exact hr
     ·obtain ⟨r, hr, k⟩ := sm_l4 N d a m b mid hN ih ham hmb hbN hdd (by omega) (by omega) l hl hB h1 h2 hmid a m (Or.inr ⟨rfl, rfl, by omega⟩) _ a m (Nat.le_refl _) (Nat.le_refl _) (by omega) (Nat.le_refl _) (fun c f0 f1 => by omega) (fun c f0 f1 => by omega)
      refine ⟨r, ?_, k⟩
      refine Ev.step (fun k => by rw [api_Term_60_at52.f]) ?_
      rw [hw1, hw2, halfN (N := N) (by omega) (by omega), ← hmid]
      refine evn (by omega) (evn (by omega) (evn (by omega) ?_))
      rw [show wrap64 ((mid : Int) + (m : Int)) = ((mid + m : Nat) : Int) from by rw [w64] <;> omega]
      refine Ev.step (fun k => by rw [api_Term_60_at52.j4]) ?_
      rw [show wrap64 (((mid + m : Nat) : Int) - 1) = ((mid + m - 1 : Nat) : Int) from by rw [w64] <;> omega]
      exact hr
def Blks (l : List S44) (s c n : Nat) : Prop := ∀ q, c ≤ q → Srt l (q * s) (min ((q + 1) * s) n)
theorem st_l0 (n : Nat) (hn : n < 288230376151711744) (rest : ∀ l : List S44, l.length = n → Bd l → Blks l 20 0 n → ∃ r, Ev (fun k => api_Term_58_at52.l1 k l (n : Int) 20) r ∧ r.Perm l ∧ Srt r 0 n) (d : Nat) :
   ∀ (c : Nat) (l : List S44), n - c * 20 ≤ d → c * 20 ≤ n → l.length = n → Bd l → (∀ q, q < c → Srt l (q * 20) (min ((q + 1) * 20) n)) →
   ∃ r, Ev (fun k => api_Term_58_at52.l0 k l (n : Int) 20 ((c * 20 : Nat) : Int) ((c * 20 + 20 : Nat) : Int)) r ∧ r.Perm l ∧ Srt r 0 n := by
  induction d with
  | zero =>
   intro c l hd hcn hl hB hs
   obtain ⟨l1, hr1, k1, k2⟩ := ins_sorts (c * 20) n n l hcn (Nat.le_refl _) (by omega) hl hB
   obtain ⟨r, hr, h1, h2⟩ := rest l1 (by rw [k1.len]; exact hl) (hB.perm k1.perm) (by
    intro q _
    by_cases hq : q < c
    ·exact k1.srt (hs q hq) (Or.inl (by omega))
    ·by_cases hq2 : q = c
     ·subst hq2
      exact k2.mono (Nat.le_refl _) (by omega)
     ·exact Srt.small (by omega))
   refine ⟨r, ?_, h1.trans k1.perm, h2⟩
   refine Ev.step (fun k => by rw [api_Term_58_at52.l0]) ?_
   exact evn (by omega) (evb hr1 hr)
  | succ d ih =>
   intro c l hd hcn hl hB hs
   by_cases hlt : c * 20 + 20 ≤ n
   ·obtain ⟨l1, hr1, k1, k2⟩ := ins_sorts (c * 20) (c * 20 + 20) n l (by omega) hlt (by omega) hl hB
    obtain ⟨r, hr, h1, h2⟩ := ih (c + 1) l1 (by omega) (by omega) (by rw [k1.len]; exact hl) (hB.perm k1.perm) (by
     intro q hq
     by_cases hq2 : q = c
     ·subst hq2
      exact k2.mono (Nat.le_refl _) (by omega)
     ·exact k1.srt (hs q (by omega)) (Or.inl (by omega)))
    refine ⟨r, ?_, h1.trans k1.perm, h2⟩
    refine Ev.step (fun k => by rw [api_Term_58_at52.l0]) ?_
    refine evp (by omega) (evb hr1 ?_)
    rw [show wrap64 (((c * 20 + 20 : Nat) : Int) + 20) = (((c + 1) * 20 + 20 : Nat) : Int) from by rw [w64] <;> omega]
    rw [show ((c * 20 + 20 : Nat) : Int) = (((c + 1) * 20 : Nat) : Int) from by omega]
    exact hr
   ·obtain ⟨l1, hr1, k1, k2⟩ := ins_sorts (c * 20) n n l hcn (Nat.le_refl _) (by omega) hl hB
    obtain ⟨r, hr, h1, h2⟩ := rest l1 (by rw [k1.len]; exact hl) (hB.perm k1.perm) (by
     intro q _
     by_cases hq : q < c
     ·exact k1.srt (hs q hq) (Or.inl (by omega))
     ·by_cases hq2 : q = c
      ·subst hq2
       exact k2.mono (Nat.le_refl _) (by omega)
      ·exact Srt.small (by omega))
    refine ⟨r, ?_, h1.trans k1.perm, h2⟩
    refine Ev.step (fun k => by rw [api_Term_58_at52.l0]) ?_
    exact evn (by omega) (evb hr1 hr)
theorem st_l2 (n s : Nat) (hn : n < 288230376151711744) (hs0 : 0 < s) (hsn : s < n) (rest : ∀ l : List S44, l.length = n → Bd l → Blks l (s * 2) 0 n → ∃ r, Ev (fun k => api_Term_58_at52.l1 k l (n : Int) ((s * 2 : Nat) : Int)) r ∧ r.Perm l ∧ Srt r 0 n) (d : Nat) :
   ∀ (c a : Nat) (l : List S44), a = c * (s * 2) → n + 1 - a ≤ d → a ≤ n → l.length = n → Bd l → (∀ q, q < c → Srt l (q * (s * 2)) (min ((q + 1) * (s * 2)) n)) → Blks l s (c * 2) n →
   ∃ r, Ev (fun k => api_Term_58_at52.l2 k l (n : Int) (s : Int) (a : Int) ((a + 2 * s : Nat) : Int)) r ∧ r.Perm l ∧ Srt r 0 n := by
  induction d with
  | zero => intro c a l ha hd hcn; omega
  | succ d ih =>
   intro c a l ha hd hcn hl hB hs hb
   have hcs : (c + 1) * (s * 2) = a + 2 * s := by rw [Nat.add_mul, ← ha, Nat.one_mul, Nat.mul_comm s 2]
   have e1 : c * 2 * s = a := by rw [ha, Nat.mul_assoc, Nat.mul_comm 2 s]
   have e2 : (c * 2 + 1) * s = a + s := by rw [Nat.add_mul, e1, Nat.one_mul]
   have e3 : (c * 2 + 1 + 1) * s = a + s + s := by rw [Nat.add_mul, e2, Nat.one_mul]
   have b1 := hb (c * 2) (Nat.le_refl _)
   have b2 := hb (c * 2 + 1) (by omega)
   rw [e1, e2] at b1
   rw [e2, e3] at b2
   have le_a : ∀ q, q < c → (q + 1) * (s * 2) ≤ a := fun q hq => by rw [ha]; exact Nat.mul_le_mul_right _ hq
   by_cases hlt : a + 2 * s ≤ n
   ·obtain ⟨l1, hr1, k1, k2⟩ := merges n (by omega) _ a (a + s) (a + 2 * s) l (Nat.le_refl _) (by omega) (by omega) hlt hl hB (b1.mono (Nat.le_refl _) (by omega)) (b2.mono (Nat.le_refl _) (by omega))
    obtain ⟨r, hr, h1, h2⟩ := ih (c + 1) (a + 2 * s) l1 hcs.symm (by omega) hlt (by rw [k1.len]; exact hl) (hB.perm k1.perm) (by
     intro q hq
     by_cases hq2 : q = c
     ·subst hq2
      rw [hcs, ← ha]
      exact k2.mono (Nat.le_refl _) (by omega)
     ·have := le_a q (by omega)
      exact k1.srt (hs q (by omega)) (Or.inl (by omega)))
     (by
      intro q hq
      have : a + 2 * s ≤ q * s := by
       have h3 : (c + 1) * 2 * s ≤ q * s := Nat.mul_le_mul_right _ hq
       have h4 : (c + 1) * 2 * s = a + 2 * s := by rw [← hcs, Nat.mul_assoc, Nat.mul_comm 2 s]
       omega
      exact k1.srt (hb q (by omega)) (Or.inr this))
    refine ⟨r, ?_, h1.trans k1.perm, h2⟩
    refine Ev.step (fun k => by rw [api_Term_58_at52.l2]) ?_
    refine evp (by omega) ?_
    rw [show wrap64 ((a : Int) + (s : Int)) = ((a + s : Nat) : Int) from by rw [w64] <;> omega]
    refine evb hr1 ?_
    rw [show wrap64 (2 * (s : Int)) = ((2 * s : Nat) : Int) from by rw [w64] <;> omega, show wrap64 (((a + 2 * s : Nat) : Int) + ((2 * s : Nat) : Int)) = ((a + 2 * s + 2 * s : Nat) : Int) from by rw [w64] <;> omega]
    exact hr
   ·by_cases hlast : a + s < n
    ·obtain ⟨l1, hr1, k1, k2⟩ := merges n (by omega) _ a (a + s) n l (Nat.le_refl _) (by omega) hlast (Nat.le_refl _) hl hB (b1.mono (Nat.le_refl _) (by omega)) (b2.mono (Nat.le_refl _) (by omega))
     obtain ⟨r, hr, h1, h2⟩ := rest l1 (by rw [k1.len]; exact hl) (hB.perm k1.perm) (by
      intro q _
      by_cases hq : q < c
      ·have := le_a q hq
       exact k1.srt (hs q hq) (Or.inl (by omega))
      ·by_cases hq2 : q = c
       ·subst hq2
        rw [hcs, ← ha]
        exact k2.mono (Nat.le_refl _) (by omega)
       ·have h3 : (c + 1) * (s * 2) ≤ q * (s * 2) := Nat.mul_le_mul_right _ (by omega)
        exact Srt.small (by omega))
     refine ⟨r, ?_, h1.trans k1.perm, h2⟩
     refine Ev.step (fun k => by rw [api_Term_58_at52.l2]) ?_
     refine evn (by omega) ?_
     rw [show wrap64 ((a : Int) + (s : Int)) = ((a + s : Nat) : Int) from by rw [w64] <;> omega, show wrap64 ((s : Int) * 2) = ((s * 2 : Nat) : Int) from by rw [w64] <;> omega]
     exact evp (by omega) (evb hr1 hr)
    ·obtain ⟨r, hr, h1, h2⟩ := rest l hl hB (by
      intro q _
      by_cases hq : q < c
      ·exact hs q hq
      ·by_cases hq2 : q = c
       ·subst hq2
        rw [hcs, ← ha]
        exact b1.mono (Nat.le_refl _) (by omega)
       ·have h3 : (c + 1) * (s * 2) ≤ q * (s * 2) := Nat.mul_le_mul_right _ (by omega)
        exact Srt.small (by omega))
     refine ⟨r, ?_, h1, h2⟩
     refine Ev.step (fun k => by rw [api_Term_58_at52.l2]) ?_
     refine evn (by omega) ?_
     rw [show wrap64 ((a : Int) + (s : Int)) = ((a + s : Nat) : Int) from by rw [w64] <;> omega, show wrap64 ((s : Int) * 2) = ((s * 2 : Nat) : Int) from by rw [w64] <;> omega]
     exact evn (by omega) hr
theorem st_l1 (n : Nat) (hn : n < 288230376151711744) (d : Nat) : ∀ (s : Nat) (l : List S44), n - s ≤ d → 0 < s → s ≤ 2 * n + 20 → l.length = n → Bd l → Blks l s 0 n →
   ∃ r, Ev (fun k => api_Term_58_at52.l1 k l (n : Int) (s : Int)) r ∧ r.Perm l ∧ Srt r 0 n := by
  induction d with
  | zero =>
   intro s l hd hs0 hs2 hl hB hb
   refine ⟨l, ?_, List.Perm.refl _, ?_⟩
   ·refine Ev.step (fun k => by rw [api_Term_58_at52.l1]) ?_
    exact evn (by omega) (evr _)
   ·have := hb 0 (Nat.le_refl _)
    rw [Nat.zero_mul, Nat.zero_add, Nat.one_mul] at this
    exact this.mono (Nat.le_refl _) (by omega)
  | succ d ih =>
   intro s l hd hs0 hs2 hl hB hb
   by_cases hlt : s < n
   ·obtain ⟨r, hr, h1, h2⟩ := st_l2 n s hn hs0 hlt (fun l hl hB hb => ih (s * 2) l (by omega) (by omega) (by omega) hl hB hb) _ 0 0 l (by omega) (Nat.le_refl _) (by omega) hl hB (fun q hq => by omega) hb
    refine ⟨r, ?_, h1, h2⟩
    refine Ev.step (fun k => by rw [api_Term_58_at52.l1]) ?_
    refine evp (by omega) ?_
    rw [show wrap64 (2 * (s : Int)) = ((0 + 2 * s : Nat) : Int) from by rw [w64] <;> omega]
    exact hr
   ·exact ih s l (by omega) hs0 hs2 hl hB hb
theorem sort_terms (l : List S44) (hn : l.length < 288230376151711744) (hB : Bd l) :
   ∃ r, Ev (fun k => api_Term_51_at52.f k l) r ∧ r.Perm l ∧ Srt r 0 l.length := by
  obtain ⟨r, hr, h1, h2⟩ := st_l0 l.length hn (fun l' hl hB hb => by
   by_cases h0 : l.length = 0
   ·exact st_l1 l.length hn _ 20 l' (Nat.le_refl _) (by omega) (by omega) hl hB hb
   ·exact st_l1 l.length hn _ 20 l' (Nat.le_refl _) (by omega) (by omega) hl hB hb) _ 0 l (Nat.le_refl _) (by omega) rfl hB (fun q hq => by omega)
  refine ⟨r, ?_, h1, h2⟩
  unfold api_Term_51_at52.f api_Term_58_at52.f
  exact evb hr (evr _)
end Go.Proofs.Ytikpfbfeoifmkaa.Z
end
section
namespace Go.Proofs.Ytikpfbfeoifmkaa.Z
open Go.RowKit Go.Proofs.Ytikpfbfeoifmkaa.X Go.Proofs.YtikpfbfeoifmkaaW.PrintWords Go.Proofs.YtikpfbfeoifmkaaW.PrintLast
set_option linter.unusedVariables false
set_option linter.unusedSimpArgs false
def nz (t : S44) : Bool := !(t.f1 == 0)
theorem take_succ_gd {l : List S44} {j : Nat} (h : j < l.length) : l.take (j + 1) = l.take j ++ [gd l j] := by
  rw [List.take_succ_eq_append_getElem h, gd_lt h]
theorem ix54_l0 (l : List S44) (hl : l.length < 1152921504606846976) (d : Nat) : ∀ (i : Nat), l.length - i = d → i ≤ l.length → (∀ p, p < i → nz (gd l p) = true) →
   ∃ r : Int, Ev (fun k => api_Term_49_at54.l0 k l (l.length : Int) (i : Int)) r ∧ ((r = -1 ∧ ∀ p, p < l.length → nz (gd l p) = true) ∨ ∃ q : Nat, r = q ∧ q < l.length ∧ nz (gd l q) = false ∧ ∀ p, p < q → nz (gd l p) = true) := by
  induction d with
  | zero =>
   intro i hd hi h
   refine ⟨-1, ?_, Or.inl ⟨rfl, fun p hp => h p (by omega)⟩⟩
   refine Ev.step (fun k => by rw [api_Term_49_at54.l0]) ?_
   exact evn (by omega) (evr _)
  | succ d ih =>
   intro i hd hi h
   have hf : ∀ x y, fact_gather_2.f x y = some (y == 0) := fun x y => rfl
   by_cases hz : nz (gd l i) = true
   ·obtain ⟨r, hr, k⟩ := ih (i + 1) (by omega) (by omega) (fun p hp => by
     by_cases e : p = i
     ·rw [e]; exact hz
     ·exact h p (by omega))
    refine ⟨r, ?_, k⟩
    refine Ev.step (fun k => by rw [api_Term_49_at54.l0]) ?_
    refine evp (by omega) (evp (by omega) (evp (by omega) ?_))
    rw [rd_gd, hf]
    refine evs (evn (by unfold nz at hz; simpa using hz) ?_)
    rw [show wrap64 ((i : Int) + 1) = ((i + 1 : Nat) : Int) from by rw [w64] <;> omega]
    exact hr
   ·refine ⟨i, ?_, Or.inr ⟨i, rfl, by omega, by simpa using hz, h⟩⟩
    refine Ev.step (fun k => by rw [api_Term_49_at54.l0]) ?_
    refine evp (by omega) (evp (by omega) (evp (by omega) ?_))
    rw [rd_gd, hf]
    exact evs (evp (by unfold nz at hz; simpa using hz) (evr _))
theorem filter_all {l : List S44} (h : ∀ p, p < l.length → nz (gd l p) = true) : l.filter nz = l := by
  rw [List.filter_eq_self]
  intro t ht
  obtain ⟨i, hi, rfl⟩ := List.mem_iff_getElem.1 ht
  have := h i hi
  rwa [gd_lt hi] at this
theorem del_l0 (l : List S44) (hl : l.length < 1152921504606846976) (d : Nat) : ∀ (i j : Nat) (x : List S44), l.length - j = d → i < j → j ≤ l.length → x.length = l.length → x.take i = (l.take j).filter nz → x.drop j = l.drop j →
   Ev (fun k => api_Term_53_at54.l0 k x (i : Int) (j : Int)) (l.filter nz) := by
  induction d with
  | zero =>
   intro i j x hd hij hj hx h1 h2
   refine Ev.step (fun k => by rw [api_Term_53_at54.l0]) ?_
   refine evn (by omega) (evp (by omega) (evp (by omega) (evr' ?_)))
   rw [List.take_of_length_le (l := l) (i := j) (by omega)] at h1
   rw [Int.toNat_natCast, List.take_append_of_le_length (by rw [List.length_take]; omega), List.take_take, Nat.min_self, h1]
  | succ d ih =>
   intro i j x hd hij hj hx h1 h2
   have hf : ∀ x y, fact_gather_2.f x y = some (y == 0) := fun x y => rfl
   have hxj : gd x j = gd l j := by
    have : (x.drop j)[0]? = (l.drop j)[0]? := by rw [h2]
    rw [List.getElem?_drop, List.getElem?_drop, Nat.add_zero] at this
    simp only [gd, List.getD_eq_getElem?_getD, this]
   have hj1 : j < l.length := by omega
   by_cases hz : nz (gd l j) = true
   ·have g := ih (i + 1) (j + 1) (x.set i (gd x j)) (by omega) (by omega) (by omega) (by rw [List.length_set]; exact hx)
     (by
      rw [take_succ_gd hj1, List.filter_append, ← h1, take_succ_gd (by rw [List.length_set]; omega), gd_set _ _ (by omega), if_pos rfl, List.take_set_of_le (Nat.le_refl _)]
      rw [hxj, List.filter_cons, if_pos hz, List.filter_nil])
     (by
      rw [List.drop_set_of_lt (by omega)]
      have : (x.drop j).drop 1 = (l.drop j).drop 1 := by rw [h2]
      rwa [List.drop_drop, List.drop_drop] at this)
    refine Ev.step (fun k => by rw [api_Term_53_at54.l0]) ?_
    refine evp (by omega) (evp (by omega) ?_)
    rw [rd_gd, hf]
    refine evs (evn (by unfold nz at hz; rw [hxj]; simpa using hz) (evp (by omega) (evp (by omega) ?_)))
    rw [show wrap64 ((i : Int) + 1) = ((i + 1 : Nat) : Int) from by rw [w64] <;> omega, show wrap64 ((j : Int) + 1) = ((j + 1 : Nat) : Int) from by rw [w64] <;> omega]
    exact g
   ·have g := ih i (j + 1) x (by omega) (by omega) (by omega) hx
     (by
      rw [take_succ_gd hj1, List.filter_append, ← h1, List.filter_cons, if_neg hz, List.filter_nil, List.append_nil])
     (by
      have : (x.drop j).drop 1 = (l.drop j).drop 1 := by rw [h2]
      rwa [List.drop_drop, List.drop_drop] at this)
    refine Ev.step (fun k => by rw [api_Term_53_at54.l0]) ?_
    refine evp (by omega) (evp (by omega) ?_)
    rw [rd_gd, hf]
    refine evs (evp (by unfold nz at hz; rw [hxj]; simpa using hz) ?_)
    rw [show wrap64 ((j : Int) + 1) = ((j + 1 : Nat) : Int) from by rw [w64] <;> omega]
    exact g
theorem delete_zeros (l : List S44) (hl : l.length < 1152921504606846976) : Ev (fun k => api_Term_53_at54.f k l) (l.filter nz) := by
  unfold api_Term_53_at54.f api_Term_49_at54.f
  obtain ⟨r, hr, k⟩ := ix54_l0 l hl _ 0 rfl (Nat.zero_le _) (fun p hp => by omega)
  refine evb hr ?_
  rcases k with ⟨rfl, k⟩ | ⟨q, rfl, hq, k1, k2⟩
  ·exact evp rfl (evr' (filter_all k).symm)
  ·refine evn (by omega) ?_
   rw [show wrap64 ((q : Int) + 1) = ((q + 1 : Nat) : Int) from by rw [w64] <;> omega]
   refine del_l0 l hl _ q (q + 1) l rfl (by omega) (by omega) rfl ?_ rfl
   rw [take_succ_gd hq, List.filter_append, List.filter_cons, if_neg (by simp [k1]), List.filter_nil, List.append_nil]
   have := filter_all (l := l.take q) (fun p hp => by
    rw [List.length_take] at hp
    have h1 := k2 p (by omega)
    rw [gd_lt (by omega)] at h1
    rw [gd_lt (by rw [List.length_take]; omega), List.getElem_take]
    exact h1)
   exact this.symm
def Sm (l : List S44) : Prop := ∀ t ∈ l, -1048576 ≤ t.f1 ∧ t.f1 ≤ 1048576
theorem Sm.gd {l : List S44} (h : Sm l) (i : Nat) : -1048576 ≤ (gd l i).f1 ∧ (gd l i).f1 ≤ 1048576 := by
  by_cases hi : i < l.length
  ·rw [gd_lt hi]
   exact h _ (by simp)
  ·rw [gd_ge (by omega)]
   simp [z44]
def Last (L o : List S44) (t : Nat) : Prop := 0 < t → ∃ o' x, o = o' ++ [x] ∧ x.f0 = K L (t - 1)
theorem ga_l0 (L : List S44) (hL : L.length ≤ 1024) (hs : Srt L 0 L.length) (hSm : Sm L) (d : Nat) : ∀ (t : Nat) (o : List S44), L.length - t = d → t ≤ L.length → o.length ≤ t →
   (o.Pairwise fun x y => x.f0 < y.f0) → (∀ b, cf o b = cf (L.take t) b) → (∀ x ∈ o, -(t * 1048576 : Int) ≤ x.f1 ∧ x.f1 ≤ t * 1048576) → (∀ x ∈ o, ∃ p, p < t ∧ x.f0 = K L p) → Last L o t →
   ∃ r, Ev (fun k => fact_gather.l0 k L o L (L.length : Int) (t : Int)) r ∧ Canon r (cf L) ∧ (∀ x ∈ r, ∃ p, p < L.length ∧ x.f0 = K L p) ∧ r.length ≤ L.length ∧ (∀ x ∈ r, -1073741824 ≤ x.f1 ∧ x.f1 ≤ 1073741824) := by
  induction d with
  | zero =>
   intro t o hd ht hol hinc hcf hb hk hlast
   rw [List.take_of_length_le (by omega)] at hcf
   refine ⟨o.filter nz, ?_, Canon.filter hinc hcf, fun x hx => ?_, Nat.le_trans (List.length_filter_le _ _) (by omega), fun x hx => ?_⟩
   ·refine Ev.step (fun k => by rw [fact_gather.l0]) ?_
    refine evn (by omega) ?_
    exact evb (delete_zeros o (by omega)) (evr _)
   ·obtain ⟨p, h1, h2⟩ := hk x (List.mem_filter.1 hx).1
    exact ⟨p, by omega, h2⟩
   ·have := hb x (List.mem_filter.1 hx).1
    omega
  | succ d ih =>
   intro t o hd ht hol hinc hcf hb hk hlast
   have ht1 : t < L.length := by omega
   have htake : ∀ b, cf (L.take (t + 1)) b = cf (L.take t) b + (if (gd L t).f0 = b then (gd L t).f1 else 0) := fun b => by
    rw [take_succ_gd ht1, cf_append, cf_single]
   have hsm := hSm.gd t
   have hnew : (∀ x ∈ o, x.f0 < (gd L t).f0) → ∃ r, Ev (fun k => fact_gather.l0 k L (o ++ [gd L t]) L (L.length : Int) ((t + 1 : Nat) : Int)) r ∧ Canon r (cf L) ∧ (∀ x ∈ r, ∃ p, p < L.length ∧ x.f0 = K L p) ∧ r.length ≤ L.length ∧ (∀ x ∈ r, -1073741824 ≤ x.f1 ∧ x.f1 ≤ 1073741824) := by
    intro hlt
    refine ih (t + 1) (o ++ [gd L t]) (by omega) (by omega) (by simp; omega) ?_ (fun b => ?_) (fun x hx => ?_) (fun x hx => ?_) (fun _ => ⟨o, gd L t, rfl, rfl⟩)
    ·rw [List.pairwise_append]
     exact ⟨hinc, List.pairwise_singleton _ _, fun x hx y hy => by rw [List.mem_singleton.1 hy]; exact hlt x hx⟩
    ·rw [cf_append, cf_single, hcf, htake]
    ·rcases List.mem_append.1 hx with hx | hx
     ·have := hb x hx
      omega
     ·rw [List.mem_singleton.1 hx]
      omega
    ·rcases List.mem_append.1 hx with hx | hx
     ·obtain ⟨p, h1, h2⟩ := hk x hx
      exact ⟨p, by omega, h2⟩
     ·rw [List.mem_singleton.1 hx]
      exact ⟨t, by omega, rfl⟩
   by_cases h0 : t = 0
   ·subst h0
    have ho : o = [] := List.eq_nil_of_length_eq_zero (by omega)
    subst ho
    obtain ⟨r, hr, k⟩ := hnew (by simp)
    refine ⟨r, ?_, k⟩
    refine Ev.step (fun k => by rw [fact_gather.l0]) ?_
    refine evp (by omega) (evp (by omega) (evp (by omega) (evn (by omega) (evp (by simp) ?_))))
    rw [show wrap64 (((0 : Nat) : Int) + 1) = ((0 + 1 : Nat) : Int) from by rw [w64] <;> omega]
    exact hr
   ·obtain ⟨o', x, ho, hx⟩ := hlast (by omega)
    have hKt : K L (t - 1) ≤ K L t := hs (t - 1) t (by omega) (by omega) ht1
    have hpre : Ev (fun k => if (gd L (t - 1)).f0 = (gd L t).f0 then (if 0 ≤ (wrap64 ((o.length : Int) - 1)) then (if (wrap64 ((o.length : Int) - 1)) < (o.length : Int) then (fact_gather.l0 k L (o.set ((wrap64 ((o.length : Int) - 1)) : Int).toNat (⟨(rd_T44 o (wrap64 ((o.length : Int) - 1))).f0, wrap64 (((rd_T44 o (wrap64 ((o.length : Int) - 1))).f1) + ((gd L t).f1))⟩ : S44)) L (L.length : Int) ((t + 1 : Nat) : Int)) else (none)) else (none)) else (if o.length < 8796093022208 then (fact_gather.l0 k L (o ++ [(⟨(gd L t).f0, (gd L t).f1⟩ : S44)]) L (L.length : Int) ((t + 1 : Nat) : Int)) else (none))) = Ev (fun k => if (gd L (t - 1)).f0 = (gd L t).f0 then (if 0 ≤ (wrap64 ((o.length : Int) - 1)) then (if (wrap64 ((o.length : Int) - 1)) < (o.length : Int) then (fact_gather.l0 k L (o.set ((wrap64 ((o.length : Int) - 1)) : Int).toNat (⟨(rd_T44 o (wrap64 ((o.length : Int) - 1))).f0, wrap64 (((rd_T44 o (wrap64 ((o.length : Int) - 1))).f1) + ((gd L t).f1))⟩ : S44)) L (L.length : Int) ((t + 1 : Nat) : Int)) else (none)) else (none)) else (if o.length < 8796093022208 then (fact_gather.l0 k L (o ++ [gd L t]) L (L.length : Int) ((t + 1 : Nat) : Int)) else (none))) := rfl
    have key : ∃ r, Ev (fun k => if (gd L (t - 1)).f0 = (gd L t).f0 then (if 0 ≤ (wrap64 ((o.length : Int) - 1)) then (if (wrap64 ((o.length : Int) - 1)) < (o.length : Int) then (fact_gather.l0 k L (o.set ((wrap64 ((o.length : Int) - 1)) : Int).toNat (⟨(rd_T44 o (wrap64 ((o.length : Int) - 1))).f0, wrap64 (((rd_T44 o (wrap64 ((o.length : Int) - 1))).f1) + ((gd L t).f1))⟩ : S44)) L (L.length : Int) ((t + 1 : Nat) : Int)) else (none)) else (none)) else (if o.length < 8796093022208 then (fact_gather.l0 k L (o ++ [gd L t]) L (L.length : Int) ((t + 1 : Nat) : Int)) else (none))) r ∧ Canon r (cf L) ∧ (∀ x ∈ r, ∃ p, p < L.length ∧ x.f0 = K L p) ∧ r.length ≤ L.length ∧ (∀ x ∈ r, -1073741824 ≤ x.f1 ∧ x.f1 ≤ 1073741824) := by
     by_cases he : (gd L (t - 1)).f0 = (gd L t).f0
     ·have hol1 : o.length = o'.length + 1 := by rw [ho]; simp
      have hw : wrap64 ((o.length : Int) - 1) = ((o'.length : Nat) : Int) := by rw [w64] <;> omega
      have hgx : gd o o'.length = x := by
       rw [gd_lt (by omega)]
       simp [ho]
      have hbx := hb x (by rw [ho]; simp)
      have hw2 : wrap64 (x.f1 + (gd L t).f1) = x.f1 + (gd L t).f1 := by rw [w64] <;> omega
      have hset : o.set o'.length (⟨x.f0, x.f1 + (gd L t).f1⟩ : S44) = o' ++ [⟨x.f0, x.f1 + (gd L t).f1⟩] := by
       rw [ho, List.set_append_right _ _ (Nat.le_refl _), Nat.sub_self]
       rfl
      have hKx : x.f0 = (gd L t).f0 := by rw [hx]; exact he
      have hinc' := hinc
      rw [ho, List.pairwise_append] at hinc'
      obtain ⟨r, hr, k⟩ := ih (t + 1) (o' ++ [⟨x.f0, x.f1 + (gd L t).f1⟩]) (by omega) (by omega) (by simp; omega)
       (by
        rw [List.pairwise_append]
        exact ⟨hinc'.1, List.pairwise_singleton _ _, fun y hy z hz => by rw [List.mem_singleton.1 hz]; exact hinc'.2.2 y hy x (by simp)⟩)
       (fun b => by
        have h1 := hcf b
        rw [ho, cf_append, cf_single] at h1
        rw [cf_append, cf_single, htake, ← h1]
        show _ + (if x.f0 = b then x.f1 + (gd L t).f1 else 0) = _
        rw [hKx]
        split <;> omega)
       (fun y hy => by
        rcases List.mem_append.1 hy with hy | hy
        ·have := hb y (by rw [ho]; simp [hy])
         omega
        ·rw [List.mem_singleton.1 hy]
         show _ ≤ x.f1 + (gd L t).f1 ∧ x.f1 + (gd L t).f1 ≤ _
         omega)
       (fun y hy => by
        rcases List.mem_append.1 hy with hy | hy
        ·obtain ⟨p, h1, h2⟩ := hk y (by rw [ho]; simp [hy])
         exact ⟨p, by omega, h2⟩
        ·rw [List.mem_singleton.1 hy]
         exact ⟨t, by omega, hKx⟩)
       (fun _ => ⟨o', _, rfl, hKx⟩)
      refine ⟨r, evp he ?_, k⟩
      rw [hw]
      refine evp (by omega) (evp (by omega) ?_)
      rw [rd_gd, hgx, hw2, Int.toNat_natCast, hset]
      exact hr
     ·obtain ⟨r, hr, k⟩ := hnew (by
       intro y hy
       rw [ho] at hy hinc
       have hlt : K L (t - 1) < (gd L t).f0 := by
        unfold K at hKt
        unfold K
        omega
       rcases List.mem_append.1 hy with hy | hy
       ·have := (List.pairwise_append.1 hinc).2.2 y hy x (by simp)
        omega
       ·rw [List.mem_singleton.1 hy]
        omega)
      exact ⟨r, evn he (evp (by omega) hr), k⟩
    obtain ⟨r, hr, k⟩ := key
    refine ⟨r, ?_, k⟩
    refine Ev.step (fun k => by rw [fact_gather.l0]) ?_
    refine evp (by omega) (evp (by omega) (evp (by omega) (evp (by omega) ?_)))
    rw [show wrap64 ((t : Int) - 1) = ((t - 1 : Nat) : Int) from by rw [w64] <;> omega]
    refine evp (by omega) (evp (by omega) ?_)
    rw [rd_gd, rd_gd, show wrap64 ((t : Int) + 1) = ((t + 1 : Nat) : Int) from by rw [w64] <;> omega]
    exact hr
theorem gathers (l : List S44) (hl : l.length ≤ 1024) (hB : Bd l) (hS : Sm l) :
   ∃ r, Ev (fun k => fact_gather.f k l) r ∧ Canon r (cf l) ∧ Bd r ∧ r.length ≤ l.length ∧ (∀ x ∈ r, -1073741824 ≤ x.f1 ∧ x.f1 ≤ 1073741824) := by
  obtain ⟨s, hs, h1, h2⟩ := sort_terms l (by omega) hB
  have hsl := h1.length_eq
  obtain ⟨r, hr, k1, k2, k3, k4⟩ := ga_l0 s (by omega) (by rw [hsl]; exact h2) (fun t ht => hS t (h1.mem_iff.1 ht)) _ 0 [] rfl (Nat.zero_le _) (Nat.zero_le _) List.Pairwise.nil (fun b => rfl) (by simp) (by simp) (fun h => absurd h (by decide))
  refine ⟨r, ?_, ⟨k1.inc, k1.nz, fun b => (k1.sums b).trans (cf_perm h1 b)⟩, Bd.of_mem fun t ht => ?_, by omega, k4⟩
  ·unfold fact_gather.f api_Term_50.f
   rw [if_pos (by omega)]
   refine evs (evb hs ?_)
   rw [← hsl]
   exact hr
  ·obtain ⟨p, hp, e⟩ := k2 t ht
   rw [e]
   exact (hB.perm h1) p
end Go.Proofs.Ytikpfbfeoifmkaa.Z
end
section
namespace Go.Proofs.Ytikpfbfeoifmkaa.Z
open Go.RowKit Go.Proofs.Ytikpfbfeoifmkaa.X Go.Proofs.YtikpfbfeoifmkaaW.PrintWords Go.Proofs.YtikpfbfeoifmkaaW.PrintLast
set_option linter.unusedVariables false
set_option linter.unusedSimpArgs false
def blk (x : Int) : Bool := decide (0 ≤ x) && decide (x ≤ 255)
def sml (x : Int) : Bool := decide (-1048576 ≤ x) && decide (x ≤ 1048576)
theorem blk_iff {x : Int} : blk x = true ↔ 0 ≤ x ∧ x ≤ 255 := by simp [blk]
theorem sml_iff {x : Int} : sml x = true ↔ -1048576 ≤ x ∧ x ≤ 1048576 := by simp [sml]
theorem block_f (x : Int) : fact_block.f x = some (blk x) := by
  unfold fact_block.f blk
  by_cases h : 0 ≤ x
  ·rw [if_pos h]
   congr 1
   rw [decide_eq_true h, Bool.true_and]
   exact decide_eq_decide.2 (by omega)
  ·rw [if_neg h, decide_eq_false h, Bool.false_and]
theorem small_f (x : Int) : fact_small.f x = some (sml x) := by
  unfold fact_small.f sml
  by_cases h : -1048576 ≤ x
  ·rw [if_pos h, decide_eq_true h, Bool.true_and]
  ·rw [if_neg h, decide_eq_false h, Bool.false_and]
theorem in_f (x : Int) : timeboundref11_in.f x = some (sml x) := small_f x
theorem find_loop {α : Type} (F : Nat → List α → Int → Int → Option Int) (G : Nat → List α → Int → Option Bool) (p : Nat → Bool) (x : List α) (hx : x.length < 1152921504606846976)
   (step : ∀ k (i : Int), F (k + 1) x x.length i = if i < (x.length : Int) then (if 0 ≤ i then (if i < (x.length : Int) then ((G k x i).bind fun t => (if t = true then (some i) else (F k x x.length (wrap64 (i + 1))))) else (none)) else (none)) else (some (-1)))
   (hG : ∀ i : Nat, i < x.length → Ev (fun k => G k x i) (p i)) (d : Nat) : ∀ i : Nat, x.length - i = d → i ≤ x.length → (∀ q, q < i → p q = false) →
   ∃ r : Int, Ev (fun k => F k x x.length i) r ∧ ((r = -1 ∧ ∀ q, q < x.length → p q = false) ∨ (0 ≤ r ∧ ∃ q, q < x.length ∧ p q = true)) := by
  induction d with
  | zero =>
   intro i hd hi h
   exact ⟨-1, Ev.step (fun k => step k i) (evn (by omega) (evr _)), Or.inl ⟨rfl, fun q hq => h q (by omega)⟩⟩
  | succ d ih =>
   intro i hd hi h
   cases hp : p i with
   | true =>
    refine ⟨i, Ev.step (fun k => step k i) (evp (by omega) (evp (by omega) (evp (by omega) ?_))), Or.inr ⟨by omega, i, by omega, hp⟩⟩
    have := hG i (by omega)
    rw [hp] at this
    exact evb this (evp rfl (evr _))
   | false =>
    obtain ⟨r, hr, k⟩ := ih (i + 1) (by omega) (by omega) (fun q hq => by
     by_cases e : q = i
     ·rw [e]; exact hp
     ·exact h q (by omega))
    refine ⟨r, Ev.step (fun k => step k i) (evp (by omega) (evp (by omega) (evp (by omega) ?_))), k⟩
    have := hG i (by omega)
    rw [hp] at this
    refine evb this (evn (by simp) ?_)
    rw [show wrap64 ((i : Int) + 1) = ((i + 1 : Nat) : Int) from by rw [w64] <;> omega]
    exact hr
theorem has_loop {α : Type} (F : Nat → List α → Int → Int → Option Int) (G : Nat → List α → Int → Option Bool) (p : Nat → Bool) (x : List α) (hx : x.length < 1152921504606846976)
   (step : ∀ k (i : Int), F (k + 1) x x.length i = if i < (x.length : Int) then (if 0 ≤ i then (if i < (x.length : Int) then ((G k x i).bind fun t => (if t = true then (some i) else (F k x x.length (wrap64 (i + 1))))) else (none)) else (none)) else (some (-1)))
   (hG : ∀ i : Nat, i < x.length → Ev (fun k => G k x i) (p i)) :
   ∃ b : Bool, Ev (fun k => (F k x x.length 0).bind fun t => some (decide (t ≥ 0))) b ∧ (b = true ↔ ∃ q, q < x.length ∧ p q = true) := by
  obtain ⟨r, hr, k⟩ := find_loop F G p x hx step hG _ 0 rfl (Nat.zero_le _) (fun q hq => by omega)
  refine ⟨decide (r ≥ 0), evb hr (evr _), ?_⟩
  rcases k with ⟨rfl, k⟩ | ⟨h0, k⟩
  ·constructor
   ·intro h; simp at h
   ·rintro ⟨q, h1, h2⟩
    rw [k q h1] at h2
    cases h2
  ·constructor
   ·intro _; exact k
   ·intro _; simpa using h0
def okT (t : S44) : Bool := blk t.f0 && sml t.f1
theorem has33 (l : List S44) (hl : l.length < 1152921504606846976) : ∃ b, Ev (fun k => api_Term_32_at33.f k l) b ∧ (b = true ↔ ¬ ∀ t ∈ l, okT t = true) := by
  obtain ⟨b, hb, k⟩ := has_loop api_Term_49_at33.l0 (fun _ x i => fact_Of_1.f (rd_T44 x i).f0 (rd_T44 x i).f1) (fun i => !okT (gd l i)) l hl (fun k i => by rw [api_Term_49_at33.l0])
   (fun i hi => evc (fun k => by
    rw [rd_gd]
    unfold fact_Of_1.f okT
    rw [block_f, Option.bind_some]
    cases blk (gd l i).f0 with
    | true => rw [if_pos rfl, small_f, Option.bind_some, Bool.true_and]
    | false => rw [if_neg (by simp), Bool.false_and]; rfl) (evr _))
  refine ⟨b, hb, k.trans ⟨?_, ?_⟩⟩
  ·rintro ⟨q, h1, h2⟩ h
   rw [gd_lt h1, h _ (by simp)] at h2
   cases h2
  ·intro h
   refine Classical.byContradiction fun hn => h fun t ht => ?_
   obtain ⟨i, hi, rfl⟩ := List.mem_iff_getElem.1 ht
   cases e : okT l[i] with
   | true => rfl
   | false => exact absurd ⟨i, hi, by rw [gd_lt hi, e]; rfl⟩ hn
theorem has35 (l : List S44) (hl : l.length < 1152921504606846976) : ∃ b, Ev (fun k => api_Term_32_at35.f k l) b ∧ (b = true ↔ ¬ ∀ t ∈ l, sml t.f1 = true) := by
  obtain ⟨b, hb, k⟩ := has_loop api_Term_49_at35.l0 (fun _ x i => fact_Of_2.f (rd_T44 x i).f0 (rd_T44 x i).f1) (fun i => !sml (gd l i).f1) l hl (fun k i => by rw [api_Term_49_at35.l0])
   (fun i hi => evc (fun k => by
    rw [rd_gd]
    unfold fact_Of_2.f
    rw [small_f, Option.bind_some]) (evr _))
  refine ⟨b, hb, k.trans ⟨?_, ?_⟩⟩
  ·rintro ⟨q, h1, h2⟩ h
   rw [gd_lt h1, h _ (by simp)] at h2
   cases h2
  ·intro h
   refine Classical.byContradiction fun hn => h fun t ht => ?_
   obtain ⟨i, hi, rfl⟩ := List.mem_iff_getElem.1 ht
   cases e : sml l[i].f1 with
   | true => rfl
   | false => exact absurd ⟨i, hi, by rw [gd_lt hi, e]; rfl⟩ hn
def Fine (l : List S44) (m : Int) : Prop := sml m = true ∧ ∀ t ∈ l, okT t = true
theorem Fine.bd {l : List S44} {m : Int} (h : Fine l m) : Bd l := Bd.of_mem fun t ht => by
  have := h.2 t ht
  unfold okT at this
  rw [Bool.and_eq_true, blk_iff] at this
  exact this.1
theorem Fine.sm {l : List S44} {m : Int} (h : Fine l m) : Sm l := fun t ht => by
  have := h.2 t ht
  unfold okT at this
  rw [Bool.and_eq_true, sml_iff] at this
  exact this.2
def OfRes (r : List S44) (m : Int) (x : List S44 × Int × Int) : Prop :=
  (64 < r.length ∧ x = ([], 0, 4)) ∨ (r.length ≤ 64 ∧ (∀ t ∈ r, sml t.f1 = true) ∧ x = (r, m, 0)) ∨ (r.length ≤ 64 ∧ (¬ ∀ t ∈ r, sml t.f1 = true) ∧ x = ([], 0, 3))
theorem OfRes.unique {r : List S44} {m : Int} {x y : List S44 × Int × Int} (h : OfRes r m x) (k : OfRes r m y) : x = y := by
  rcases h with ⟨a, rfl⟩ | ⟨a, b, rfl⟩ | ⟨a, b, rfl⟩ <;> rcases k with ⟨c, rfl⟩ | ⟨c, d, rfl⟩ | ⟨c, d, rfl⟩ <;> first | rfl | omega | contradiction
def OfIs (l : List S44) (m : Int) (x : List S44 × Int × Int) : Prop :=
  (1024 < l.length ∧ x = ([], 0, 4)) ∨ (l.length ≤ 1024 ∧ ¬ Fine l m ∧ x = ([], 0, 3)) ∨ (l.length ≤ 1024 ∧ Fine l m ∧ ∃ r, Canon r (cf l) ∧ Bd r ∧ r.length ≤ l.length ∧ OfRes r m x)
theorem OfIs.unique {l : List S44} {m : Int} {x y : List S44 × Int × Int} (h : OfIs l m x) (k : OfIs l m y) : x = y := by
  rcases h with ⟨a, rfl⟩ | ⟨a, b, rfl⟩ | ⟨a, b, r, c1, c2, c4, c3⟩ <;> rcases k with ⟨c, rfl⟩ | ⟨c, d, rfl⟩ | ⟨c, d, r', d1, d2, d4, d3⟩ <;> first | rfl | omega | contradiction | skip
  obtain rfl := c1.unique d1
  exact c3.unique d3
theorem of_fact (l : List S44) (m : Int) (hl : l.length < 1152921504606846976) : ∃ x, Ev (fun k => fact_Of.f k l m) x ∧ OfIs l m x := by
  unfold fact_Of.f
  by_cases h1 : 1024 < l.length
  ·exact ⟨_, evp (by omega) (evr _), Or.inl ⟨h1, rfl⟩⟩
  ·have bad : ¬ Fine l m → ∃ x, Ev (fun k => fact_Of.j0 k l m true) x ∧ OfIs l m x := fun hn =>
    ⟨_, Ev.step (fun k => by rw [fact_Of.j0]) (evp rfl (evr _)), Or.inr (Or.inl ⟨by omega, hn, rfl⟩)⟩
   by_cases h2 : sml m = true
   ·obtain ⟨b, hb, k⟩ := has33 l hl
    by_cases h3 : ∀ t ∈ l, okT t = true
    ·have hb0 : b = false := by
      cases b with
      | true => exact absurd h3 (k.1 rfl)
      | false => rfl
     subst hb0
     have hF : Fine l m := ⟨h2, h3⟩
     obtain ⟨r, hr, k1, k2, k3, k4⟩ := gathers l (by omega) hF.bd hF.sm
     have key : ∃ x, Ev (fun k => if (r.length : Int) > 64 then (some (([] : List (S44)), (0 : Int), (4 : Int))) else ((api_Term_32_at35.f k r).bind fun t112 => (if t112 = true then (some (([] : List (S44)), 0, 3)) else (some (r, m, 0))))) x ∧ OfRes r m x := by
      by_cases h4 : 64 < r.length
      ·exact ⟨_, evp (by omega) (evr _), Or.inl ⟨h4, rfl⟩⟩
      ·obtain ⟨c, hc, kc⟩ := has35 r (by omega)
       cases c with
       | true => exact ⟨_, evn (by omega) (evb hc (evp rfl (evr _))), Or.inr (Or.inr ⟨by omega, kc.1 rfl, rfl⟩)⟩
       | false => exact ⟨_, evn (by omega) (evb hc (evn (by simp) (evr _))), Or.inr (Or.inl ⟨by omega, Classical.byContradiction (fun hn => by have := kc.2 hn; cases this), rfl⟩)⟩
     obtain ⟨x, hx, kx⟩ := key
     refine ⟨x, evn (by omega) ?_, Or.inr (Or.inr ⟨by omega, hF, r, k1, k2, k3, kx⟩)⟩
     refine evc (fun k => by rw [small_f, Option.bind_some, if_pos h2]) (evb hb ?_)
     refine Ev.step (fun k => by rw [fact_Of.j0]) (evn (by simp) (evb hr hx))
    ·have hb0 : b = true := k.2 h3
     subst hb0
     obtain ⟨x, hx, kx⟩ := bad (fun h => h3 h.2)
     exact ⟨x, evn (by omega) (evc (fun k => by rw [small_f, Option.bind_some, if_pos h2]) (evb hb hx)), kx⟩
   ·obtain ⟨x, hx, kx⟩ := bad (fun h => h2 h.1)
    exact ⟨x, evn (by omega) (evc (fun k => by rw [small_f, Option.bind_some, if_neg h2]) hx), kx⟩
theorem rd_set {xs : List Int} {i : Nat} (x : Int) (j : Nat) (h : i < xs.length) : rd (xs.set i x) (j : Int) = if i = j then x else rd xs (j : Int) := by
  simp only [rd, Int.toNat_natCast, List.getD_eq_getElem?_getD, List.getElem?_set]
  split
  ·simp [h]
  ·rfl
theorem ro_l1 (S : List Int) (hS : S.length = 256) (m : Int) (c : Int → Int) (hc : ∀ b : Nat, b < 256 → rd S b = c b) (hc0 : ∀ b : Int, b < 0 ∨ 255 < b → c b = 0) (d : Nat) : ∀ (i : Nat) (o : List S44) (right : Bool), 256 - i = d → i ≤ 256 → o.length ≤ i →
   (o.Pairwise fun x y => x.f0 < y.f0) → (∀ t ∈ o, t.f1 ≠ 0) → (∀ t ∈ o, 0 ≤ t.f0 ∧ t.f0 < i) → (∀ b, cf o b = if b < i then c b else 0) → (right = true ↔ ∀ t ∈ o, sml t.f1 = true) →
   ∃ r x, Ev (fun k => timeboundref11_Of.l1 k S right (i : Int) o m) x ∧ Canon r c ∧ Bd r ∧ OfRes r m x := by
  induction d with
  | zero =>
   intro i o right hd hi hol h1 h2 h3 h4 h5
   have hC : Canon o c := ⟨h1, h2, fun b => by
    rw [h4]
    by_cases hb : b < (i : Int)
    ·rw [if_pos hb]
    ·rw [if_neg hb, hc0 b (by omega)]⟩
   have hB : Bd o := Bd.of_mem fun t ht => by have := h3 t ht; omega
   by_cases h6 : 64 < o.length
   ·refine ⟨o, _, ?_, hC, hB, Or.inl ⟨h6, rfl⟩⟩
    refine Ev.step (fun k => by rw [timeboundref11_Of.l1]) ?_
    exact evn (by omega) (evp (by omega) (evr _))
   ·cases right with
    | true =>
     refine ⟨o, _, ?_, hC, hB, Or.inr (Or.inl ⟨by omega, h5.1 rfl, rfl⟩)⟩
     refine Ev.step (fun k => by rw [timeboundref11_Of.l1]) ?_
     exact evn (by omega) (evn (by omega) (evp rfl (evr _)))
    | false =>
     refine ⟨o, _, ?_, hC, hB, Or.inr (Or.inr ⟨by omega, (fun h => by have := h5.2 h; cases this), rfl⟩)⟩
     refine Ev.step (fun k => by rw [timeboundref11_Of.l1]) ?_
     exact evn (by omega) (evn (by omega) (evn (by simp) (evr _)))
  | succ d ih =>
   intro i o right hd hi hol h1 h2 h3 h4 h5
   have hci := hc i (by omega)
   by_cases hz : rd S (i : Int) = 0
   ·obtain ⟨r, x, hx, k⟩ := ih (i + 1) o right (by omega) (by omega) (by omega) h1 h2 (fun t ht => by have := h3 t ht; omega) (fun b => by
     rw [h4]
     by_cases hb : b = (i : Int)
     ·subst hb
      rw [if_neg (by omega), if_pos (by omega), ← hci, hz]
     ·by_cases hb2 : b < (i : Int)
      ·rw [if_pos hb2, if_pos (by omega)]
      ·rw [if_neg hb2, if_neg (by omega)]) h5
    refine ⟨r, x, ?_, k⟩
    refine Ev.step (fun k => by rw [timeboundref11_Of.l1]) ?_
    refine evp (by omega) (evp (by omega) (evp (by omega) (evp hz ?_)))
    rw [show wrap64 ((i : Int) + 1) = ((i + 1 : Nat) : Int) from by rw [w64] <;> omega]
    exact hx
   ·obtain ⟨r, x, hx, k⟩ := ih (i + 1) (o ++ [⟨i, rd S i⟩]) (right && sml (rd S i)) (by omega) (by omega) (by simp; omega)
     (by
      rw [List.pairwise_append]
      exact ⟨h1, List.pairwise_singleton _ _, fun a ha b hb => by rw [List.mem_singleton.1 hb]; have := h3 a ha; exact this.2⟩)
     (fun t ht => by
      rcases List.mem_append.1 ht with ht | ht
      ·exact h2 t ht
      ·rw [List.mem_singleton.1 ht]; exact hz)
     (fun t ht => by
      rcases List.mem_append.1 ht with ht | ht
      ·have := h3 t ht; omega
      ·rw [List.mem_singleton.1 ht]
       show 0 ≤ (i : Int) ∧ (i : Int) < _
       omega)
     (fun b => by
      rw [cf_append, cf_single, h4]
      show _ + (if (i : Int) = b then rd S i else 0) = _
      by_cases hb : b = (i : Int)
      ·subst hb
       rw [if_neg (by omega), if_pos rfl, if_pos (by omega), ← hci]
       omega
      ·by_cases hb2 : b < (i : Int)
       ·rw [if_pos hb2, if_neg (by omega), if_pos (by omega)]
        omega
       ·rw [if_neg hb2, if_neg (by omega), if_neg (by omega)]
        rfl)
     (by
      rw [Bool.and_eq_true, h5]
      constructor
      ·rintro ⟨g1, g2⟩ t ht
       rcases List.mem_append.1 ht with ht | ht
       ·exact g1 t ht
       ·rw [List.mem_singleton.1 ht]; exact g2
      ·intro g
       exact ⟨fun t ht => g t (by simp [ht]), g ⟨i, rd S i⟩ (by simp)⟩)
    refine ⟨r, x, ?_, k⟩
    refine Ev.step (fun k => by rw [timeboundref11_Of.l1]) ?_
    refine evp (by omega) (evp (by omega) (evp (by omega) (evn hz (evp (by omega) (evs ?_)))))
    rw [show wrap64 ((i : Int) + 1) = ((i + 1 : Nat) : Int) from by rw [w64] <;> omega]
    cases right with
    | true => exact evp rfl (evc (fun k => by rw [in_f, Option.bind_some]) (by simpa using hx))
    | false => exact evn (by simp) (by simpa using hx)
theorem ro_l0 (l : List S44) (hl : l.length ≤ 1024) (m : Int) (hm : sml m = true) (d : Nat) : ∀ (i : Nat) (S : List Int), l.length - i = d → i ≤ l.length → S.length = 256 → (∀ t ∈ l.take i, okT t = true) → (∀ b : Nat, b < 256 → rd S b = cf (l.take i) b) → (∀ b : Nat, b < 256 → -(i * 1048576 : Int) ≤ rd S b ∧ rd S b ≤ i * 1048576) →
   ∃ x, Ev (fun k => timeboundref11_Of.l0 k l m S (i : Int)) x ∧ OfIs l m x := by
  induction d with
  | zero =>
   intro i S hd hi hS h1 h2 h3
   rw [List.take_of_length_le (by omega)] at h1 h2
   have hF : Fine l m := ⟨hm, h1⟩
   obtain ⟨r, x, hx, k1, k2, k3⟩ := ro_l1 S hS m (cf l) h2 (fun b hb => cf_none fun t ht => by have := hF.bd.mem t ht; omega) _ 0 [] true rfl (by omega) (Nat.le_refl _) List.Pairwise.nil (by simp) (by simp) (fun b => by
     show 0 = _
     split
     ·exact (cf_none fun t ht => by have := hF.bd.mem t ht; omega).symm
     ·rfl) (by simp)
   obtain ⟨r', hr', c1, c2, c3, c4⟩ := gathers l hl hF.bd hF.sm
   obtain rfl := k1.unique c1
   refine ⟨x, ?_, Or.inr (Or.inr ⟨hl, hF, r, k1, k2, c3, k3⟩)⟩
   refine Ev.step (fun k => by rw [timeboundref11_Of.l0]) ?_
   exact evn (by omega) hx
  | succ d ih =>
   intro i S hd hi hS h1 h2 h3
   have hi1 : i < l.length := by omega
   have bad : ¬ okT (gd l i) = true → OfIs l m ([], 0, 3) := fun hn => Or.inr (Or.inl ⟨hl, fun hF => hn (by rw [gd_lt hi1]; exact hF.2 _ (by simp)), rfl⟩)
   have step : Ev (fun k => timeboundref11_Of.l0 k l m S (i : Int)) = Ev (fun k => timeboundref11_Of.l0 k l m S (i : Int)) := rfl
   by_cases hb0 : (gd l i).f0 < 0
   ·refine ⟨([], 0, 3), ?_, bad (fun h => by unfold okT at h; rw [Bool.and_eq_true, blk_iff] at h; omega)⟩
    refine Ev.step (fun k => by rw [timeboundref11_Of.l0]) ?_
    refine evp (by omega) (evp (by omega) ?_)
    rw [rd_gd]
    exact evp hb0 (evr _)
   ·by_cases hb1 : (gd l i).f0 > 255
    ·refine ⟨([], 0, 3), ?_, bad (fun h => by unfold okT at h; rw [Bool.and_eq_true, blk_iff] at h; omega)⟩
     refine Ev.step (fun k => by rw [timeboundref11_Of.l0]) ?_
     refine evp (by omega) (evp (by omega) ?_)
     rw [rd_gd]
     exact evn hb0 (evp hb1 (evr _))
    ·by_cases hs : sml (gd l i).f1 = true
     ·obtain ⟨b, hb⟩ : ∃ b : Nat, (gd l i).f0 = b := ⟨(gd l i).f0.toNat, by omega⟩
      have hbl : b < S.length := by omega
      have hs' := sml_iff.1 hs
      have g3 := h3 b (by omega)
      have hw : wrap64 (rd S (b : Int) + (gd l i).f1) = rd S (b : Int) + (gd l i).f1 := by rw [w64] <;> omega
      obtain ⟨x, hx, k⟩ := ih (i + 1) (S.set b (rd S (b : Int) + (gd l i).f1)) (by omega) (by omega) (by rw [List.length_set]; exact hS)
       (fun t ht => by
        rw [take_succ_gd hi1] at ht
        rcases List.mem_append.1 ht with ht | ht
        ·exact h1 t ht
        ·rw [List.mem_singleton.1 ht]
         unfold okT
         rw [Bool.and_eq_true, blk_iff]
         exact ⟨by omega, hs⟩)
       (fun c hc => by
        rw [rd_set _ _ hbl, take_succ_gd hi1, cf_append, cf_single, hb]
        by_cases e : b = c
        ·subst e
         rw [if_pos rfl, if_pos rfl, h2 b (by omega)]
        ·rw [if_neg e, if_neg (by omega), h2 c hc]
         omega)
       (fun c hc => by
        rw [rd_set _ _ hbl]
        have g4 := h3 c hc
        by_cases e : b = c
        ·rw [if_pos e]; omega
        ·rw [if_neg e]; omega)
      refine ⟨x, ?_, k⟩
      refine Ev.step (fun k => by rw [timeboundref11_Of.l0]) ?_
      refine evp (by omega) (evp (by omega) ?_)
      rw [rd_gd]
      refine evn hb0 (evn hb1 (evc (fun k => by rw [in_f, Option.bind_some, if_pos hs]) (evp (by omega) (evp (by omega) (evp (by omega) ?_)))))
      rw [hb, hw, Int.toNat_natCast, show wrap64 ((i : Int) + 1) = ((i + 1 : Nat) : Int) from by rw [w64] <;> omega]
      exact hx
     ·refine ⟨([], 0, 3), ?_, bad (fun h => by unfold okT at h; rw [Bool.and_eq_true] at h; exact hs h.2)⟩
      refine Ev.step (fun k => by rw [timeboundref11_Of.l0]) ?_
      refine evp (by omega) (evp (by omega) ?_)
      rw [rd_gd]
      exact evn hb0 (evn hb1 (evc (fun k => by rw [in_f, Option.bind_some, if_neg hs]) (evr _)))
theorem rd_rep (n : Nat) (i : Int) : rd (List.replicate n 0) i = 0 := by
  simp only [rd, List.getD_eq_getElem?_getD, List.getElem?_replicate]
  split <;> rfl
theorem of_ref (l : List S44) (m : Int) : ∃ x, Ev (fun k => timeboundref11_Of.f k l m) x ∧ OfIs l m x := by
  unfold timeboundref11_Of.f
  by_cases h1 : 1024 < l.length
  ·exact ⟨_, evp (by omega) (evr _), Or.inl ⟨h1, rfl⟩⟩
  ·by_cases h2 : sml m = true
   ·obtain ⟨x, hx, k⟩ := ro_l0 l (by omega) m h2 _ 0 (List.replicate 256 0) rfl (Nat.zero_le _) List.length_replicate (by simp) (fun b hb => by rw [rd_rep]; rfl) (fun b hb => by rw [rd_rep]; simp)
    exact ⟨x, evn (by omega) (evc (fun k => by rw [in_f, Option.bind_some, if_pos h2, if_pos (by decide), show ((0 : Nat) : Int) = 0 from rfl]) hx), k⟩
   ·exact ⟨_, evn (by omega) (evc (fun k => by rw [in_f, Option.bind_some, if_neg h2]) (evr _)), Or.inr (Or.inl ⟨by omega, fun h => h2 h.1, rfl⟩)⟩
end Go.Proofs.Ytikpfbfeoifmkaa.Z
end
section
namespace Go.Proofs.Ytikpfbfeoifmkaa.X
open Go.RowKit Go.Proofs.YtikpfbfeoifmkaaW.PrintWords Go.Proofs.YtikpfbfeoifmkaaW.PrintLast Go.Proofs.YtikpfbfeoifmkaaW.PrintMore
attribute [local go_sem] max2_int min2_int max_two min_two max_three min_three max_four min_four
set_option linter.unusedVariables false
set_option linter.unusedSimpArgs false
mutual
def timeboundref11_Check.l0 : Nat → Int → List (S44) → Int → Option (Int)
  | 0, _, _, _ => none
  | k + 1, x3, x102000, x102001 => if x3 < (x102000.length : Int) then (if 0 ≤ x3 then (if ((rd_T44 x102000 x3).f0) < 0 then (timeboundref11_Check.j1 k x3 true x102000 x102001) else (if ((rd_T44 x102000 x3).f0) > 255 then (timeboundref11_Check.j1 k x3 true x102000 x102001) else (if ((rd_T44 x102000 x3).f1) = 0 then (timeboundref11_Check.j1 k x3 true x102000 x102001) else ((timeboundref11_in.f ((rd_T44 x102000 x3).f1)).bind fun t105 => (if t105 = true then (if x3 > 0 then (if 0 ≤ (wrap64 (x3 - 1)) then (if (wrap64 (x3 - 1)) < (x102000.length : Int) then (timeboundref11_Check.j1 k x3 (decide (((rd_T44 x102000 x3).f0) ≤ ((rd_T44 x102000 (wrap64 (x3 - 1))).f0))) x102000 x102001) else (none)) else (none)) else (timeboundref11_Check.j1 k x3 false x102000 x102001)) else (timeboundref11_Check.j1 k x3 true x102000 x102001)))))) else (none)) else (some 0)
def timeboundref11_Check.j1 : Nat → Int → Bool → List (S44) → Int → Option (Int)
  | 0, _, _, _, _ => none
  | k + 1, x3, x59, x102000, x102001 => if x59 = true then (some 10) else (timeboundref11_Check.l0 k (wrap64 (x3 + 1)) x102000 x102001)
end
def timeboundref11_Check.f (k : Nat) (l0_0 : List (S44)) (a0_1 : Int) : Option (Int) := if (l0_0.length : Int) > 64 then (some 4) else ((timeboundref11_in.f a0_1).bind fun t102 => (if t102 = true then (timeboundref11_Check.l0 k 0 l0_0 a0_1) else (some 10)))
end Go.Proofs.Ytikpfbfeoifmkaa.X
end
section
namespace Go.Proofs.Ytikpfbfeoifmkaa.Z
open Go.RowKit Go.Proofs.Ytikpfbfeoifmkaa.X Go.Proofs.YtikpfbfeoifmkaaW.PrintWords Go.Proofs.YtikpfbfeoifmkaaW.PrintLast
set_option linter.unusedVariables false
set_option linter.unusedSimpArgs false
theorem okT_iff {t : S44} : okT t = true ↔ blk t.f0 = true ∧ sml t.f1 = true := by unfold okT; rw [Bool.and_eq_true]
def Rw (l : List S44) (i : Nat) : Prop := okT (gd l i) = true ∧ (gd l i).f1 ≠ 0 ∧ (0 < i → (gd l (i - 1)).f0 < (gd l i).f0)
def Good (l : List S44) (m : Int) : Prop := sml m = true ∧ ∀ i, i < l.length → Rw l i
def ChkIs (l : List S44) (m : Int) (e : Int) : Prop :=
  (64 < l.length ∧ e = 4) ∨ (l.length ≤ 64 ∧ ¬ Good l m ∧ e = 10) ∨ (l.length ≤ 64 ∧ Good l m ∧ e = 0)
theorem ChkIs.unique {l : List S44} {m x y : Int} (h : ChkIs l m x) (k : ChkIs l m y) : x = y := by
  rcases h with ⟨a, rfl⟩ | ⟨a, b, rfl⟩ | ⟨a, b, rfl⟩ <;> rcases k with ⟨c, rfl⟩ | ⟨c, d, rfl⟩ | ⟨c, d, rfl⟩ <;> first | rfl | omega | contradiction
theorem ChkIs.zero {l : List S44} {m e : Int} (h : ChkIs l m e) (he : e = 0) : l.length ≤ 64 ∧ Good l m := by
  rcases h with ⟨a, rfl⟩ | ⟨a, b, rfl⟩ | ⟨a, b, rfl⟩
  ·cases he
  ·cases he
  ·exact ⟨a, b⟩
theorem Good.pairwise {l : List S44} {m : Int} (h : Good l m) : l.Pairwise fun x y => x.f0 < y.f0 := by
  have key : ∀ d i : Nat, i + d + 1 < l.length → (gd l i).f0 < (gd l (i + d + 1)).f0 := by
   intro d
   induction d with
   | zero =>
    intro i hi
    have := (h.2 (i + 1) hi).2.2 (by omega)
    rw [show i + 1 - 1 = i from by omega] at this
    exact this
   | succ d ih =>
    intro i hi
    have a := ih i (by omega)
    have b := (h.2 (i + (d + 1) + 1) hi).2.2 (by omega)
    rw [show i + (d + 1) + 1 - 1 = i + d + 1 from by omega] at b
    omega
  rw [List.pairwise_iff_getElem]
  intro i j hi hj hij
  have := key (j - i - 1) i (by omega)
  rw [show i + (j - i - 1) + 1 = j from by omega, gd_lt hi, gd_lt hj] at this
  exact this
theorem Good.fine {l : List S44} {m : Int} (h : Good l m) : Fine l m := ⟨h.1, fun t ht => by
  obtain ⟨i, hi, rfl⟩ := List.mem_iff_getElem.1 ht
  have := (h.2 i hi).1
  rwa [gd_lt hi] at this⟩
theorem Good.nz {l : List S44} {m : Int} (h : Good l m) : ∀ t ∈ l, t.f1 ≠ 0 := fun t ht => by
  obtain ⟨i, hi, rfl⟩ := List.mem_iff_getElem.1 ht
  have := (h.2 i hi).2.1
  rwa [gd_lt hi] at this
theorem Good.mk {l : List S44} {m : Int} (hm : sml m = true) (h1 : l.Pairwise fun x y => x.f0 < y.f0) (h2 : ∀ t ∈ l, t.f1 ≠ 0) (h3 : ∀ t ∈ l, okT t = true) : Good l m := ⟨hm, fun i hi => by
  refine ⟨by rw [gd_lt hi]; exact h3 _ (List.getElem_mem _), by rw [gd_lt hi]; exact h2 _ (List.getElem_mem _), fun h0 => ?_⟩
  rw [gd_lt hi, gd_lt (show i - 1 < l.length by omega)]
  exact List.pairwise_iff_getElem.1 h1 _ _ _ _ (by omega)⟩
theorem chk_bad (l : List S44) (m : Int) (hl : l.length ≤ 64) (i : Nat) (hi : i < l.length) (hn : ¬ Rw l i) :
   Ev (fun k => fact_Check.l0 k l l.length i l m) 10 := by
  have j1 : Ev (fun k => fact_Check.j1 k l l.length i true l m) 10 := Ev.step (fun k => by rw [fact_Check.j1]) (evp rfl (evr _))
  refine Ev.step (fun k => by rw [fact_Check.l0]) ?_
  refine evp (by omega) (evp (by omega) (evp (by omega) ?_))
  rw [rd_gd]
  by_cases h1 : blk (gd l i).f0 = true
  ·refine evc (fun k => by rw [block_f, Option.bind_some, if_pos h1]) ?_
   by_cases h2 : sml (gd l i).f1 = true
   ·refine evc (fun k => by rw [small_f, Option.bind_some, if_pos h2]) ?_
    by_cases h3 : (gd l i).f1 = 0
    ·exact evp h3 j1
    ·refine evn h3 ?_
     by_cases h4 : 0 < i
     ·have hw : wrap64 ((i : Int) - 1) = ((i - 1 : Nat) : Int) := by rw [w64] <;> omega
      refine evp (by omega) ?_
      rw [hw]
      refine evp (by omega) (evp (by omega) ?_)
      rw [rd_gd, decide_eq_true (Int.not_lt.1 fun h => hn ⟨okT_iff.2 ⟨h1, h2⟩, h3, fun _ => h⟩)]
      exact j1
     ·exact absurd ⟨okT_iff.2 ⟨h1, h2⟩, h3, fun h => absurd h h4⟩ hn
   ·exact evc (fun k => by rw [small_f, Option.bind_some, if_neg h2]) j1
  ·exact evc (fun k => by rw [block_f, Option.bind_some, if_neg h1]) j1
theorem chk_ok (l : List S44) (m : Int) (hl : l.length ≤ 64) (i : Nat) (hi : i < l.length) (h : Rw l i) (e : Int)
   (n : Ev (fun k => fact_Check.l0 k l l.length ((i + 1 : Nat) : Int) l m) e) : Ev (fun k => fact_Check.l0 k l l.length i l m) e := by
  have j1 : Ev (fun k => fact_Check.j1 k l l.length i false l m) e := by
   refine Ev.step (fun k => by rw [fact_Check.j1]) (evn (by simp) ?_)
   rw [show wrap64 ((i : Int) + 1) = ((i + 1 : Nat) : Int) from by rw [w64] <;> omega]
   exact n
  obtain ⟨h1, h3, h4⟩ := h
  rw [okT_iff] at h1
  refine Ev.step (fun k => by rw [fact_Check.l0]) ?_
  refine evp (by omega) (evp (by omega) (evp (by omega) ?_))
  rw [rd_gd]
  refine evc (fun k => by rw [block_f, Option.bind_some, if_pos h1.1, small_f, Option.bind_some, if_pos h1.2]) (evn h3 ?_)
  by_cases h5 : 0 < i
  ·have hw : wrap64 ((i : Int) - 1) = ((i - 1 : Nat) : Int) := by rw [w64] <;> omega
   refine evp (by omega) ?_
   rw [hw]
   refine evp (by omega) (evp (by omega) ?_)
   rw [rd_gd, decide_eq_false (Int.not_le.2 (h4 h5))]
   exact j1
  ·exact evn (by omega) j1
theorem chk_l0 (l : List S44) (m : Int) (hl : l.length ≤ 64) (d : Nat) : ∀ i : Nat, l.length - i = d → i ≤ l.length → (∀ p, p < i → Rw l p) →
   ∃ e, Ev (fun k => fact_Check.l0 k l l.length i l m) e ∧ ChkIs l m e := by
  induction d with
  | zero =>
   intro i hd hi h
   by_cases hm : sml m = true
   ·refine ⟨0, Ev.step (fun k => by rw [fact_Check.l0]) (evn (by omega) (evc (fun k => by rw [small_f, Option.bind_some, if_pos hm]) (evr _))), Or.inr (Or.inr ⟨hl, ⟨hm, fun p hp => h p (by omega)⟩, rfl⟩)⟩
   ·exact ⟨10, Ev.step (fun k => by rw [fact_Check.l0]) (evn (by omega) (evc (fun k => by rw [small_f, Option.bind_some, if_neg hm]) (evr _))), Or.inr (Or.inl ⟨hl, fun g => hm g.1, rfl⟩)⟩
  | succ d ih =>
   intro i hd hi h
   by_cases hr : Rw l i
   ·obtain ⟨e, he, k⟩ := ih (i + 1) (by omega) (by omega) (fun p hp => by
     by_cases e : p = i
     ·rw [e]; exact hr
     ·exact h p (by omega))
    exact ⟨e, chk_ok l m hl i (by omega) hr e he, k⟩
   ·exact ⟨10, chk_bad l m hl i (by omega) hr, Or.inr (Or.inl ⟨hl, fun g => hr (g.2 i (by omega)), rfl⟩)⟩
theorem check_fact (l : List S44) (m : Int) : ∃ e, Ev (fun k => fact_Check.f k l m) e ∧ ChkIs l m e := by
  unfold fact_Check.f
  by_cases h : 64 < l.length
  ·exact ⟨4, evp (by omega) (evr _), Or.inl ⟨h, rfl⟩⟩
  ·obtain ⟨e, he, k⟩ := chk_l0 l m (by omega) _ 0 rfl (by omega) (fun p hp => by omega)
   exact ⟨e, evn (by omega) he, k⟩
theorem same_l0 (l : List S44) (m : Int) (hl : l.length < 1152921504606846976) (d : Nat) : ∀ i : Nat, l.length - i = d → i ≤ l.length →
   Ev (fun k => timeboundref11_Same.l0 k i l m l m) true := by
  induction d with
  | zero =>
   intro i hd hi
   exact Ev.step (fun k => by rw [timeboundref11_Same.l0]) (evn (by omega) (evr _))
  | succ d ih =>
   intro i hd hi
   have := ih (i + 1) (by omega) (by omega)
   refine Ev.step (fun k => by rw [timeboundref11_Same.l0]) ?_
   refine evp (by omega) (evp (by omega) (evp (by omega) (evn (by simp) ?_)))
   rw [show wrap64 ((i : Int) + 1) = ((i + 1 : Nat) : Int) from by rw [w64] <;> omega]
   exact this
theorem same_refl (l : List S44) (m : Int) (hl : l.length < 1152921504606846976) : Ev (fun k => timeboundref11_Same.f k l m l m) true := by
  have h : Ev (fun k => timeboundref11_Same.l0 k 0 l m l m) true := same_l0 l m hl _ 0 rfl (by omega)
  unfold timeboundref11_Same.f
  refine evp rfl (Ev.step (fun k => by rw [timeboundref11_Same.j0]) ?_)
  exact evn (by simp) h
def gi (xs : List Int) (i : Nat) : Int := xs.getD i 0
theorem rd_gi (xs : List Int) (i : Nat) : rd xs (i : Int) = gi xs i := by simp [rd, gi]
def Cnt (xs : List Int) : Prop := xs.length ≤ 256 ∧ ∀ x ∈ xs, 0 ≤ x ∧ x ≤ 2147483648
def val (xs : List Int) (b : Int) : Int := if b < xs.length then rd xs b else 0
theorem gi_lt {xs : List Int} {i : Nat} (h : i < xs.length) : gi xs i = xs[i] := by simp [gi, List.getD_eq_getElem?_getD, h]
def SumIs (l : List S44) (m : Int) (xs : List Int) (x : Int × Int) : Prop :=
  (∃ e, ChkIs l m e ∧ e ≠ 0 ∧ x = (0, e)) ∨ (l.length ≤ 64 ∧ Good l m ∧ ¬ Cnt xs ∧ x = (0, 3)) ∨ (l.length ≤ 64 ∧ Good l m ∧ Cnt xs ∧ x = (wsum l (val xs), 0))
theorem SumIs.unique {l : List S44} {m : Int} {xs : List Int} {x y : Int × Int} (h : SumIs l m xs x) (k : SumIs l m xs y) : x = y := by
  have no : l.length ≤ 64 → Good l m → ∀ e, ChkIs l m e → e ≠ 0 → False := fun a b e he h0 => h0 (he.unique (Or.inr (Or.inr ⟨a, b, rfl⟩)))
  rcases h with ⟨e, a, b, rfl⟩ | ⟨a, b, c, rfl⟩ | ⟨a, b, c, rfl⟩ <;> rcases k with ⟨e', a', b', rfl⟩ | ⟨a', b', c', rfl⟩ | ⟨a', b', c', rfl⟩
  ·rw [a.unique a']
  ·exact (no a' b' e a b).elim
  ·exact (no a' b' e a b).elim
  ·exact (no a b e' a' b').elim
  ·rfl
  ·contradiction
  ·exact (no a b e' a' b').elim
  ·contradiction
  ·rfl
def HoldsIs (l : List S44) (m : Int) (xs : List Int) (b : Bool) : Prop := ∃ x, SumIs l m xs x ∧ b = (decide (x.2 = 0) && decide (x.1 ≤ m))
theorem HoldsIs.unique {l : List S44} {m : Int} {xs : List Int} {x y : Bool} (h : HoldsIs l m xs x) (k : HoldsIs l m xs y) : x = y := by
  obtain ⟨a, b, rfl⟩ := h
  obtain ⟨c, d, rfl⟩ := k
  rw [b.unique d]
end Go.Proofs.Ytikpfbfeoifmkaa.Z
end
section
namespace Go.Proofs.Ytikpfbfeoifmkaa.Z
open Go.RowKit Go.Proofs.Ytikpfbfeoifmkaa.X Go.Proofs.YtikpfbfeoifmkaaW.PrintWords Go.Proofs.YtikpfbfeoifmkaaW.PrintLast
set_option linter.unusedVariables false
set_option linter.unusedSimpArgs false
def gl (mp : List (List Int)) (i : Nat) : List Int := mp.getD i []
theorem rd_gl (mp : List (List Int)) (i : Nat) : rd_L2 mp (i : Int) = gl mp i := by simp [rd_L2, gl]
theorem gl_lt {mp : List (List Int)} {i : Nat} (h : i < mp.length) : gl mp i = mp[i] := by simp [gl, List.getD_eq_getElem?_getD, h]
theorem rdl_mem {mp : List (List Int)} {b : Int} (h0 : 0 ≤ b) (h : b < mp.length) : rd_L2 mp b ∈ mp := by
  obtain ⟨n, rfl⟩ : ∃ n : Nat, b = n := ⟨b.toNat, by omega⟩
  rw [rd_gl, gl_lt (by omega)]
  exact List.getElem_mem _
def rowOk (r : List Int) : Bool := decide (r.length ≤ 256) && r.all blk
theorem rowOk_iff {r : List Int} : rowOk r = true ↔ r.length ≤ 256 ∧ ∀ x ∈ r, blk x = true := by simp [rowOk]
def MapOk (mp : List (List Int)) : Prop := mp.length ≤ 256 ∧ ∀ r ∈ mp, rowOk r = true
theorem has47 (l : List Int) (hl : l.length < 1152921504606846976) : ∃ b, Ev (fun k => slices_ContainsFunc_int_int_28_at47.f k l) b ∧ (b = true ↔ ¬ ∀ x ∈ l, blk x = true) := by
  obtain ⟨b, hb, k⟩ := has_loop (fun k x n i => slices_IndexFunc_int_int_48_at47.l0 k x n i) (fun _ x i => fact_mapped_1_1.f (rd x i)) (fun i => !blk (gi l i)) l hl (fun k i => by rw [slices_IndexFunc_int_int_48_at47.l0])
   (fun i hi => evc (fun k => by
    rw [rd_gi]
    unfold fact_mapped_1_1.f
    rw [block_f, Option.bind_some]) (evr _))
  refine ⟨b, hb, k.trans ⟨?_, ?_⟩⟩
  ·rintro ⟨q, h1, h2⟩ h
   rw [gi_lt h1, h _ (List.getElem_mem _)] at h2
   cases h2
  ·intro h
   refine Classical.byContradiction fun hn => h fun t ht => ?_
   obtain ⟨i, hi, rfl⟩ := List.mem_iff_getElem.1 ht
   cases e : blk l[i] with
   | true => rfl
   | false => exact absurd ⟨i, hi, by rw [gi_lt hi, e]; rfl⟩ hn
theorem mapped1 (r : List Int) (hl : r.length < 1152921504606846976) : Ev (fun k => fact_mapped_1.f k r) (!rowOk r) := by
  unfold fact_mapped_1.f rowOk
  by_cases h : 256 < r.length
  ·refine evp (by omega) (evr' ?_)
   rw [decide_eq_false (by omega)]
   rfl
  ·obtain ⟨b, hb, k⟩ := has47 r hl
   refine evn (by omega) (evb hb (evr' ?_))
   rw [decide_eq_true (by omega), Bool.true_and]
   cases e : r.all blk with
   | true =>
    cases b with
    | false => rfl
    | true => exact absurd (List.all_eq_true.1 e) (k.1 rfl)
   | false => exact k.2 fun h => by rw [List.all_eq_true.2 h] at e; cases e
theorem has46 (mp : List (List Int)) (hl : mp.length < 1152921504606846976) (hr : ∀ r ∈ mp, r.length < 1152921504606846976) : ∃ b, Ev (fun k => slices_ContainsFunc_int_int_45_at46.f k mp) b ∧ (b = true ↔ ¬ ∀ r ∈ mp, rowOk r = true) := by
  obtain ⟨b, hb, k⟩ := has_loop (fun k x n i => slices_IndexFunc_int_int_57_at46.l0 k x n i) (fun k x i => fact_mapped_1.f k (rd_L2 x i)) (fun i => !rowOk (gl mp i)) mp hl (fun k i => by rw [slices_IndexFunc_int_int_57_at46.l0])
   (fun i hi => by
    simp only [rd_gl]
    exact mapped1 _ (by rw [gl_lt hi]; exact hr _ (List.getElem_mem _)))
  refine ⟨b, hb, k.trans ⟨?_, ?_⟩⟩
  ·rintro ⟨q, h1, h2⟩ h
   rw [gl_lt h1, h _ (List.getElem_mem _)] at h2
   cases h2
  ·intro h
   refine Classical.byContradiction fun hn => h fun t ht => ?_
   obtain ⟨i, hi, rfl⟩ := List.mem_iff_getElem.1 ht
   cases e : rowOk mp[i] with
   | true => rfl
   | false => exact absurd ⟨i, hi, by rw [gl_lt hi, e]; rfl⟩ hn
theorem mapped_fact (mp : List (List Int)) (hr : ∀ r ∈ mp, r.length < 1152921504606846976) : ∃ b, Ev (fun k => fact_mapped.f k mp) b ∧ (b = true ↔ MapOk mp) := by
  unfold fact_mapped.f
  by_cases h : mp.length ≤ 256
  ·obtain ⟨b, hb, k⟩ := has46 mp (by omega) hr
   refine ⟨!b, evp (by omega) (evb hb (evr _)), ?_⟩
   cases b with
   | true => exact ⟨fun e => (by cases e), fun e => absurd e.2 (k.1 rfl)⟩
   | false => exact ⟨fun _ => ⟨h, Classical.byContradiction (fun hn => by have := k.2 hn; cases this)⟩, fun _ => rfl⟩
  ·exact ⟨false, evn (by omega) (evr _), fun e => (by cases e), fun e => absurd e.1 h⟩
def put (c : Int) (r : List Int) : List S44 := r.map fun b => ⟨b, c⟩
def flat (l : List S44) (mp : List (List Int)) : List S44 := l.flatMap fun t => put t.f1 (rd_L2 mp t.f0)
theorem flat_take {l : List S44} {i : Nat} (h : i < l.length) (mp : List (List Int)) : flat (l.take (i + 1)) mp = flat (l.take i) mp ++ put (gd l i).f1 (rd_L2 mp (gd l i).f0) := by
  unfold flat
  rw [take_succ_gd h, List.flatMap_append]
  simp
theorem put_length (c : Int) (r : List Int) : (put c r).length = r.length := by simp [put]
theorem put_append (c : Int) (r s : List Int) : put c (r ++ s) = put c r ++ put c s := by simp [put]
theorem take_succ_gi {l : List Int} {j : Nat} (h : j < l.length) : l.take (j + 1) = l.take j ++ [gi l j] := by
  rw [gi_lt h, List.take_succ_eq_append_getElem h]
theorem flat_length {l : List S44} {mp : List (List Int)} {B : Nat} (h : ∀ t ∈ l, (rd_L2 mp t.f0).length ≤ B) : (flat l mp).length ≤ l.length * B := by
  unfold flat
  induction l with
  | nil => simp
  | cons t l ih =>
   rw [List.flatMap_cons, List.length_append, List.length_cons, put_length, Nat.add_mul]
   have := ih fun x hx => h x (by simp [hx])
   have := h t (by simp)
   omega
theorem map_l1 (l : List S44) (hl : l.length ≤ 64) (m : Int) (mp : List (List Int)) (i : Nat) (hi : i < l.length) (r : List Int) (hr : r.length ≤ 256) (o : List S44) (ho : o.length ≤ 1048576) (c0 c : Int) (x : List S44 × Int × Int)
   (n : Ev (fun k => fact_Map.l0 k mp (o ++ put c r) l l.length ((i + 1 : Nat) : Int) l m) x) (d : Nat) : ∀ j : Nat, r.length - j = d → j ≤ r.length →
   Ev (fun k => fact_Map.l1 k mp (o ++ put c (r.take j)) l l.length i r r.length j l m c0 c) x := by
  induction d with
  | zero =>
   intro j hd hj
   rw [List.take_of_length_le (by omega)]
   refine Ev.step (fun k => by rw [fact_Map.l1]) ?_
   refine evn (by omega) ?_
   rw [show wrap64 ((i : Int) + 1) = ((i + 1 : Nat) : Int) from by rw [w64] <;> omega]
   exact n
  | succ d ih =>
   intro j hd hj
   have hlen : (o ++ put c (r.take j)).length ≤ 1048576 + j := by
    rw [List.length_append, put_length, List.length_take]
    omega
   have g := ih (j + 1) (by omega) (by omega)
   rw [take_succ_gi (by omega), put_append, ← List.append_assoc] at g
   refine Ev.step (fun k => by rw [fact_Map.l1]) ?_
   refine evp (by omega) (evp (by omega) (evp (by omega) (evp (by omega) ?_)))
   rw [rd_gi, show wrap64 ((j : Int) + 1) = ((j + 1 : Nat) : Int) from by rw [w64] <;> omega]
   exact g
def MapIs (l : List S44) (m : Int) (mp : List (List Int)) (x : List S44 × Int × Int) : Prop :=
  (∃ e, ChkIs l m e ∧ e ≠ 0 ∧ x = ([], 0, e)) ∨ (l.length ≤ 64 ∧ Good l m ∧ ¬ MapOk mp ∧ x = ([], 0, 10)) ∨
  (l.length ≤ 64 ∧ Good l m ∧ MapOk mp ∧ (∃ t ∈ l, (mp.length : Int) ≤ t.f0) ∧ x = ([], 0, 11)) ∨
  (l.length ≤ 64 ∧ Good l m ∧ MapOk mp ∧ (∀ t ∈ l, t.f0 < (mp.length : Int)) ∧ OfIs (flat l mp) m x)
theorem MapIs.unique {l : List S44} {m : Int} {mp : List (List Int)} {x y : List S44 × Int × Int} (h : MapIs l m mp x) (k : MapIs l m mp y) : x = y := by
  have no : l.length ≤ 64 → Good l m → ∀ e, ChkIs l m e → e ≠ 0 → False := fun a b e he h0 => h0 (he.unique (Or.inr (Or.inr ⟨a, b, rfl⟩)))
  have no2 : (∃ t ∈ l, (mp.length : Int) ≤ t.f0) → (∀ t ∈ l, t.f0 < (mp.length : Int)) → False := fun ⟨t, ht, h1⟩ h2 => by have := h2 t ht; omega
  rcases h with ⟨e, a, b, rfl⟩ | ⟨a, b, c, rfl⟩ | ⟨a, b, c, d, rfl⟩ | ⟨a, b, c, d, f⟩ <;> rcases k with ⟨e', a', b', rfl⟩ | ⟨a', b', c', rfl⟩ | ⟨a', b', c', d', rfl⟩ | ⟨a', b', c', d', f'⟩ <;>
   first | rfl | contradiction | exact (no a' b' e a b).elim | exact (no a b e' a' b').elim | exact (no2 d d').elim | exact (no2 d' d).elim | exact f.unique f' | (rw [a.unique a'])
theorem map_l0 (l : List S44) (m : Int) (hl : l.length ≤ 64) (hG : Good l m) (mp : List (List Int)) (hm : MapOk mp) (d : Nat) : ∀ i : Nat, l.length - i = d → i ≤ l.length → (∀ t ∈ l.take i, t.f0 < (mp.length : Int)) →
   ∃ x, Ev (fun k => fact_Map.l0 k mp (flat (l.take i) mp) l l.length i l m) x ∧ MapIs l m mp x := by
  have rows : ∀ t ∈ l, t.f0 < (mp.length : Int) → (rd_L2 mp t.f0).length ≤ 256 := fun t ht h => (rowOk_iff.1 (hm.2 _ (rdl_mem (by
   have := hG.fine.2 t ht
   rw [okT_iff, blk_iff] at this
   exact this.1.1) h))).1
  have flen : ∀ i, (∀ t ∈ l.take i, t.f0 < (mp.length : Int)) → (flat (l.take i) mp).length ≤ 16384 := fun i h => by
   have h1 := flat_length (l := l.take i) (mp := mp) (B := 256) fun t ht => rows t (List.mem_of_mem_take ht) (h t ht)
   have h2 : (l.take i).length ≤ 64 := by rw [List.length_take]; omega
   omega
  induction d with
  | zero =>
   intro i hd hi h
   have := flen i h
   rw [List.take_of_length_le (by omega)] at h this ⊢
   obtain ⟨x, hx, k⟩ := of_fact (flat l mp) m (by omega)
   refine ⟨x, ?_, Or.inr (Or.inr (Or.inr ⟨hl, hG, hm, h, k⟩))⟩
   refine Ev.step (fun k => by rw [fact_Map.l0]) ?_
   exact evn (by omega) (evb hx (evr _))
  | succ d ih =>
   intro i hd hi h
   have hi1 : i < l.length := by omega
   have ht := hG.fine.2 _ (List.getElem_mem hi1)
   rw [← gd_lt hi1, okT_iff, blk_iff] at ht
   by_cases h1 : (gd l i).f0 < (mp.length : Int)
   ·obtain ⟨x, hx, k⟩ := ih (i + 1) (by omega) (by omega) (fun t ht => by
     rw [take_succ_gd hi1] at ht
     rcases List.mem_append.1 ht with ht | ht
     ·exact h t ht
     ·rw [List.mem_singleton.1 ht]; exact h1)
    refine ⟨x, ?_, k⟩
    rw [flat_take hi1] at hx
    have hr := rows (gd l i) (by rw [gd_lt hi1]; exact List.getElem_mem _) h1
    have g : Ev (fun k => fact_Map.l1 k mp (flat (l.take i) mp) l l.length i (rd_L2 mp (gd l i).f0) (rd_L2 mp (gd l i).f0).length 0 l m (gd l i).f0 (gd l i).f1) x := by
     have := map_l1 l hl m mp i hi1 (rd_L2 mp (gd l i).f0) hr (flat (l.take i) mp) (by have := flen i h; omega) (gd l i).f0 (gd l i).f1 x hx _ 0 rfl (by omega)
     simpa [put] using this
    refine Ev.step (fun k => by rw [fact_Map.l0]) ?_
    refine evp (by omega) (evp (by omega) (evp (by omega) ?_))
    rw [rd_gd]
    exact evn (by omega) (evp ht.1.1 (evp h1 g))
   ·refine ⟨([], 0, 11), ?_, Or.inr (Or.inr (Or.inl ⟨hl, hG, hm, ⟨gd l i, by rw [gd_lt hi1]; exact List.getElem_mem _, by omega⟩, rfl⟩))⟩
    refine Ev.step (fun k => by rw [fact_Map.l0]) ?_
    refine evp (by omega) (evp (by omega) (evp (by omega) ?_))
    rw [rd_gd]
    exact evp (by omega) (evr _)
theorem map_fact (l : List S44) (m : Int) (mp : List (List Int)) (hr : ∀ r ∈ mp, r.length < 1152921504606846976) : ∃ x, Ev (fun k => fact_Map.f k l m mp) x ∧ MapIs l m mp x := by
  obtain ⟨e, he, k⟩ := check_fact l m
  unfold fact_Map.f
  by_cases h0 : e = 0
  ·obtain ⟨hl, hG⟩ := k.zero h0
   subst h0
   obtain ⟨b, hb, kb⟩ := mapped_fact mp hr
   cases b with
   | true =>
    obtain ⟨x, hx, k⟩ := map_l0 l m hl hG mp (kb.1 rfl) _ 0 rfl (by omega) (by simp)
    replace hx : Ev (fun k => fact_Map.l0 k mp [] l l.length 0 l m) x := hx
    exact ⟨x, evb he (evp rfl (evb hb (evp rfl hx))), k⟩
   | false => exact ⟨_, evb he (evp rfl (evb hb (evn (by simp) (evr _)))), Or.inr (Or.inl ⟨hl, hG, (fun c => by have := kb.2 c; cases this), rfl⟩)⟩
  ·exact ⟨_, evb he (evn h0 (evr _)), Or.inl ⟨e, k, h0, rfl⟩⟩
def through (r : List Int) (m2 : List (List Int)) : List Int := r.flatMap fun x => rd_L2 m2 x
def pts (m1 m2 : List (List Int)) : List (List Int) := m1.map fun r => through r m2
theorem through_append (r s : List Int) (m2 : List (List Int)) : through (r ++ s) m2 = through r m2 ++ through s m2 := by simp [through]
theorem through_length {r : List Int} {m2 : List (List Int)} {B : Nat} (h : ∀ x ∈ r, (rd_L2 m2 x).length ≤ B) : (through r m2).length ≤ r.length * B := by
  unfold through
  induction r with
  | nil => simp
  | cons t l ih =>
   rw [List.flatMap_cons, List.length_append, List.length_cons, Nat.add_mul]
   have := ih fun x hx => h x (by simp [hx])
   have := h t (by simp)
   omega
def big (m : List (List Int)) : Bool := m.any fun r => decide (256 < r.length)
def Past (m1 m2 : List (List Int)) : Prop := ∃ r ∈ m1, ∃ x ∈ r, (m2.length : Int) ≤ x
def PtsIs (m1 m2 : List (List Int)) (x : List (List Int) × Int) : Prop :=
  (¬ (MapOk m1 ∧ MapOk m2) ∧ x = ([], 10)) ∨ (MapOk m1 ∧ MapOk m2 ∧ Past m1 m2 ∧ x = ([], 11)) ∨
  (MapOk m1 ∧ MapOk m2 ∧ ¬ Past m1 m2 ∧ big (pts m1 m2) = true ∧ x = ([], 4)) ∨ (MapOk m1 ∧ MapOk m2 ∧ ¬ Past m1 m2 ∧ big (pts m1 m2) = false ∧ x = (pts m1 m2, 0))
theorem PtsIs.unique {m1 m2 : List (List Int)} {x y : List (List Int) × Int} (h : PtsIs m1 m2 x) (k : PtsIs m1 m2 y) : x = y := by
  rcases h with ⟨a, rfl⟩ | ⟨a, b, c, rfl⟩ | ⟨a, b, c, d, rfl⟩ | ⟨a, b, c, d, rfl⟩ <;> rcases k with ⟨a', rfl⟩ | ⟨a', b', c', rfl⟩ | ⟨a', b', c', d', rfl⟩ | ⟨a', b', c', d', rfl⟩ <;>
   first | rfl | contradiction | exact absurd ⟨a, b⟩ a' | exact absurd ⟨a', b'⟩ a | (rw [d] at d'; cases d')
theorem pts_l1 (m1 m2 : List (List Int)) (h1 : m1.length ≤ 256) (hm2 : MapOk m2) (i : Nat) (hi : i < m1.length) (r : List Int) (hr : rowOk r = true) (B : Bool) (o : List (List Int)) (ho : o.length ≤ 256) (x : List (List Int) × Int)
   (n : (∀ x ∈ r, x < (m2.length : Int)) → Ev (fun k => fact_Points.l0 k m2 (B || decide (256 < (through r m2).length)) (o ++ [through r m2]) m1 m1.length ((i + 1 : Nat) : Int)) x) (nb : (∃ x ∈ r, (m2.length : Int) ≤ x) → x = ([], 11)) (d : Nat) : ∀ j : Nat, r.length - j = d → j ≤ r.length → (∀ x ∈ r.take j, x < (m2.length : Int)) →
   Ev (fun k => fact_Points.l1 k m2 B o (through (r.take j) m2) m1 m1.length i r r.length j) x := by
  have hr' := rowOk_iff.1 hr
  induction d with
  | zero =>
   intro j hd hj h
   rw [List.take_of_length_le (by omega)] at h ⊢
   have n := n h
   refine Ev.step (fun k => by rw [fact_Points.l1]) ?_
   refine evn (by omega) ?_
   rw [show wrap64 ((i : Int) + 1) = ((i + 1 : Nat) : Int) from by rw [w64] <;> omega]
   cases B with
   | true => exact evp rfl (evp (by omega) n)
   | false =>
    rw [Bool.false_or] at n
    refine evn (by simp) (evp (by omega) ?_)
    rw [show (decide (((through r m2).length : Int) > 256)) = decide (256 < (through r m2).length) from decide_eq_decide.2 (by omega)]
    exact n
  | succ d ih =>
   intro j hd hj h
   have hj1 : j < r.length := by omega
   have hb := hr'.2 _ (List.getElem_mem hj1)
   rw [← gi_lt hj1, blk_iff] at hb
   refine Ev.step (fun k => by rw [fact_Points.l1]) ?_
   refine evp (by omega) (evp (by omega) (evp (by omega) ?_))
   rw [rd_gi]
   by_cases h2 : gi r j < (m2.length : Int)
   ·have hlen := through_length (r := r.take j) (m2 := m2) (B := 256) fun x hx => (rowOk_iff.1 (hm2.2 _ (rdl_mem (blk_iff.1 (hr'.2 x (List.mem_of_mem_take hx))).1 (h x hx)))).1
    rw [List.length_take] at hlen
    have hlen2 := (rowOk_iff.1 (hm2.2 _ (rdl_mem hb.1 h2))).1
    have g := ih (j + 1) (by omega) (by omega) (fun x hx => by
     rw [take_succ_gi hj1] at hx
     rcases List.mem_append.1 hx with hx | hx
     ·exact h x hx
     ·rw [List.mem_singleton.1 hx]; exact h2)
    rw [take_succ_gi hj1, through_append, show through [gi r j] m2 = rd_L2 m2 (gi r j) from by simp [through]] at g
    refine evn (by omega) (evp hb.1 (evp h2 (evp (by omega) ?_)))
    rw [show wrap64 ((j : Int) + 1) = ((j + 1 : Nat) : Int) from by rw [w64] <;> omega]
    exact g
   ·rw [nb ⟨gi r j, by rw [gi_lt hj1]; exact List.getElem_mem _, by omega⟩]
    exact evp (by omega) (evr _)
theorem gl_take {m : List (List Int)} {j : Nat} (h : j < m.length) : m.take (j + 1) = m.take j ++ [gl m j] := by
  rw [gl_lt h, List.take_succ_eq_append_getElem h]
theorem pts_l0 (m1 m2 : List (List Int)) (h1 : MapOk m1) (hm2 : MapOk m2) (d : Nat) : ∀ i : Nat, m1.length - i = d → i ≤ m1.length → ¬ Past (m1.take i) m2 →
   ∃ x, Ev (fun k => fact_Points.l0 k m2 (big (pts (m1.take i) m2)) (pts (m1.take i) m2) m1 m1.length i) x ∧ PtsIs m1 m2 x := by
  have hl := h1.1
  induction d with
  | zero =>
   intro i hd hi h
   rw [List.take_of_length_le (by omega)] at h ⊢
   cases e : big (pts m1 m2) with
   | true =>
    exact ⟨_, Ev.step (fun k => by rw [fact_Points.l0]) (evn (by omega) (evp rfl (evr _))), Or.inr (Or.inr (Or.inl ⟨h1, hm2, h, e, rfl⟩))⟩
   | false =>
    refine ⟨(pts m1 m2, 0), Ev.step (fun k => by rw [fact_Points.l0]) ?_, Or.inr (Or.inr (Or.inr ⟨h1, hm2, h, e, rfl⟩))⟩
    exact evn (by omega) (evn (by simp) (evr _))
  | succ d ih =>
   intro i hd hi h
   have hi1 : i < m1.length := by omega
   have ok := h1.2 _ (List.getElem_mem hi1)
   rw [← gl_lt hi1] at ok
   have plen : (pts (m1.take i) m2).length ≤ 256 := by simp [pts]; omega
   have go : ∀ x, ((∀ x ∈ gl m1 i, x < (m2.length : Int)) → Ev (fun k => fact_Points.l0 k m2 (big (pts (m1.take i) m2) || decide (256 < (through (gl m1 i) m2).length)) (pts (m1.take i) m2 ++ [through (gl m1 i) m2]) m1 m1.length ((i + 1 : Nat) : Int)) x) → ((∃ x ∈ gl m1 i, (m2.length : Int) ≤ x) → x = ([], 11)) →
     Ev (fun k => fact_Points.l0 k m2 (big (pts (m1.take i) m2)) (pts (m1.take i) m2) m1 m1.length i) x := fun x n nb => by
    have g : Ev (fun k => fact_Points.l1 k m2 (big (pts (m1.take i) m2)) (pts (m1.take i) m2) [] m1 m1.length i (gl m1 i) (gl m1 i).length 0) x :=
     pts_l1 m1 m2 hl hm2 i hi1 (gl m1 i) ok _ _ plen x n nb _ 0 rfl (by omega) (by simp)
    refine Ev.step (fun k => by rw [fact_Points.l0]) ?_
    refine evp (by omega) (evp (by omega) (evp (by omega) ?_))
    rw [rd_gl]
    exact g
   by_cases h2 : ∀ x ∈ gl m1 i, x < (m2.length : Int)
   ·obtain ⟨x, hx, k⟩ := ih (i + 1) (by omega) (by omega) (by
     rintro ⟨r, hr, y, hy, hk⟩
     rw [gl_take hi1] at hr
     rcases List.mem_append.1 hr with hr | hr
     ·exact h ⟨r, hr, y, hy, hk⟩
     ·rw [List.mem_singleton.1 hr] at hy
      have := h2 y hy
      omega)
    rw [gl_take hi1] at hx
    have e1 : pts (m1.take i ++ [gl m1 i]) m2 = pts (m1.take i) m2 ++ [through (gl m1 i) m2] := by simp [pts]
    have e2 : big (pts (m1.take i) m2 ++ [through (gl m1 i) m2]) = (big (pts (m1.take i) m2) || decide (256 < (through (gl m1 i) m2).length)) := by simp [big]
    rw [e1, e2] at hx
    exact ⟨x, go x (fun _ => hx) (fun ⟨y, hy, hk⟩ => by have := h2 y hy; omega), k⟩
   ·have hp : ∃ x ∈ gl m1 i, (m2.length : Int) ≤ x := Classical.byContradiction fun hn => h2 fun x hx => Int.not_le.1 fun hk => hn ⟨x, hx, hk⟩
    refine ⟨([], 11), go _ (fun hh => absurd hh h2) (fun _ => rfl), Or.inr (Or.inl ⟨h1, hm2, ⟨gl m1 i, by rw [gl_lt hi1]; exact List.getElem_mem _, hp⟩, rfl⟩)⟩
theorem points_fact (m1 m2 : List (List Int)) (hr1 : ∀ r ∈ m1, r.length < 1152921504606846976) (hr2 : ∀ r ∈ m2, r.length < 1152921504606846976) : ∃ x, Ev (fun k => fact_Points.f k m1 m2) x ∧ PtsIs m1 m2 x := by
  unfold fact_Points.f
  have bad : Ev (fun k => fact_Points.j0 k m1 m2 true) ([], 10) := Ev.step (fun k => by rw [fact_Points.j0]) (evp rfl (evr _))
  obtain ⟨b, hb, kb⟩ := mapped_fact m1 hr1
  cases b with
  | false => exact ⟨_, evb hb (evn (by simp) bad), Or.inl ⟨(fun c => by have := kb.2 c.1; cases this), rfl⟩⟩
  | true =>
   obtain ⟨c, hc, kc⟩ := mapped_fact m2 hr2
   cases c with
   | false => exact ⟨_, evb hb (evp rfl (evb hc bad)), Or.inl ⟨(fun c => by have := kc.2 c.2; cases this), rfl⟩⟩
   | true =>
    obtain ⟨x, hx, k⟩ := pts_l0 m1 m2 (kb.1 rfl) (kc.1 rfl) _ 0 rfl (by omega) (by rintro ⟨r, hr, _⟩; simp at hr)
    replace hx : Ev (fun k => fact_Points.l0 k m2 false [] m1 m1.length 0) x := hx
    refine ⟨x, evb hb (evp rfl (evb hc (Ev.step (fun k => by rw [fact_Points.j0]) ?_))), k⟩
    exact evn (by simp) hx
end Go.Proofs.Ytikpfbfeoifmkaa.Z
end
section
namespace Go.Proofs.Ytikpfbfeoifmkaa.X
open Go.RowKit Go.Proofs.YtikpfbfeoifmkaaW.PrintWords Go.Proofs.YtikpfbfeoifmkaaW.PrintLast Go.Proofs.YtikpfbfeoifmkaaW.PrintMore
attribute [local go_sem] max2_int min2_int max_two min_two max_three min_three max_four min_four
set_option linter.unusedVariables false
set_option linter.unusedSimpArgs false
def fact_times.l0 : Nat → Int → List (S44) → List (S44) → Int → Int → Option ((List (S44)))
  | 0, _, _, _, _, _ => none
  | k + 1, x1, x5, x9, x10, x11 => if x11 < x10 then (if 0 ≤ x11 then (if x11 < (x9.length : Int) then (if x5.length < 8796093022208 then (fact_times.l0 k x1 (x5 ++ [(⟨(rd_T44 x9 x11).f0, wrap64 (((rd_T44 x9 x11).f1) * x1)⟩ : S44)]) x9 x10 (wrap64 (x11 + 1))) else (none)) else (none)) else (none)) else (some x5)
def fact_times.f (k : Nat) (l0_0 : List (S44)) (a0_1 : Int) (a1 : Int) : Option ((List (S44))) := fact_times.l0 k a1 ([] : List (S44)) l0_0 (l0_0.length : Int) 0
def fact_Add.j0 : Nat → Int → Int → Bool → List (S44) → Int → List (S44) → Int → Option ((List (S44)) × Int × Int)
  | 0, _, _, _, _, _, _, _ => none
  | k + 1, x2, x3, x37, x102000, x102001, x103000, x103001 => if x37 = true then (some (([] : List (S44)), 0, 3)) else ((fact_times.f k x102000 x102001 x2).bind fun t106 => ((fact_times.f k x103000 x103001 x3).bind fun t109 => (if t106.length + t109.length < 8796093022208 then ((fact_Of.f k (t106 ++ t109) (wrap64 ((wrap64 (x2 * x102001)) + (wrap64 (x3 * x103001))))).bind fun bt115 => (some (bt115.1, bt115.2.1, bt115.2.2))) else (none))))
def fact_Add.f (k : Nat) (l0_0 : List (S44)) (a0_1 : Int) (l1_0 : List (S44)) (a1_1 : Int) (a2 : Int) (a3 : Int) : Option ((List (S44)) × Int × Int) := (fact_Check.f k l0_0 a0_1).bind fun t104 => (if t104 = 0 then ((fact_Check.f k l1_0 a1_1).bind fun t105 => (if t105 = 0 then (if a2 < 0 then (fact_Add.j0 k a2 a3 true l0_0 a0_1 l1_0 a1_1) else (if a2 > 1048576 then (fact_Add.j0 k a2 a3 true l0_0 a0_1 l1_0 a1_1) else (if a3 < 0 then (fact_Add.j0 k a2 a3 true l0_0 a0_1 l1_0 a1_1) else (fact_Add.j0 k a2 a3 (decide (a3 > 1048576)) l0_0 a0_1 l1_0 a1_1)))) else (some (([] : List (S44)), 0, t105)))) else (some (([] : List (S44)), 0, t104)))
end Go.Proofs.Ytikpfbfeoifmkaa.X
end
section
namespace Go.Proofs.Ytikpfbfeoifmkaa.Z
open Go.RowKit Go.Proofs.Ytikpfbfeoifmkaa.X Go.Proofs.YtikpfbfeoifmkaaW.PrintWords Go.Proofs.YtikpfbfeoifmkaaW.PrintLast
set_option linter.unusedVariables false
set_option linter.unusedSimpArgs false
def lsum (r : List Int) (w : Int → Int) : Int := (r.map w).sum
theorem lsum_append (r s : List Int) (w : Int → Int) : lsum (r ++ s) w = lsum r w + lsum s w := by simp [lsum, List.map_append, List.sum_append]
theorem wsum_put (c : Int) (r : List Int) (w : Int → Int) : wsum (put c r) w = c * lsum r w := by
  induction r with
  | nil => simp [put, wsum, lsum]
  | cons b r ih =>
   have e : put c (b :: r) = ⟨b, c⟩ :: put c r := rfl
   rw [e]
   simp only [wsum, ih, lsum, List.map_cons, List.sum_cons, Int.mul_add]
theorem wsum_flat (l : List S44) (mp : List (List Int)) (w : Int → Int) : wsum (flat l mp) w = wsum l (fun x => lsum (rd_L2 mp x) w) := by
  induction l with
  | nil => rfl
  | cons t l ih =>
   have e : flat (t :: l) mp = put t.f1 (rd_L2 mp t.f0) ++ flat l mp := by simp [flat]
   rw [e, wsum_append, wsum_put, ih]
   rfl
theorem lsum_through (r : List Int) (mp : List (List Int)) (w : Int → Int) : lsum (through r mp) w = lsum r (fun x => lsum (rd_L2 mp x) w) := by
  induction r with
  | nil => rfl
  | cons x r ih =>
   have e : through (x :: r) mp = rd_L2 mp x ++ through r mp := by simp [through]
   rw [e, lsum_append, ih]
   simp [lsum]
theorem wsum_congr {l : List S44} {w w' : Int → Int} (h : ∀ t ∈ l, w t.f0 = w' t.f0) : wsum l w = wsum l w' := by
  induction l with
  | nil => rfl
  | cons t l ih => simp only [wsum, h t (by simp), ih (fun x hx => h x (by simp [hx]))]
theorem cf_bound {l : List S44} {M : Int} (h : ∀ t ∈ l, -M ≤ t.f1 ∧ t.f1 ≤ M) (b : Int) : -(l.length * M) ≤ cf l b ∧ cf l b ≤ l.length * M := by
  induction l with
  | nil => simp [cf]
  | cons t l ih =>
   have h1 := h t (by simp)
   have h2 := ih fun x hx => h x (by simp [hx])
   simp only [cf, List.length_cons]
   rw [show ((l.length + 1 : Nat) : Int) * M = l.length * M + M from by rw [Int.natCast_add, Int.add_mul]; simp]
   by_cases e : t.f0 = b
   ·rw [if_pos e]; omega
   ·rw [if_neg e]; omega
theorem Canon.cf_eq {r : List S44} {c : Int → Int} (h : Canon r c) {t : S44} (ht : t ∈ r) : t.f1 = c t.f0 := by
  rw [← h.sums]
  have key : ∀ r : List S44, (r.Pairwise fun x y => x.f0 < y.f0) → t ∈ r → t.f1 = cf r t.f0 := by
   intro r
   induction r with
   | nil => intro _ h; simp at h
   | cons a r ih =>
    intro hp ht
    rcases List.mem_cons.1 ht with rfl | ht'
    ·exact (cf_head hp).symm
    ·have h1 := ih (List.pairwise_cons.1 hp).2 ht'
     have h2 := (List.pairwise_cons.1 hp).1 t ht'
     show _ = (if a.f0 = t.f0 then a.f1 else 0) + cf r t.f0
     rw [if_neg (by omega), ← h1]
     omega
  exact key r h.inc ht
structure Made (l : List S44) (r : List S44) (m : Int) : Prop where
  good : Good r m
  len : r.length ≤ l.length
  short : r.length ≤ 64
  cf_ : ∀ b, cf r b = cf l b
  canon : Canon r (cf l)
theorem Made.bd {l r : List S44} {m : Int} (h : Made l r m) {M : Int} (hM : ∀ t ∈ l, -M ≤ t.f1 ∧ t.f1 ≤ M) : ∀ t ∈ r, -(l.length * M) ≤ t.f1 ∧ t.f1 ≤ l.length * M := fun t ht => by
  rw [h.canon.cf_eq ht]
  exact cf_bound hM _
theorem OfIs.made {l : List S44} {m M : Int} {x : List S44 × Int × Int} (h : OfIs l m x) (hl : l.length ≤ 1024) (hm : sml m = true) (hb : ∀ t ∈ l, blk t.f0 = true)
   (hM : ∀ t ∈ l, -M ≤ t.f1 ∧ t.f1 ≤ M) (hM1 : M ≤ 1048576) (hM2 : l.length * M ≤ 1048576) (h64 : ∀ r, Canon r (cf l) → r.length ≤ l.length → r.length ≤ 64) : ∃ r, x = (r, m, 0) ∧ Made l r m := by
  have hF : Fine l m := ⟨hm, fun t ht => okT_iff.2 ⟨hb t ht, sml_iff.2 (by have := hM t ht; omega)⟩⟩
  rcases h with ⟨a, rfl⟩ | ⟨a, b, rfl⟩ | ⟨a, b, r, c1, c2, c3, c4⟩
  ·omega
  ·contradiction
  ·have small : ∀ t ∈ r, sml t.f1 = true := fun t ht => sml_iff.2 (by
    rw [c1.cf_eq ht]
    have := cf_bound hM t.f0
    omega)
   have hs := h64 r c1 c3
   rcases c4 with ⟨d, rfl⟩ | ⟨d, e, rfl⟩ | ⟨d, e, rfl⟩
   ·omega
   ·refine ⟨r, rfl, Good.mk hm c1.inc c1.nz fun t ht => okT_iff.2 ⟨blk_iff.2 (c2.mem t ht), small t ht⟩, c3, hs, c1.sums, c1⟩
   ·contradiction
end Go.Proofs.Ytikpfbfeoifmkaa.Z
end
section
namespace Go.Proofs.Ytikpfbfeoifmkaa.X
open Go.RowKit Go.Proofs.YtikpfbfeoifmkaaW.PrintWords Go.Proofs.YtikpfbfeoifmkaaW.PrintLast Go.Proofs.YtikpfbfeoifmkaaW.PrintMore
attribute [local go_sem] max2_int min2_int max_two min_two max_three min_three max_four min_four
set_option linter.unusedVariables false
set_option linter.unusedSimpArgs false
mutual
def timeboundref13_Sums.l0 : Nat → List (List Int) → List Int → List Int → Int → Option (List Int)
  | 0, _, _, _, _ => none
  | k + 1, x0, x1, x5, x6 => if x6 < (x0.length : Int) then (timeboundref13_Sums.l1 k x0 x1 x5 x6 0) else (some x5)
def timeboundref13_Sums.l1 : Nat → List (List Int) → List Int → List Int → Int → Int → Option (List Int)
  | 0, _, _, _, _, _ => none
  | k + 1, x0, x1, x5, x6, x7 => if 0 ≤ x6 then (if x6 < (x0.length : Int) then (if x7 < ((rd_L2 x0 x6).length : Int) then (if x6 < (x5.length : Int) then (if 0 ≤ x7 then (if 0 ≤ (rd (rd_L2 x0 x6) x7) then (if (rd (rd_L2 x0 x6) x7) < (x1.length : Int) then (timeboundref13_Sums.l1 k x0 x1 (x5.set (x6 : Int).toNat (wrap64 ((rd x5 x6) + (rd x1 (rd (rd_L2 x0 x6) x7))))) x6 (wrap64 (x7 + 1))) else (none)) else (none)) else (none)) else (none)) else (timeboundref13_Sums.l0 k x0 x1 x5 (wrap64 (x6 + 1)))) else (none)) else (none)
end
def timeboundref13_Sums.f (k : Nat) (l0 : List (List Int)) (l1 : List Int) : Option (List Int) := if 0 ≤ (l0.length : Int) then (if ((l0.length : Int) : Int).toNat ≤ 35184372088832 then (timeboundref13_Sums.l0 k l0 l1 (List.replicate ((l0.length : Int) : Int).toNat 0) 0) else (none)) else (none)
def timeboundmake_Sums.f (k : Nat) (l0 : List (List Int)) (l1 : List Int) : Option (List Int) := (timeboundref13_Sums.f k l0 l1).bind fun t101 => (some t101)
end Go.Proofs.Ytikpfbfeoifmkaa.X
end
section
namespace Go.Proofs.Ytikpfbfeoifmkaa.Z
open Go.RowKit Go.Proofs.Ytikpfbfeoifmkaa.X Go.Proofs.YtikpfbfeoifmkaaW.PrintWords Go.Proofs.YtikpfbfeoifmkaaW.PrintLast
set_option linter.unusedVariables false
set_option linter.unusedSimpArgs false
set_option maxRecDepth 100000 in
theorem awake1 : timeboundlaw11_awake.f 400 = some true := by decide +kernel
theorem awake_ : Ev (fun k => timeboundlaw11_awake.f k) true := Ev.of timeboundlaw11_awake.mono awake1
structure Deck (xs : List Int) (s : Int) : Prop where
  len : xs.length ≤ 400
  lo : 0 ≤ s
  hi : s ≤ xs.length
theorem mod_ (a n : Int) (h : 1 ≤ n) (h2 : n ≤ 1048576) : ∃ v, timeboundmake_Mod.f a n = some v ∧ 0 ≤ v ∧ v < n := by
  have h1 := Int.lt_tmod_of_pos a (b := n) (by omega)
  have h3 := Int.tmod_lt_of_pos a (b := n) (by omega)
  unfold timeboundmake_Mod.f
  rw [if_neg (by omega), w64 (by omega) (by omega)]
  exact ⟨_, rfl, Int.tmod_nonneg _ (by omega), Int.tmod_lt_of_pos _ (by omega)⟩
theorem next_ {xs : List Int} {s : Int} (h : Deck xs s) (n : Int) (h1 : 1 ≤ n) (h2 : n ≤ 1048576) : ∃ v s', timeboundmake_Deck_Next.f xs s n = some (v, s') ∧ 0 ≤ v ∧ v < n ∧ Deck xs s' := by
  obtain ⟨a, b, c⟩ := h
  unfold timeboundmake_Deck_Next.f
  by_cases h3 : s ≥ (xs.length : Int)
  ·rw [if_pos h3]
   exact ⟨0, s, rfl, by omega, by omega, a, b, c⟩
  ·rw [if_neg h3]
   by_cases h4 : n ≤ 1
   ·rw [if_pos h4]
    exact ⟨0, s, rfl, by omega, by omega, a, b, c⟩
   ·rw [if_neg h4, w64 (n := s + 1) (by omega) (by omega), w64 (n := s + 1 - 1) (by omega) (by omega), if_pos (by omega), if_pos (by omega)]
    obtain ⟨v, hv, k0, k1⟩ := mod_ (rd xs (s + 1 - 1)) n h1 h2
    rw [hv, Option.bind_some]
    exact ⟨v, s + 1, rfl, k0, k1, a, by omega, by omega⟩
structure Fact (r : List S44) (m : Int) (n : Nat) : Prop where
  good : Good r m
  len : r.length ≤ n
  coef : ∀ t ∈ r, -(n * 4 : Int) ≤ t.f1 ∧ t.f1 ≤ n * 4
  place : ∀ t ∈ r, 0 ≤ t.f0 ∧ t.f0 < n
  short : r.length ≤ 64
  cst : -5 ≤ m ∧ m ≤ 24
theorem Made.place {l r : List S44} {m : Int} (h : Made l r m) {P : Int → Prop} (hP : ∀ t ∈ l, P t.f0) : ∀ t ∈ r, P t.f0 := fun t ht => by
  refine Classical.byContradiction fun hn => h.good.nz t ht ?_
  rw [h.canon.cf_eq ht]
  exact cf_none fun x hx e => hn (by rw [← e]; exact hP x hx)
theorem some_l0 (n : Nat) (hn : n ≤ 64) (xs : List Int) (d : Nat) : ∀ (i : Nat) (l : List S44) (s : Int), n - i = d → i ≤ n → Deck xs s → l.length ≤ i → (∀ t ∈ l, 0 ≤ t.f0 ∧ t.f0 < i) → (∀ t ∈ l, -4 ≤ t.f1 ∧ t.f1 ≤ 4) →
   ∃ r m s', Ev (fun k => timeboundlaw11_some.l0 k n l i xs s) (r, m, s') ∧ Fact r m n ∧ Deck xs s' := by
  induction d with
  | zero =>
   intro i l s hd hi hD h1 h2 h3
   obtain ⟨v, s', hv, k0, k1, k2⟩ := next_ hD 30 (by omega) (by omega)
   obtain ⟨x, hx, kx⟩ := of_ref l (v - 5)
   obtain ⟨r, rfl, hM⟩ := kx.made (M := 4) (by omega) (sml_iff.2 (by omega)) (fun t ht => blk_iff.2 (by have := h2 t ht; omega)) h3 (by omega) (by omega) (fun r _ h => by omega)
   refine ⟨r, v - 5, s', ?_, ⟨hM.good, by have := hM.len; omega, fun t ht => ?_, hM.place (P := fun x => 0 ≤ x ∧ x < n) (fun t ht => by have := h2 t ht; omega), hM.short, by omega⟩, k2⟩
   ·refine Ev.step (fun k => by rw [timeboundlaw11_some.l0]) ?_
    refine evn (by omega) (evc (fun k => by rw [hv, Option.bind_some]) ?_)
    rw [show wrap64 (v - 5) = v - 5 from by rw [w64] <;> omega]
    exact evb hx (evr _)
   ·have := hM.bd h3 t ht
    omega
  | succ d ih =>
   intro i l s hd hi hD h1 h2 h3
   obtain ⟨v, s', hv, k0, k1, k2⟩ := next_ hD 2 (by omega) (by omega)
   by_cases h5 : v = 1
   ·obtain ⟨u, s'', hu, g0, g1, g2⟩ := next_ k2 9 (by omega) (by omega)
    obtain ⟨r, m, t, ht, q⟩ := ih (i + 1) (l ++ [⟨i, u - 4⟩]) s'' (by omega) (by omega) g2 (by rw [List.length_append]; simp; omega) (fun t ht => by
     rcases List.mem_append.1 ht with ht | ht
     ·have := h2 t ht; omega
     ·rw [List.mem_singleton.1 ht]
      show 0 ≤ (i : Int) ∧ (i : Int) < ((i + 1 : Nat) : Int)
      omega) (fun t ht => by
     rcases List.mem_append.1 ht with ht | ht
     ·exact h3 t ht
     ·rw [List.mem_singleton.1 ht]
      show -4 ≤ u - 4 ∧ u - 4 ≤ 4
      omega)
    refine ⟨r, m, t, ?_, q⟩
    refine Ev.step (fun k => by rw [timeboundlaw11_some.l0]) ?_
    refine evp (by omega) (evc (fun k => by rw [hv, Option.bind_some]) (evp h5 (evc (fun k => by rw [hu, Option.bind_some]) (evp (by omega) ?_))))
    rw [show wrap64 (u - 4) = u - 4 from by rw [w64] <;> omega, show wrap64 ((i : Int) + 1) = ((i + 1 : Nat) : Int) from by rw [w64] <;> omega]
    exact ht
   ·obtain ⟨r, m, t, ht, q⟩ := ih (i + 1) l s' (by omega) (by omega) k2 (by omega) (fun t ht => by have := h2 t ht; omega) h3
    refine ⟨r, m, t, ?_, q⟩
    refine Ev.step (fun k => by rw [timeboundlaw11_some.l0]) ?_
    refine evp (by omega) (evc (fun k => by rw [hv, Option.bind_some]) (evn h5 ?_))
    rw [show wrap64 ((i : Int) + 1) = ((i + 1 : Nat) : Int) from by rw [w64] <;> omega]
    exact ht
theorem some_ (n : Nat) (hn : n ≤ 64) {xs : List Int} {s : Int} (h : Deck xs s) : ∃ r m s', Ev (fun k => timeboundlaw11_some.f k xs s n) (r, m, s') ∧ Fact r m n ∧ Deck xs s' := by
  unfold timeboundlaw11_some.f
  exact some_l0 n hn xs _ 0 [] s rfl (by omega) h (by simp) (by simp) (by simp)
structure Rows (mp : List (List Int)) (n : Nat) (B : Int) : Prop where
  len : mp.length = n
  row : ∀ r ∈ mp, r.length ≤ 3 ∧ ∀ x ∈ r, 0 ≤ x ∧ x < B
theorem Rows.ok {mp : List (List Int)} {n : Nat} {B : Int} (h : Rows mp n B) (hn : n ≤ 256) (hB : B ≤ 256) : MapOk mp :=
  ⟨by have := h.len; omega, fun r hr => rowOk_iff.2 ⟨by have := (h.row r hr).1; omega, fun x hx => blk_iff.2 (by have := (h.row r hr).2 x hx; omega)⟩⟩
theorem maps_l0 (n : Nat) (hn : n ≤ 100) (xs : List Int) (d : Nat) : ∀ (i : Nat) (mp : List (List Int)) (y : Nat) (s : Int), n - i = d → i ≤ n → Deck xs s → Rows mp i (2 * n) → y ≤ 2 * i →
   ∃ r s', Ev (fun k => timeboundlaw11_maps.l0 k n mp y i xs s) (r, s') ∧ Rows r n (2 * n) ∧ Deck xs s' := by
  induction d with
  | zero =>
   intro i mp y s hd hi hD h1 h2
   obtain rfl : i = n := by omega
   refine ⟨mp, s, ?_, h1, hD⟩
   refine Ev.step (fun k => by rw [timeboundlaw11_maps.l0]) ?_
   exact evn (by omega) (evr _)
  | succ d ih =>
   intro i mp y s hd hi hD h1 h2
   have h1l := h1.len
   have done : ∀ (r : List Int) (y : Nat) (s : Int), Deck xs s → y ≤ 2 * (i + 1) → r.length ≤ 3 → (∀ x ∈ r, 0 ≤ x ∧ x < (2 * n : Int)) →
     ∃ q s', Ev (fun k => if mp.length < 5864062014805 then timeboundlaw11_maps.l0 k n (mp ++ [r]) y (wrap64 ((i : Int) + 1)) xs s else none) (q, s') ∧ Rows q n (2 * n) ∧ Deck xs s' := by
    intro r y s hD hy hr1 hr2
    obtain ⟨q, s', hq, k⟩ := ih (i + 1) (mp ++ [r]) y s (by omega) (by omega) hD ⟨by rw [List.length_append]; simp; omega, fun r' hr' => by
     rcases List.mem_append.1 hr' with hr' | hr'
     ·exact h1.row r' hr'
     ·rw [List.mem_singleton.1 hr']; exact ⟨hr1, hr2⟩⟩ hy
    refine ⟨q, s', evp (by omega) ?_, k⟩
    rw [show wrap64 ((i : Int) + 1) = ((i + 1 : Nat) : Int) from by rw [w64] <;> omega]
    exact hq
   have inner : ∀ (c : Nat) (r : List Int) (y : Nat) (s : Int), Deck xs s → c ≤ 2 → r.length + c ≤ 2 → y + c ≤ 2 * (i + 1) → (∀ x ∈ r, 0 ≤ x ∧ x < (y : Int)) →
     ∃ q s', Ev (fun k => timeboundlaw11_maps.l1 k n mp y i r c xs s) (q, s') ∧ Rows q n (2 * n) ∧ Deck xs s' := by
    intro c
    induction c with
    | zero =>
     intro r y s hD hc hrc hy hr
     have hr2 : ∀ x ∈ r, 0 ≤ x ∧ x < (2 * n : Int) := fun x hx => by have := hr x hx; omega
     obtain ⟨v, s1, hv, k0, k1, k2⟩ := next_ hD 9 (by omega) (by omega)
     by_cases h8 : v = 8
     ·by_cases hy0 : 0 < y
      ·obtain ⟨u, s2, hu, g0, g1, g2⟩ := next_ k2 y (by omega) (by omega)
       obtain ⟨q, s', hq, k⟩ := done (r ++ [u]) y s2 g2 (by omega) (by rw [List.length_append]; simp; omega) (fun x hx => by
        rcases List.mem_append.1 hx with hx | hx
        ·exact hr2 x hx
        ·rw [List.mem_singleton.1 hx]; omega)
       refine ⟨q, s', ?_, k⟩
       refine Ev.step (fun k => by rw [timeboundlaw11_maps.l1]) ?_
       exact evn (by omega) (evc (fun k => by rw [hv, Option.bind_some]) (evp h8 (evp (by omega) (evc (fun k => by rw [hu, Option.bind_some]) (evp (by omega) hq)))))
      ·obtain ⟨q, s', hq, k⟩ := done r y s1 k2 (by omega) (by omega) hr2
       refine ⟨q, s', ?_, k⟩
       refine Ev.step (fun k => by rw [timeboundlaw11_maps.l1]) ?_
       exact evn (by omega) (evc (fun k => by rw [hv, Option.bind_some]) (evp h8 (evn (by omega) hq)))
     ·obtain ⟨q, s', hq, k⟩ := done r y s1 k2 (by omega) (by omega) hr2
      refine ⟨q, s', ?_, k⟩
      refine Ev.step (fun k => by rw [timeboundlaw11_maps.l1]) ?_
      exact evn (by omega) (evc (fun k => by rw [hv, Option.bind_some]) (evn h8 hq))
    | succ c ihc =>
     intro r y s hD hc hrc hy hr
     obtain ⟨q, s', hq, k⟩ := ihc (r ++ [(y : Int)]) (y + 1) s hD (by omega) (by rw [List.length_append]; simp; omega) (by omega) (fun x hx => by
      rcases List.mem_append.1 hx with hx | hx
      ·have := hr x hx; omega
      ·rw [List.mem_singleton.1 hx]; omega)
     refine ⟨q, s', ?_, k⟩
     refine Ev.step (fun k => by rw [timeboundlaw11_maps.l1]) ?_
     refine evp (by omega) (evp (by omega) ?_)
     rw [show wrap64 ((y : Int) + 1) = ((y + 1 : Nat) : Int) from by rw [w64] <;> omega, show wrap64 (((c + 1 : Nat) : Int) - 1) = (c : Int) from by rw [w64] <;> omega]
     exact hq
   obtain ⟨v, s1, hv, k0, k1, k2⟩ := next_ hD 3 (by omega) (by omega)
   obtain ⟨c, rfl⟩ : ∃ c : Nat, v = c := ⟨v.toNat, by omega⟩
   obtain ⟨q, s', hq, k⟩ := inner c [] y s1 k2 (by omega) (by simp; omega) (by omega) (by simp)
   refine ⟨q, s', ?_, k⟩
   refine Ev.step (fun k => by rw [timeboundlaw11_maps.l0]) ?_
   exact evp (by omega) (evc (fun k => by rw [hv, Option.bind_some]) hq)
theorem maps_ (n : Nat) (hn : n ≤ 100) {xs : List Int} {s : Int} (h : Deck xs s) : ∃ r s', Ev (fun k => timeboundlaw11_maps.f k xs s n) (r, s') ∧ Rows r n (2 * n) ∧ Deck xs s' := by
  unfold timeboundlaw11_maps.f
  exact maps_l0 n hn xs _ 0 [] 0 s rfl (by omega) h ⟨rfl, by simp⟩ (by omega)
theorem flat_mem {l : List S44} {mp : List (List Int)} {t : S44} (h : t ∈ flat l mp) : ∃ s ∈ l, t.f0 ∈ rd_L2 mp s.f0 ∧ t.f1 = s.f1 := by
  obtain ⟨s, hs, ht⟩ := List.mem_flatMap.1 h
  obtain ⟨b, hb, rfl⟩ := List.mem_map.1 ht
  exact ⟨s, hs, hb, rfl⟩
theorem along {x : List S44} {m : Int} {N R : Nat} {M B : Int} {mp : List (List Int)} (hG : Good x m) (hl : x.length ≤ N) (hN : N * R ≤ 64) (hNl : N ≤ 64) (hMp : MapOk mp) (hp : ∀ t ∈ x, 0 ≤ t.f0 ∧ t.f0 < mp.length)
   (hrow : ∀ r ∈ mp, r.length ≤ R ∧ ∀ y ∈ r, 0 ≤ y ∧ y < B) (hM : ∀ t ∈ x, -M ≤ t.f1 ∧ t.f1 ≤ M) (hM0 : 0 ≤ M) (hM2 : 64 * M ≤ 1048576) :
   ∃ r, Ev (fun k => fact_Map.f k x m mp) (r, m, 0) ∧ Good r m ∧ r.length ≤ N * R ∧ (∀ t ∈ r, -((N * R : Nat) * M) ≤ t.f1 ∧ t.f1 ≤ (N * R : Nat) * M) ∧ (∀ t ∈ r, 0 ≤ t.f0 ∧ t.f0 < B) ∧ ∀ w, wsum r w = wsum x (fun y => lsum (rd_L2 mp y) w) := by
  obtain ⟨q, hq, k⟩ := map_fact x m mp (fun r hr => by have := (rowOk_iff.1 (hMp.2 r hr)).1; omega)
  have hx : ChkIs x m 0 := Or.inr (Or.inr ⟨by omega, hG, rfl⟩)
  rcases k with ⟨e, k1, k2, _⟩ | ⟨_, _, k1, _⟩ | ⟨_, _, _, ⟨t, ht, k1⟩, _⟩ | ⟨_, _, _, _, k⟩
  ·exact absurd (k1.unique hx) k2
  ·exact absurd hMp k1
  ·have := hp t ht
   omega
  ·have hfl := flat_length (l := x) (mp := mp) (B := R) fun t ht => (hrow _ (rdl_mem (hp t ht).1 (hp t ht).2)).1
   have hNR : x.length * R ≤ N * R := Nat.mul_le_mul_right _ hl
   have hb : ∀ t ∈ flat x mp, 0 ≤ t.f0 ∧ t.f0 < B := fun t ht => by
    obtain ⟨s, hs, h0, _⟩ := flat_mem ht
    exact (hrow _ (rdl_mem (hp s hs).1 (hp s hs).2)).2 _ h0
   have hbl : ∀ t ∈ flat x mp, blk t.f0 = true := fun t ht => by
    obtain ⟨s, hs, h0, _⟩ := flat_mem ht
    exact (rowOk_iff.1 (hMp.2 _ (rdl_mem (hp s hs).1 (hp s hs).2))).2 _ h0
   have hm : ∀ t ∈ flat x mp, -M ≤ t.f1 ∧ t.f1 ≤ M := fun t ht => by
    obtain ⟨s, hs, _, h1⟩ := flat_mem ht
    rw [h1]
    exact hM s hs
   have hle : ((flat x mp).length : Int) * M ≤ ((N * R : Nat) : Int) * M := Int.mul_le_mul_of_nonneg_right (by omega) hM0
   have hle2 : ((N * R : Nat) : Int) * M ≤ 64 * M := Int.mul_le_mul_of_nonneg_right (by omega) hM0
   obtain ⟨r, rfl, hr⟩ := k.made (M := M) (by omega) hG.1 hbl hm (by omega) (by omega) (fun r _ h => by omega)
   have hrl := hr.len
   refine ⟨r, hq, hr.good, by omega, fun t ht => ?_, hr.place (P := fun y => 0 ≤ y ∧ y < B) hb, fun w => by rw [wsum_of_cf hr.cf_ w, wsum_flat]⟩
   have := hr.bd hm t ht
   omega
end Go.Proofs.Ytikpfbfeoifmkaa.Z
end
section
namespace Go.Proofs.Ytikpfbfeoifmkaa.Pure
open Go.RowKit Go.Proofs.Ytikpfbfeoifmkaa.X Go.Proofs.Ytikpfbfeoifmkaa.Z Go.Proofs.YtikpfbfeoifmkaaW.PrintWords Go.Proofs.YtikpfbfeoifmkaaW.PrintLast
set_option linter.unusedVariables false
theorem through_mem {r : List Int} {m2 : List (List Int)} {y : Int} (h : y ∈ through r m2) : ∃ x ∈ r, y ∈ rd_L2 m2 x := List.mem_flatMap.1 h
theorem FactTwice : timeboundlaw11_FactTwice.Pure := by
  intro l0 hl hl2 hw
  refine Ev.rounds ?_
  unfold timeboundlaw11_FactTwice.f timeboundmake_Few.f
  by_cases h : (l0.length : Int) ≤ 400
  ·rw [decide_eq_true h]
   have hD : Deck l0 0 := ⟨by omega, by omega, by omega⟩
   obtain ⟨v, s0, hv, v0, v1, hD0⟩ := next_ hD 6 (by omega) (by omega)
   obtain ⟨n, rfl⟩ : ∃ n : Nat, v = n := ⟨v.toNat, by omega⟩
   have hwn : wrap64 (1 + (n : Int)) = ((n + 1 : Nat) : Int) := by rw [w64] <;> omega
   obtain ⟨x, m, s1, ex, fx, hD1⟩ := some_ (n + 1) (by omega) hD0
   obtain ⟨m1, s2, em1, r1, hD2⟩ := maps_ (n + 1) (by omega) hD1
   obtain ⟨m2, s3, em2, r2, hD3⟩ := maps_ 30 (by omega) hD2
   have ok1 := r1.ok (by omega) (by omega)
   have ok2 := r2.ok (by omega) (by omega)
   have hl1 := r1.len
   have hl2' := r2.len
   have hxl := fx.len
   obtain ⟨a, ea, ga, la, ca, pa, wa⟩ := along (N := 6) (R := 3) (M := 24) (B := 12) fx.good (by omega) (by omega) (by omega) ok1 (fun t ht => by have := fx.place t ht; omega) (fun r hr => ⟨(r1.row r hr).1, fun y hy => by have := (r1.row r hr).2 y hy; omega⟩) (fun t ht => by have := fx.coef t ht; omega) (by omega) (by omega)
   obtain ⟨b, eb, gb, lb, cb, pb, wb⟩ := along (N := 18) (R := 3) (M := 432) (B := 60) ga (by omega) (by omega) (by omega) ok2 (fun t ht => by have := pa t ht; omega) (fun r hr => ⟨(r2.row r hr).1, fun y hy => by have := (r2.row r hr).2 y hy; omega⟩) (fun t ht => by have := ca t ht; omega) (by omega) (by omega)
   obtain ⟨p, ep, kp⟩ := points_fact m1 m2 (fun r hr => by have := (r1.row r hr).1; omega) (fun r hr => by have := (r2.row r hr).1; omega)
   have inr : ∀ r ∈ m1, ∀ y ∈ r, 0 ≤ y ∧ y < (m2.length : Int) := fun r hr y hy => by have := (r1.row r hr).2 y hy; omega
   have prow : ∀ r ∈ pts m1 m2, r.length ≤ 9 ∧ ∀ y ∈ r, 0 ≤ y ∧ y < 60 := fun r hr => by
    obtain ⟨q, hq, rfl⟩ := List.mem_map.1 hr
    constructor
    ·have h1 := through_length (r := q) (m2 := m2) (B := 3) fun y hy => (r2.row _ (rdl_mem (inr q hq y hy).1 (inr q hq y hy).2)).1
     have := (r1.row q hq).1
     omega
    ·intro y hy
     obtain ⟨z, hz, hy⟩ := through_mem hy
     have := (r2.row _ (rdl_mem (inr q hq z hz).1 (inr q hq z hz).2)).2 y hy
     omega
   have nbig : big (pts m1 m2) = false := by
    unfold big
    rw [List.any_eq_false]
    intro r hr
    have := (prow r hr).1
    rw [decide_eq_true_eq]
    omega
   obtain rfl := kp.unique (Or.inr (Or.inr (Or.inr ⟨ok1, ok2, (by rintro ⟨r, hr, y, hy, hk⟩; have := inr r hr y hy; omega), nbig, rfl⟩)))
   have plen : (pts m1 m2).length = m1.length := by simp [pts]
   have okp : MapOk (pts m1 m2) := ⟨by omega, fun r hr => rowOk_iff.2 ⟨by have := (prow r hr).1; omega, fun y hy => blk_iff.2 (by have := (prow r hr).2 y hy; omega)⟩⟩
   obtain ⟨c, ec, gc, lc, cc, pc, wc⟩ := along (N := 6) (R := 9) (M := 24) (B := 60) fx.good (by omega) (by omega) (by omega) okp (fun t ht => by have := fx.place t ht; omega) prow (fun t ht => by have := fx.coef t ht; omega) (by omega) (by omega)
   have same : b = c := by
    have hb : Canon b (cf c) := ⟨gb.pairwise, gb.nz, fun z => by
     rw [cf_wsum, cf_wsum c, wb, wa, wc]
     refine wsum_congr fun t ht => ?_
     have hp := fx.place t ht
     obtain ⟨j, hj⟩ : ∃ j : Nat, t.f0 = j := ⟨t.f0.toNat, by omega⟩
     rw [hj, rd_gl, rd_gl, gl_lt (show j < m1.length by omega), gl_lt (show j < (pts m1 m2).length by omega)]
     have : (pts m1 m2)[j]'(by omega) = through (m1[j]'(by omega)) m2 := by simp [pts]
     rw [this, lsum_through]⟩
    exact hb.unique ⟨gc.pairwise, gc.nz, fun _ => rfl⟩
   subst same
   refine evs (evp rfl ?_)
   unfold timeboundmake_New.f
   refine evs (evc (fun k => by rw [hv, Option.bind_some]) ?_)
   rw [hwn]
   refine evb ex (evb em1 (evb em2 (evb ea (evb eb (evb ep (evb ec (evp rfl (evp rfl (evp rfl (evp rfl ?_))))))))))
   refine evb (same_refl b m (by omega)) (evp rfl (evb awake_ ?_))
   exact Ev.step (fun k => by rw [timeboundlaw11_FactTwice.j0]) (evr _)
  ·rw [decide_eq_false h]
   exact evs (evn (by simp) (evb awake_ (evr _)))
end Go.Proofs.Ytikpfbfeoifmkaa.Pure
end
section
namespace Go.Proofs.YtikpfbfeoifmkaaW.PrintWords
open Go.ChangeShapes Go.WideShapes
theorem sized_ints {H : Type} {enc : TypeId × Value → H} {P : Program} {W : World} {base : Nat} {spare : Nat → Bool} {held : Bool} {t e : TypeId} {k : IntKind} {a : Option Addr} {len cap : Nat} {d : DataW H} {ps : List MemPlace} {ts : List TypeId} {ds : List (DataW H)} {j : Nat}
   (hsz : (DataW.weightsEach P ts ds).all (· ≤ reachBytes) = true) (ht : ts[j]? = some t) (hd : ds[j]? = some d) (hu : P.underlying t = some (.slice e)) (he : P.underlying e = some (.int k)) (hc : P.cellsOf e = 1) {B : Nat} (hB : P.bytesOf e = B)
   (h : DataW.Trod enc P W base spare held t (.slice a len cap) d ps) : len * B ≤ 140737488351232 := by
  obtain ⟨fuel, hf⟩ := h
  rcases open_ints hu he hc hf with ⟨hcs, _⟩ | ⟨x, l, c, zs, hcs, _, hl, _, hz, hx, _, _⟩
  ·simp [Value.cells] at hcs
   obtain ⟨rfl, rfl, rfl⟩ := hcs
   simp
  ·simp [Value.cells] at hcs
   obtain ⟨rfl, rfl, rfl⟩ := hcs
   obtain ⟨hx, _⟩ := Prod.mk.inj hx
   subst hx
   have z := sized_slice hsz ht hd hu
   rw [hB] at z
   have hl2 : len ≤ zs.length := by
    rw [hz]
    split
    ·exact hl
    ·exact Nat.le_refl _
   have h1 : (lits (H := H) k (zs.take len)).length + (lits (H := H) k (zs.drop len)).length = zs.length := by
    simp [lits]
    omega
   rw [h1] at z
   exact Nat.le_trans (Nat.mul_le_mul_right _ hl2) z
end Go.Proofs.YtikpfbfeoifmkaaW.PrintWords
end
section
namespace Go.Proofs.Ytikpfbfeoifmkaa.factTwice
open Go.ChangeShapes Go.WideShapes Go.ChangeAt Go.RowKit
open Go.ChangeMaps (open_string shut_string)
set_option linter.unusedVariables false
theorem own : ownKnob Try.prog.godebug = none := by kernel_rfl
theorem laidOut : laidOutB Try.prog = true := by kernel_rfl
def IsRow (k : IntKind) (w : World) (a : Option Addr) (len cap : Nat) (zs : List Int) : Prop :=
  (a = none ∧ len = 0 ∧ cap = 0 ∧ zs = []) ∨
  ∃ x, a = some x ∧ len ≤ cap ∧ cap ≤ maxLen ∧ zs.length = cap ∧ (∀ i, i < zs.length → w.cell? (x.add i) = some (.int k (zs.getD i 0))) ∧ ∀ n ∈ zs, (Lit.int k n).wf = true
set_option maxRecDepth 100000 in
theorem lifted (os : Os) (started : os.Started) (H : Type) (enc : TypeId × Value → H) :
   ReturnsInHanded {} Try.checked os 6 .any (Rows.factTwiceSpec.pre6 enc Try.prog Try.f6 Rows.factTwiceRow.domain false) (Rows.factTwiceSpec.post enc Try.prog Try.f6 false true false false) := by
  refine returnsInHanded_of_change_sized (C := Try.checked) own started (by kernel_rfl) Try.func6
   (ChangeSpec.witness6 (enc := enc) (C := Try.checked) false ⟨#[], #[.slice none 0 0], []⟩ 8 (by kernel_rfl) (by kernel_rfl) (by kernel_rfl) (by kernel_rfl)) ?_
  intro W base args ds gs before hval0 hW hcnd hsz0 _
  have hsz : (DataW.weightsEach Try.prog (Try.f6.params.toList ++ Rows.factTwiceSpec.plain.varTypes Try.prog) (ds ++ gs)).all (· ≤ reachBytes) = true := hsz0
  have hval : ∀ (j : Nat) t v, Try.f6.params[j]? = some t → args[j]? = some v → Value.okWide Try.prog W .any base t v := hval0
  have hW' := hW
  obtain ⟨p, q, hA0, hV, rfl, hfz, hnd⟩ := hW
  have hA : DataW.TrodAll enc Try.prog W 0 (fun _ => true) true Try.f6.params.toList args.toList ds p := hA0
  rw [Try.params6] at hA hval hsz
  obtain ⟨v0, vs0, d0, ds0, p0, q0, hargs, rfl, rfl, h0, r0⟩ := trodAll_cons hA
  obtain ⟨rfl, rfl, rfl⟩ := trodAll_nil r0
  obtain rfl : args = #[v0] := by cases args; simp_all
  obtain ⟨rfl, rfl⟩ := trodVars_none hV
  obtain ⟨a0, len0, cap0, rfl⟩ := okWide_slice Try.underlying22 (hval 0 22 v0 rfl rfl)
  have k0 := h0
  have lt0 : ∀ x ∈ p0, x.block < W.heap.size := by obtain ⟨m, hm⟩ := k0; exact DataW.trod_lt m _ _ _ hm
  obtain ⟨z0, w0⟩ : ∃ zs, IsRow .i64 W a0 len0 cap0 zs := by
   obtain ⟨fuel, hf⟩ := h0
   rcases open_ints Try.underlying22 Try.underlying3 (by kernel_rfl) hf with ⟨hcs, _⟩ | ⟨x, l, c, zs, hcs, _, hl, hm, hz, _, hcell, hwz⟩
   ·simp [Value.cells] at hcs
    obtain ⟨rfl, rfl, rfl⟩ := hcs
    exact ⟨[], .inl ⟨rfl, rfl, rfl, rfl⟩⟩
   ·simp [Value.cells] at hcs
    obtain ⟨rfl, rfl, rfl⟩ := hcs
    exact ⟨zs, .inr ⟨_, rfl, hl, hm, by simpa using hz, hcell, hwz⟩⟩
  have y0 : len0 * 8 ≤ 140737488351232 := Go.Proofs.YtikpfbfeoifmkaaW.PrintWords.sized_ints hsz (j := 0) (t := 22) rfl rfl Try.underlying22 Try.underlying3 (by kernel_rfl) (by kernel_rfl) h0
  clear hA0 hval0 hsz0 hsz
  refine (X.timeboundlaw11_FactTwice.walk Pure.FactTwice a0 len0 cap0 z0 W w0 y0).mono fun e W' ⟨he, bel⟩ => ?_
  subst he
  exact ⟨_, rfl, _, _, _, [], _, [], hW', trodAll_mk1 (shut_bool Try.underlying4 _), (trodAll_cons_mk (Below.trod laidOut (by kernel_rfl) (of_decide_eq_true (by kernel_rfl)) k0 bel lt0) trodAll_mk0), rfl, bel.frame _, fun h => by cases h⟩
theorem over : Rows.factTwiceRow.holds Try.pinned (OpenSpec.ofChange Rows.factTwiceSpec) :=
  OpenClaim.holds_of_wide 6 Try.f6 rfl rfl rfl rfl rfl rfl rfl ⟨rfl, rfl, rfl, rfl, rfl⟩ rfl rfl rfl rfl rfl (by kernel_rfl) Try.func6 (by kernel_rfl)
   (of_decide_eq_true (by kernel_rfl)) (by unfold Func.isWrapper; first | (rw [if_pos (by decide +kernel)]; kernel_rfl) | (rw [if_neg (by decide +kernel)]; exact ⟨rfl, rfl⟩))
   (fun os started H enc _ => lifted os started H enc)
theorem proved : Rows.FactTwiceSaid := over
#print axioms proved
end Go.Proofs.Ytikpfbfeoifmkaa.factTwice
namespace Go.Proofs.Ytikpfbfeoifmkaa
theorem factTwice_holds : Rows.FactTwiceSaid := factTwice.proved
end Go.Proofs.Ytikpfbfeoifmkaa
end
