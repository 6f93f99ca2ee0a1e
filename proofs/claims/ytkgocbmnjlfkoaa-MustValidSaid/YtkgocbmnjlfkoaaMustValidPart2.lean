/- Part 2 of the walks and lemmas for the law that the last text proves. -/
import Derived.Test.YtkgocbmnjlfkoaaMustValidPart1
import Derived.Deep.AppendLies
import Derived.OrdersHeld
import Derived.Deep.CutRange
section
namespace Go.Proofs.Ytkgocbmnjlfkoaa.M
open Go.RowKit Go.Proofs.Ytkgocbmnjlfkoaa.X Go.Proofs.YtkgocbmnjlfkoaaW.PrintWords Go.Proofs.YtkgocbmnjlfkoaaW.PrintLast Go.Proofs.YtkgocbmnjlfkoaaW.PrintMore
set_option linter.unusedVariables false
set_option linter.unusedSimpArgs false
structure CacheOk (S W L : Nat) : Prop where
  s8 : S ≤ 8
  w1 : 1 ≤ W
  w4 : W ≤ 4
  l1 : 1 ≤ L
  l8 : L ≤ 8
theorem check_ {S W L : Nat} (h : CacheOk S W L) : cache_Check.f 2 S W L = some 0 := by
  have h1 := h.s8; have h2 := h.w1; have h3 := h.w4; have h4 := h.l1; have h5 := h.l8
  have e1 : cache_between.f S 0 8 = some true := by unfold cache_between.f; rw [if_pos (by omega), decide_eq_true (by omega)]
  have e2 : cache_between.f W 1 4 = some true := by unfold cache_between.f; rw [if_pos (by omega), decide_eq_true (by omega)]
  have e3 : cache_between.f L 1 8 = some true := by unfold cache_between.f; rw [if_pos (by omega), decide_eq_true (by omega)]
  unfold cache_Check.f
  rw [e1, Option.bind_some, if_pos rfl, e2, Option.bind_some, if_pos rfl, e3]
  rfl
theorem check_calls {S W L : Nat} (h : CacheOk S W L) (w : World) : Calls Try.prog 85 #[.agg #[.int .i64 S, .int .i64 W, .int .i64 L]] w fun e w' => e = .returned (.int .i64 0) ∧ Below w.heap.size w w' :=
  cache_Check.calls 2 S W L 0 w (check_ h)
theorem set_ {S W L : Nat} (h : CacheOk S W L) (n : Nat) : cache_Set.f 2 S W L n = some (if S = 0 then -1 else ((n % S : Nat) : Int)) := by
  unfold cache_Set.f
  rw [check_ h]
  simp only [Option.bind_some, if_true]
  rw [if_neg (by omega)]
  by_cases hs : S = 0
  · subst hs; rfl
  · rw [if_neg (by omega), if_neg hs]
    congr 1
theorem mset_calls {S W L : Nat} (h : CacheOk S W L) (A : Option Addr) (c : Nat) (x : List (List (List Int))) (n : Nat) (w : World) (hx : x.length = S) (hr : C3 w A x) (hc : x.length ≤ c) :
    Calls Try.prog 74 #[.agg #[.int .i64 S, .int .i64 W, .int .i64 L], .agg #[.slice A x.length c], .int .i64 n] w fun e w' => e = .returned (.int .i64 (if S = 0 then -1 else ((n % S : Nat) : Int))) ∧ Below w.heap.size w w' := by
  refine must_set.calls 2 S W L A c x n _ w hr hc ?_
  unfold must_set.f
  rw [set_ h, Option.bind_some]
  by_cases hs : S = 0
  · subst hs
    rw [if_pos rfl, if_neg (by rw [hx]; omega)]
  · rw [if_neg hs]
    have := Nat.mod_lt n (Nat.pos_of_ne_zero hs)
    rw [if_neg (by rw [hx]; omega)]
def top (S W : Nat) : List (List (List Int)) := List.replicate S (List.replicate W [])
def topN (S W i : Nat) : List (List (List Int)) := List.replicate i (List.replicate W []) ++ List.replicate (S - i) []
theorem topN_length {S W i : Nat} (h : i ≤ S) : (topN S W i).length = S := by simp [topN]; omega
theorem topN_set {S W i : Nat} (h : i < S) : (topN S W i).set i (List.replicate W []) = topN S W (i + 1) := by
  unfold topN
  rw [List.set_append_right _ _ (by simp)]
  simp only [List.length_replicate, Nat.sub_self]
  rw [show S - i = (S - (i + 1)) + 1 by omega, List.replicate_succ, List.set_cons_zero, List.replicate_succ' (n := i), List.append_assoc]
  rfl
def Und3 (w wr : World) (v : Value) (x : List (List (List Int))) : Prop := ∃ vs uss, T3 wr w.heap.size v vs uss x ∧ Below w.heap.size w wr
theorem own_blk_ne {w : World} {b e : Nat} {v : Value} {n : Nat} {cs : List Value} (h : w.ownsRow b e 1 v n cs) {k t : Nat} {c : Array Value} (hk : w.heap[k]? = some (.cells c t (0, 0))) (hne : e ≠ t) : v.ownBlock ≠ some k := fun e1 => by
  obtain ⟨c2, h2⟩ := own_typed h k e1
  rw [hk] at h2
  injection h2 with h2
  injection h2 with _ h2
  exact hne h2.symm
theorem Und3.put {w wr w2 : World} {g n cap i : Nat} {x : List (List (List Int))} (h : Und3 w wr (.slice (some ⟨g, 0, none⟩) n cap) x) (hi : i < x.length) (hb : Below wr.heap.size wr w2) {u : Value} {us : List Value} {ys : List (List Int)} (hu : T2 w2 wr.heap.size u us ys) :
    Und3 w (w2.setCell ⟨g, i, none⟩ u) (.slice (some ⟨g, 0, none⟩) n cap) (x.set i ys) := by
  obtain ⟨vs, uss, hT, hB⟩ := h
  refine ⟨vs.set i u, uss.set i us, (hT.below hb).put hi (hu.lower hB.size) (fun j hj hji k hk hk2 => ?_), ?_⟩
  · have h3 := (hT.el j hj).lt hk2
    have := (hu.lt hk).1
    omega
  · exact (hB.trans (hb.mono hB.size)).setCell (hT.lt (k := g) (.inl rfl)).1 _
theorem Und3.cell {w wr : World} {g n cap i : Nat} {x : List (List (List Int))} (h : Und3 w wr (.slice (some ⟨g, 0, none⟩) n cap) x) (hi : i < x.length) : (∃ u A m c, wr.cell? ⟨g, i, none⟩ = some u ∧ u = .slice A m c) ∧ wr.frozen? ⟨g, i, none⟩ = false := by
  obtain ⟨vs, uss, hT, hB⟩ := h
  obtain ⟨h5, h6⟩ := hT.cell hi
  obtain ⟨A, c, h7, _⟩ := (hT.el i hi).reads
  exact ⟨⟨_, A, _, c, h5, h7⟩, h6⟩
theorem Und3.ne {w wr : World} {g n cap k t : Nat} {c : Array Value} {x : List (List (List Int))} (h : Und3 w wr (.slice (some ⟨g, 0, none⟩) n cap) x) (hk : wr.heap[k]? = some (.cells c t (0, 0))) (ht : 43 ≠ t) : k ≠ g := by
  obtain ⟨vs, uss, hT, hB⟩ := h
  exact fun e => own_blk_ne hT.own hk ht (by rw [e]; rfl)
theorem Und3.base {w wr : World} {g n cap : Nat} {x : List (List (List Int))} (h : Und3 w wr (.slice (some ⟨g, 0, none⟩) n cap) x) : w.heap.size ≤ g ∧ g < wr.heap.size := by
  obtain ⟨vs, uss, hT, hB⟩ := h
  exact hT.lt (.inl rfl)
theorem box_after {w w1 : World} {o : Obj} (hb : Below (w.alloc o).heap.size (w.alloc o) w1) : w1.heap[w.heap.size]? = some o := (hb.block _ (by rw [World.size_alloc]; omega)).trans (heap_new w o)
set_option maxHeartbeats 1000000 in
theorem top_calls {S W L : Nat} (h : CacheOk S W L) (w : World) : Calls Try.prog 65 #[.agg #[.int .i64 S, .int .i64 W, .int .i64 L]] w (New3 w (top S W)) := by
  have h1 := h.s8; have h2 := h.w1; have h3 := h.w4
  have hmk1 := print_make_of (P := Try.prog) 29 43 (.slice none 0 0) 24 Try.underlying29 info43 rfl (by omega) S (by omega)
  have hmk2 := print_make_of (P := Try.prog) 43 22 (.slice none 0 0) 24 Try.underlying43 info22 rfl (by omega) W (by omega)
  have hck := check_calls h (w.alloc (.cells #[.int .i64 S, .int .i64 W, .int .i64 L] 26))
  have HM2 := Aside0.mk hmk2
  clear hmk2 h
  go_enter Try.func65, Try.ntmps65
  go_wp2_with (go_at_call 85; refine hck.mono ?_; rintro e w1 ⟨rfl, hb⟩; have hbx := box_after hb; obtain ⟨q0, q1, q2, f0, f1, f2⟩ := cz3 hbx; have HB := Aside0.mk (((Below.refl w.heap.size w).alloc (Nat.le_refl _) (.cells #[.int .i64 S, .int .i64 W, .int .i64 L] 26)).trans (hb.mono (by simp))); have HX := Aside0.mk hbx; have HZ := Aside0.mk hb.size; clear hb hbx f0 f1 f2)
  have HU : Aside0 (Und3 w (w1.alloc (.cells (madeCells #[.slice none 0 0] S) 43)) (.slice (some ⟨w1.heap.size, 0, none⟩) S S) (topN S W 0)) := ⟨_, _, by have := T3.made w1 w.heap.size S HB.out.size (by omega); simpa [topN] using this, HB.out.alloc HB.out.size _⟩
  have HX2 : Aside0 ((w1.alloc (.cells (madeCells #[.slice none 0 0] S) 43)).heap[w.heap.size]? = some (.cells #[.int .i64 S, .int .i64 W, .int .i64 L] 26 (0, 0))) := ⟨blk_alloc HX.out _⟩
  clear hmk1 HX q0 q1 q2
  generalize hgg : w1.heap.size = g at *
  clear hgg
  go_loopw [13] (fun v13 wr => ∃ i : Nat, i ≤ S ∧ v13 = .int .i64 i ∧ Aside0 (Und3 w wr (.slice (some ⟨g, 0, none⟩) S S) (topN S W i)) ∧ Aside0 (wr.heap[w.heap.size]? = some (.cells #[.int .i64 S, .int .i64 W, .int .i64 L] 26 (0, 0)))) (fun v13 _ => S - (RowKit.intOf v13).toNat)
  case atStart => exact ⟨0, Nat.zero_le _, rfl, HU, HX2⟩
  case round =>
    clear HU HX2
    obtain ⟨i, hi, rfl, HU, HX⟩ := hrel
    by_cases hlt : i < S
    · obtain ⟨q0, q1, q2, f0, f1, f2⟩ := cz3 HX.out
      have HN : Aside0 (Und3 w ((wr.alloc (.cells (madeCells #[.slice none 0 0] W) 22)).setCell ⟨g, i, none⟩ (.slice (some ⟨wr.heap.size, 0, none⟩) W W)) (.slice (some ⟨g, 0, none⟩) S S) (topN S W (i + 1))) := ⟨by
        rw [← topN_set hlt]
        exact HU.out.put (by rw [topN_length hi]; exact hlt) ((Below.refl _ _).alloc (Nat.le_refl _) _) (T2.made wr _ W (Nat.le_refl _) (by omega))⟩
      have HX2 : Aside0 (((wr.alloc (.cells (madeCells #[.slice none 0 0] W) 22)).setCell ⟨g, i, none⟩ (.slice (some ⟨wr.heap.size, 0, none⟩) W W)).heap[w.heap.size]? = some (.cells #[.int .i64 S, .int .i64 W, .int .i64 L] 26 (0, 0))) := ⟨blk_farm (blk_alloc HX.out _) (HU.out.ne HX.out (by decide))⟩
      obtain ⟨⟨u, A, m, c, hcell, rfl⟩, hfro⟩ := HU.out.cell (i := i) (by rw [topN_length hi]; exact hlt)
      have hmk2 := HM2.out
      have hgw := HU.out.base.2
      have hxw := blk_lt HX.out
      have HE : Aside0 _ := ⟨World.setCell_alloc_past (w := wr) (.cells (madeCells #[.slice none 0 0] W) 22) g i (.slice (some ⟨wr.heap.size, 0, none⟩) W W) hgw⟩
      rw [HE.out] at HN HX2
      clear HE HU HX f0 f1 f2
      go_wp2
      go_roundw
      case rel => exact ⟨i + 1, hlt, by go_num, HN, HX2⟩
      case measure => simp [RowKit.intOf]; omega
    · obtain rfl : i = S := by omega
      go_wp2
      go_ret
      obtain ⟨vs, uss, hT, hB⟩ := HU.out
      exact ⟨_, vs, uss, rfl, by simpa [topN, top] using hT, hB⟩
end Go.Proofs.Ytkgocbmnjlfkoaa.M
end
section
namespace Go.Proofs.Ytkgocbmnjlfkoaa.M
open Go.RowKit Go.Proofs.Ytkgocbmnjlfkoaa.X Go.Proofs.YtkgocbmnjlfkoaaW.PrintWords Go.Proofs.YtkgocbmnjlfkoaaW.PrintLast Go.Proofs.YtkgocbmnjlfkoaaW.PrintMore
set_option linter.unusedVariables false
set_option linter.unusedSimpArgs false
theorem reps_nums {w : World} {b : Nat} {ok : Nat → Prop} {xs : List Int} {inner : List Value} (h : Reps ((Kd.int .i64).M w b ok) 1 xs inner) : inner = nums .i64 xs := by
  obtain ⟨h1, h2⟩ := h
  apply List.ext_getElem
  · simp [nums]; omega
  · intro j h3 h4
    have hj : j < xs.length := by omega
    have h5 : (inner.drop (j * 1)).take 1 = [.int .i64 xs[j]] := h2 j xs[j] (List.getElem?_eq_getElem hj)
    rw [Nat.mul_one, List.drop_eq_getElem_cons h3] at h5
    have h6 : inner[j] = .int .i64 xs[j] := by injection h5
    rw [h6]
    simp [nums]
theorem T1.ofR {w : World} {b : Nat} {ok : Nat → Prop} {v : Value} {xs : List Int} (h : Kd.R (Kd.int .i64) 3 w b ok v xs) : T1 w b v xs := by
  obtain ⟨_, inner, ho, hr⟩ := h
  rw [reps_nums hr] at ho
  exact ho
def New1 (w : World) (xs : List Int) (e : Ending) (w' : World) : Prop := ∃ v, e = .returned v ∧ T1 w' w.heap.size v xs ∧ Below w.heap.size w w'
set_option maxHeartbeats 2000000 in
theorem clone_calls (A : Option Addr) (c : Nat) (xs : List Int) (w : World) (hr : C1 w A xs) (hc : xs.length ≤ c) (hl : xs.length < 8796093022208) : Calls Try.prog 86 #[.slice A xs.length c] w (New1 w xs) := by
  have HR := Aside0.mk hr
  have HL := Aside0.mk hl
  clear hr hl
  have heq : ∀ (W : World) (a : Option Addr) (n c : Nat), (binOp .eql 22 (.slice a n c) (.slice none 0 0)).run Try.prog W = .ok (.bool a.isNone) W := fun W a n c => Lib.run_eql_slice_nil W 22 3 a n c 0 0 Try.underlying22
  rcases A with _ | ad
  · have h0 : xs = [] := by
      cases xs with
      | nil => rfl
      | cons x t => obtain ⟨ad, e, _⟩ := HR.out.2.2 (by simp); cases e
    subst h0
    go_enter Try.func86, Try.ntmps86
    go_wp2
    go_ret
    exact ⟨_, rfl, T1.nil _ _, Below.refl _ _⟩
  · have hn : (some ad : Option Addr).isNone = false := rfl
    go_enter Try.func86, Try.ntmps86
    have hb1 : Below w.heap.size w (w.alloc (.cells #[] 3)) := (Below.refl _ _).alloc (Nat.le_refl _) _
    have HO0 := Aside0.mk (show (Kd.int .i64).R 3 (w.alloc (.cells #[] 3)) w.heap.size (fun _ => True) (.slice (some ⟨w.heap.size, 0, none⟩) 0 0) [] from ⟨fun k _ => trivial, OwnRow.lit w w.heap.size (inner := []) (Reps.none _ _) (Nat.le_refl _) (by simp)⟩)
    have HR1 := Aside0.mk (Kd.C_below HR.out hb1)
    have HB1 := Aside0.mk hb1
    clear hb1
    go_wp2_with (at_builtin; refine Kd.R_append_rows (Kd.int .i64) (w0 := w) w.heap.size rfl (.tmp 5) (.tmp 6) 22 3 (.int .i64 0) 8 rfl Try.underlying22 info3 rfl (by decide) (by decide) _ [] xs (some ad) xs.length c (fun _ => True) (fun _ => False) rfl rfl HO0.out HR1.out (fun _ _ h => h) (fun _ h => h.elim) (fun _ _ => trivial) HB1.out (by simp) (by have := HL.out; simp; omega) ?_; intro v1 w1 ho hb _ _; have HO2 := Aside0.mk ho; have HB2 := Aside0.mk hb; clear ho hb)
    go_ret
    exact ⟨_, rfl, T1.ofR HO2.out, HB2.out⟩
end Go.Proofs.Ytkgocbmnjlfkoaa.M
end
section
namespace Go.Proofs.Ytkgocbmnjlfkoaa.M
open Go.RowKit Go.Proofs.Ytkgocbmnjlfkoaa.X Go.Proofs.YtkgocbmnjlfkoaaW.PrintWords Go.Proofs.YtkgocbmnjlfkoaaW.PrintLast Go.Proofs.YtkgocbmnjlfkoaaW.PrintMore
set_option linter.unusedVariables false
set_option linter.unusedSimpArgs false
theorem Und3.row {w wr : World} {g n cap i : Nat} {x : List (List (List Int))} (h : Und3 w wr (.slice (some ⟨g, 0, none⟩) n cap) x) (hi : i < x.length) :
    ∃ u m c, wr.cell? ⟨g, i, none⟩ = some u ∧ wr.frozen? ⟨g, i, none⟩ = false ∧ ((u = .slice none 0 0 ∧ x.getD i [] = []) ∨ ∃ gs, u = .slice (some ⟨gs, 0, none⟩) m c ∧ m = (x.getD i []).length ∧ m ≤ c ∧ gs ≠ g ∧ w.heap.size ≤ gs ∧ gs < wr.heap.size) := by
  obtain ⟨vs, uss, hT, hB⟩ := h
  obtain ⟨h5, h6⟩ := hT.cell hi
  rcases (hT.el i hi).open_ with ⟨h1, _, h2⟩ | ⟨gs, cap2, cur, h1, h2, h3, h4, _⟩
  · exact ⟨_, 0, 0, h5, h6, .inl ⟨h1, h2⟩⟩
  · exact ⟨_, _, cap2, h5, h6, .inr ⟨gs, h1, rfl, h4, fun e => hT.ne hi (k := gs) (.inl (by rw [h1]; rfl)) (by rw [e]; rfl), h2, blk_lt h3⟩⟩
theorem Und3.cell2 {w wr : World} {g n cap i gs m c a : Nat} {x : List (List (List Int))} (h : Und3 w wr (.slice (some ⟨g, 0, none⟩) n cap) x) (hi : i < x.length) (hcell : wr.cell? ⟨g, i, none⟩ = some (.slice (some ⟨gs, 0, none⟩) m c)) (ha : a < (x.getD i []).length) :
    (∃ u A m c, wr.cell? ⟨gs, a, none⟩ = some u ∧ u = .slice A m c ∧ ((x.getD i []).getD a []).length = m ∧ m ≤ c ∧ C1 wr A ((x.getD i []).getD a [])) ∧ wr.frozen? ⟨gs, a, none⟩ = false := by
  obtain ⟨vs, uss, hT, hB⟩ := h
  obtain ⟨h5, h6⟩ := hT.cell hi
  rw [hcell] at h5
  injection h5 with h5
  have h2 := hT.el i hi
  rw [← h5] at h2
  obtain ⟨h7, h8⟩ := h2.cell ha
  obtain ⟨A, c2, h9, h10, h11⟩ := (h2.el a (by have := h2.len; omega)).reads
  exact ⟨⟨_, A, _, c2, h7, h9, rfl, h10, h11⟩, h8⟩
theorem Und3.gne {w wr : World} {g n cap i gs m c : Nat} {x : List (List (List Int))} (h : Und3 w wr (.slice (some ⟨g, 0, none⟩) n cap) x) (hi : i < x.length) (hcell : wr.cell? ⟨g, i, none⟩ = some (.slice (some ⟨gs, 0, none⟩) m c)) : g ≠ gs := by
  obtain ⟨vs, uss, hT, hB⟩ := h
  obtain ⟨h5, h6⟩ := hT.cell hi
  rw [hcell] at h5
  injection h5 with h5
  exact fun e => hT.ne hi (k := gs) (.inl (by rw [← h5]; rfl)) (by rw [e]; rfl)
theorem Und3.putRow {w wr w2 : World} {g n cap i gs m c a : Nat} {x : List (List (List Int))} (h : Und3 w wr (.slice (some ⟨g, 0, none⟩) n cap) x) (hi : i < x.length) (hcell : wr.cell? ⟨g, i, none⟩ = some (.slice (some ⟨gs, 0, none⟩) m c)) (ha : a < (x.getD i []).length) (hb : Below wr.heap.size wr w2) {u : Value} {ys : List Int} (hu : T1 w2 wr.heap.size u ys) :
    Und3 w (w2.setCell ⟨gs, a, none⟩ u) (.slice (some ⟨g, 0, none⟩) n cap) (x.set i ((x.getD i []).set a ys)) := by
  obtain ⟨vs, uss, hT, hB⟩ := h
  obtain ⟨h5, h6⟩ := hT.cell hi
  rw [hcell] at h5
  injection h5 with h5
  have h2 := (hT.below hb).el i hi
  rw [← h5] at h2
  have h20 := hT.el i hi
  rw [← h5] at h20
  have hl2 := h2.len
  have h3 := h2.put ha (hu.lower hB.size) (fun j hj hja => by
    rcases he : u.ownBlock with _ | k
    · exact .inl rfl
    · refine .inr (fun e => ?_)
      have h4 := ((h20.el j hj).lt e.symm).2
      have := (hu.lt he).1
      omega)
  have hgs : w.heap.size ≤ gs := (h20.lt (k := gs) (.inl rfl)).1
  refine ⟨vs, _, hT.upd hi (us := (uss.getD i []).set a u) (by rw [← h5]; exact h3) ((Fr.ofBelow hb).trans (Fr.set u (by rw [← h5]; exact .inl rfl))) (fun k hk => ?_), (hB.trans (hb.mono hB.size)).setCell hgs _⟩
  rw [← h5] at hk ⊢
  rcases hk with hk | ⟨j, hj, hk⟩
  · exact .inl (.inl hk)
  · rw [List.length_set] at hj
    rw [getD_set _ _ _ _ (by omega)] at hk
    split at hk
    · exact .inr (hu.lt hk).1
    · exact .inl (.inr ⟨j, hj, hk⟩)
theorem frozen_below {w w1 : World} (h : Below w.heap.size w w1) {a : Addr} {v : Value} (hc : w.cell? a = some v) (hf : w.frozen? a = false) : w1.frozen? a = false := (h.frozen (World.block_lt_of_cell? w a hc)).trans hf
def copN (x : List (List (List Int))) (i : Nat) : List (List (List Int)) := x.take i ++ List.replicate (x.length - i) []
def copR (r : List (List Int)) (a : Nat) : List (List Int) := r.take a ++ List.replicate (r.length - a) []
theorem copN_length (x : List (List (List Int))) {i : Nat} (h : i ≤ x.length) : (copN x i).length = x.length := by simp [copN]; omega
theorem copR_length (x : List (List Int)) {i : Nat} (h : i ≤ x.length) : (copR x i).length = x.length := by simp [copR]; omega
theorem copR_set (r : List (List Int)) {a : Nat} (h : a < r.length) : (copR r a).set a r[a] = copR r (a + 1) := by
  unfold copR
  rw [List.set_append_right _ _ (by rw [List.length_take]; omega), List.length_take, Nat.min_eq_left (by omega), Nat.sub_self, show r.length - a = (r.length - (a + 1)) + 1 by omega, List.replicate_succ, List.set_cons_zero, List.take_succ_eq_append_getElem h, List.append_assoc]
  rfl
theorem copN_set (x : List (List (List Int))) {i : Nat} (h : i < x.length) : (copN x i).set i x[i] = copN x (i + 1) := by
  unfold copN
  rw [List.set_append_right _ _ (by rw [List.length_take]; omega), List.length_take, Nat.min_eq_left (by omega), Nat.sub_self, show x.length - i = (x.length - (i + 1)) + 1 by omega, List.replicate_succ, List.set_cons_zero, List.take_succ_eq_append_getElem h, List.append_assoc]
  rfl
theorem set_twice {α : Type} (l : List α) (i : Nat) (a b : α) : (l.set i a).set i b = l.set i b := by simp
theorem getD_set_eq {α : Type} {d : α} (l : List α) (i : Nat) (a : α) (h : i < l.length) : (l.set i a).getD i d = a := by rw [getD_set _ _ _ _ h, if_pos rfl]
def Short3 (x : List (List (List Int))) : Prop := x.length < 1099511627776 ∧ ∀ r ∈ x, r.length < 1099511627776 ∧ ∀ l ∈ r, l.length < 1099511627776
set_option maxHeartbeats 4000000 in
theorem copy_calls (A : Option Addr) (c : Nat) (x : List (List (List Int))) (w : World) (hr : C3 w A x) (hc : x.length ≤ c) (hs : Short3 x) : Calls Try.prog 73 #[.slice A x.length c] w (New3 w x) := by
  have hxl := hs.1
  have hmk1 := print_make_of (P := Try.prog) 29 43 (.slice none 0 0) 24 Try.underlying29 info43 rfl (by omega) x.length (by omega)
  have HU : Aside0 (Und3 w (w.alloc (.cells (madeCells #[.slice none 0 0] x.length) 43)) (.slice (some ⟨w.heap.size, 0, none⟩) x.length x.length) (copN x 0)) := ⟨_, _, by have := T3.made w w.heap.size x.length (Nat.le_refl _) (by omega); simpa [copN] using this, (Below.refl _ _).alloc (Nat.le_refl _) _⟩
  have HR := Aside0.mk hr
  have HS := Aside0.mk hs.2
  clear hr hs
  go_enter Try.func73, Try.ntmps73
  go_wp2
  clear hmk1
  go_loopw [13] (fun v13 wr => ∃ i : Nat, i ≤ x.length ∧ v13 = .int .i64 i ∧ Aside0 (Und3 w wr (.slice (some ⟨w.heap.size, 0, none⟩) x.length x.length) (copN x i))) (fun v13 _ => x.length - (RowKit.intOf v13).toNat)
  case atStart => exact ⟨0, Nat.zero_le _, rfl, HU⟩
  case round =>
    clear HU
    obtain ⟨i, hi, rfl, HU⟩ := hrel
    by_cases hlt : i < x.length
    · obtain ⟨ad, A0, c0, rfl, hcell0, hc0, hl0⟩ := C3.get HR.out hlt
      have HL := Aside0.mk hl0
      have hxi := (HS.out _ (List.getElem_mem hlt))
      have hm := hxi.1
      have HSi := Aside0.mk hxi.2
      have hcell : wr.cell? (ad.add i) = some (.slice A0 x[i].length c0) := by
        obtain ⟨vs, uss, hT, hB⟩ := HU.out
        exact pw_cell_below hB hcell0
      have hmk2 := print_make_of (P := Try.prog) 43 22 (.slice none 0 0) 24 Try.underlying43 info22 rfl (by omega) x[i].length (by omega)
      have hgw := HU.out.base.2
      have HN : Aside0 (Und3 w ((wr.setCell ⟨w.heap.size, i, none⟩ (.slice (some ⟨wr.heap.size, 0, none⟩) x[i].length x[i].length)).alloc (.cells (madeCells #[.slice none 0 0] x[i].length) 22)) (.slice (some ⟨w.heap.size, 0, none⟩) x.length x.length) ((copN x i).set i (copR x[i] 0))) := ⟨by
        rw [← World.setCell_alloc_past (w := wr) (.cells (madeCells #[.slice none 0 0] x[i].length) 22) w.heap.size i (.slice (some ⟨wr.heap.size, 0, none⟩) x[i].length x[i].length) hgw]
        have := HU.out.put (i := i) (by rw [copN_length x hi]; exact hlt) ((Below.refl _ _).alloc (Nat.le_refl _) _) (T2.made wr _ x[i].length (Nat.le_refl _) (by omega))
        simpa [copR] using this⟩
      obtain ⟨⟨u, A', m', c', hcu, rfl⟩, hfu⟩ := HU.out.cell (i := i) (by rw [copN_length x hi]; exact hlt)
      have HCg : Aside0 (((wr.setCell ⟨w.heap.size, i, none⟩ (.slice (some ⟨wr.heap.size, 0, none⟩) x[i].length x[i].length)).alloc (.cells (madeCells #[.slice none 0 0] x[i].length) 22)).cell? ⟨w.heap.size, i, none⟩ = some (.slice (some ⟨wr.heap.size, 0, none⟩) x[i].length x[i].length)) := ⟨by
        rw [World.cell?_of_block (w := wr.setCell ⟨w.heap.size, i, none⟩ (.slice (some ⟨wr.heap.size, 0, none⟩) x[i].length x[i].length)) (Below.heap_alloc _ _ _ (by rw [size_setCell]; exact hgw))]
        exact World.cell?_setCell_same _ _ _ hcu⟩
      have HX := Aside0.mk (copN_set x hlt)
      have HXl := Aside0.mk (copN_length x hi)
      clear hl0 hcell0 HU hxi
      obtain ⟨wo, rfl⟩ : ∃ wo : World, wo = wr := ⟨_, rfl⟩
      go_wp2
      clear hmk2 hcu hfu hcell
      generalize wo.heap.size = gs at HN HCg ⊢
      generalize x[i] = r at *
      generalize copN x i = y at *
      go_loopw [26] (fun v26 wi => ∃ a : Nat, a ≤ r.length ∧ v26 = .int .i64 a ∧ Aside0 (Und3 w wi (.slice (some ⟨w.heap.size, 0, none⟩) x.length x.length) (y.set i (copR r a))) ∧ Aside0 (wi.cell? ⟨w.heap.size, i, none⟩ = some (.slice (some ⟨gs, 0, none⟩) r.length r.length))) (fun v26 _ => r.length - (RowKit.intOf v26).toNat)
      case atStart => exact ⟨0, Nat.zero_le _, rfl, HN, HCg⟩
      case round =>
        clear HN HCg
        obtain ⟨a, ha, rfl, HU, HCg⟩ := hrel
        by_cases hal : a < r.length
        · obtain ⟨hbw, hcl2⟩ : Below w.heap.size w wr ∧ True := by
            obtain ⟨vs, uss, hT, hB⟩ := HU.out
            exact ⟨hB, trivial⟩
          obtain ⟨ad1, A1, c1, rfl, hcell1, hc1, hl1⟩ := C2.get (Kd.C_below HL.out hbw) hal
          have hsl := HSi.out _ (List.getElem_mem hal)
          have hyl : (y.set i (copR r a)).length = x.length := by rw [List.length_set, HXl.out]
          have hiy : i < (y.set i (copR r a)).length := by omega
          have hrow : (y.set i (copR r a)).getD i [] = copR r a := getD_set_eq _ _ _ (by rw [HXl.out]; exact hlt)
          have hrl : r[a].length < 8796093022208 := by omega
          have hal2 : a < ((y.set i (copR r a)).getD i []).length := by rw [hrow, copR_length r ha]; exact hal
          obtain ⟨⟨u, A', m', c', hcu, rfl, _⟩, hfu⟩ := HU.out.cell2 hiy HCg.out hal2
          have HL1 := Aside0.mk hl1
          clear hbw hcl2 hyl hrow hl1
          generalize hl : r[a] = l at *
          go_upto_region 9 with (fail)
          have hgn := HU.out.gne hiy HCg.out
          go_region_held3 (fun w' => w'.cell? ⟨w.heap.size, i, none⟩ = some (.slice (some ⟨gs, 0, none⟩) r.length r.length)) (first | exact HCg.out | exact pw_cell_below (w := wr.drew) hB1 HCg.out | exact (cell_far (show (⟨w.heap.size, i, none⟩ : Addr).block ≠ (⟨gs, a, none⟩ : Addr).block from hgn) _).trans (pw_cell_below (w := wr.drew) hB1 HCg.out) | go_keep) (first | (go_at_call 86; refine (clone_calls A1 c1 l wr.drew HL1.out hc1 hrl).mono ?_; rintro e w' ⟨v', rfl, hT1, hB1⟩; obtain ⟨Av, cv, rfl, _, _⟩ := hT1.reads; have hcu2 := pw_cell_below (w := wr.drew) hB1 hcu; have hfu2 := frozen_below (w := wr.drew) hB1 hcu hfu))
          have HU2 : Aside0 (Und3 w (w'.setCell ⟨gs, a, none⟩ (.slice Av l.length cv)) (.slice (some ⟨w.heap.size, 0, none⟩) x.length x.length) (y.set i (copR r (a + 1)))) := ⟨by
            have := HU.out.putRow hiy HCg.out hal2 (w2 := w') ⟨hB1.os, hB1.tape, hB1.output, hB1.size, hB1.block⟩ (hT1 : T1 w' wr.heap.size _ l)
            rw [set_twice, getD_set_eq _ _ _ (by rw [HXl.out]; exact hlt), show (copR r a).set a l = copR r (a + 1) by rw [← hl]; exact copR_set r hal] at this
            exact this⟩
          have HCg2 : Aside0 ((w'.setCell ⟨gs, a, none⟩ (.slice Av l.length cv)).cell? ⟨w.heap.size, i, none⟩ = some (.slice (some ⟨gs, 0, none⟩) r.length r.length)) := ⟨(cell_far (show (⟨w.heap.size, i, none⟩ : Addr).block ≠ (⟨gs, a, none⟩ : Addr).block from hgn) _).trans (pw_cell_below (w := wr.drew) hB1 HCg.out)⟩
          clear HU HCg hT1 hB1 hcu2 hfu2 hcu hfu
          go_wp2
          go_roundw
          case rel => exact ⟨a + 1, hal, by go_num, HU2, HCg2⟩
          case measure => simp [RowKit.intOf]; omega
        · obtain rfl : a = r.length := by omega
          have HU2 : Aside0 (Und3 w wr (.slice (some ⟨w.heap.size, 0, none⟩) x.length x.length) (copN x (i + 1))) := ⟨by
            have := HU.out
            rw [show copR r r.length = r by simp [copR], HX.out] at this
            exact this⟩
          clear HU HCg
          go_wp2
          go_roundw
          case rel => exact ⟨i + 1, hlt, by go_num, HU2⟩
          case measure => simp [RowKit.intOf]; omega
    · obtain rfl : i = x.length := by omega
      go_wp2
      go_ret
      obtain ⟨vs, uss, hT, hB⟩ := HU.out
      exact ⟨_, vs, uss, rfl, by simpa [copN] using hT, hB⟩
end Go.Proofs.Ytkgocbmnjlfkoaa.M
end
section
namespace Go.Proofs.Ytkgocbmnjlfkoaa.M
open Go.RowKit Go.Proofs.Ytkgocbmnjlfkoaa.X Go.Proofs.YtkgocbmnjlfkoaaW.PrintWords Go.Proofs.YtkgocbmnjlfkoaaW.PrintLast Go.Proofs.YtkgocbmnjlfkoaaW.PrintMore
set_option linter.unusedVariables false
set_option linter.unusedSimpArgs false
structure Fit (S W : Nat) (x : List (List (List Int))) : Prop where
  len : x.length = S
  el : ∀ r ∈ x, r.length = W ∧ Good r 1073741824
theorem Good.asc {r : List (List Int)} {N : Nat} (h : Good r N) (hN : N < 1152921504606846976) : AscAll r := fun l hl => ⟨(h l hl).1, by have := (h l hl).2; omega⟩
theorem Fit.at_ {S W : Nat} {x : List (List (List Int))} (h : Fit S W x) {s : Nat} (hs : s < x.length) : x[s].length = W ∧ Good x[s] 1073741824 := h.el _ (List.getElem_mem hs)
theorem getD_lt {α : Type} {d : α} {l : List α} {i : Nat} (h : i < l.length) : l.getD i d = l[i] := by rw [List.getD_eq_getElem?_getD, List.getElem?_eq_getElem h]; rfl
def ageM (S W : Nat) (x : List (List (List Int))) (n : Nat) : Nat := if S = 0 then W else age (x.getD (n % S) []) n
theorem age_le (s : List (List Int)) (x : Int) : age s x ≤ s.length := List.findIdx_le_length
theorem find_age {s : List (List Int)} {x : Int} : (find s x < 0 ∧ age s x = s.length) ∨ (find s x = age s x ∧ 0 ≤ find s x) := by
  unfold find
  have := age_le s x
  split
  · exact .inr ⟨rfl, by omega⟩
  · exact .inl ⟨by omega, by omega⟩
theorem two_box {w w1 : World} {o1 o2 : Obj} (hb : Below ((w.alloc o1).alloc o2).heap.size ((w.alloc o1).alloc o2) w1) : w1.heap[w.heap.size]? = some o1 ∧ w1.heap[w.heap.size + 1]? = some o2 := by
  have e : (w.alloc o1).heap.size = w.heap.size + 1 := World.size_alloc _ _
  have e2 : ((w.alloc o1).alloc o2).heap.size = w.heap.size + 1 + 1 := by rw [World.size_alloc, e]
  refine ⟨(hb.block _ (by omega)).trans ((Below.heap_alloc _ _ _ (by omega)).trans (heap_new w o1)), (hb.block _ (by omega)).trans ?_⟩
  rw [← e]
  exact heap_new _ _
theorem three_box {w w1 : World} {o1 o2 o3 : Obj} (hb : Below (((w.alloc o1).alloc o2).alloc o3).heap.size (((w.alloc o1).alloc o2).alloc o3) w1) : w1.heap[w.heap.size]? = some o1 ∧ w1.heap[w.heap.size + 1]? = some o2 ∧ w1.heap[w.heap.size + 2]? = some o3 := by
  have e : (w.alloc o1).heap.size = w.heap.size + 1 := World.size_alloc _ _
  have e2 : ((w.alloc o1).alloc o2).heap.size = w.heap.size + 2 := by rw [World.size_alloc, e]
  have e3 : (((w.alloc o1).alloc o2).alloc o3).heap.size = w.heap.size + 3 := by rw [World.size_alloc, e2]
  refine ⟨(hb.block _ (by omega)).trans ((Below.heap_alloc _ _ _ (by omega)).trans ((Below.heap_alloc _ _ _ (by omega)).trans (heap_new w o1))), (hb.block _ (by omega)).trans ((Below.heap_alloc _ _ _ (by omega)).trans ?_), (hb.block _ (by omega)).trans ?_⟩
  · rw [← e]
    exact heap_new _ _
  · rw [← e2]
    exact heap_new _ _
theorem cz1' {w : World} {g t : Nat} {x0 : Value} (h : w.heap[g]? = some (.cells #[x0] t (0, 0))) : w.cell? ⟨g, 0, none⟩ = some x0 ∧ w.frozen? ⟨g, 0, none⟩ = false := cz1 h
set_option maxHeartbeats 1000000 in
theorem mage_calls {S W L : Nat} (h : CacheOk S W L) (A : Option Addr) (c : Nat) (x : List (List (List Int))) (n : Nat) (w : World) (hx : Fit S W x) (hr : C3 w A x) (hc : x.length ≤ c) :
    Calls Try.prog 30 #[.agg #[.int .i64 S, .int .i64 W, .int .i64 L], .agg #[.slice A x.length c], .int .i64 n] w fun e w' => e = .returned (.int .i64 (ageM S W x n)) ∧ Below w.heap.size w w' := by
  have hb0 : Below w.heap.size w ((w.alloc (.cells #[.int .i64 S, .int .i64 W, .int .i64 L] 26)).alloc (.cells #[.slice A x.length c] 39)) := ((Below.refl _ _).alloc (Nat.le_refl _) _).alloc (by simp) _
  have hset := mset_calls h A c x n ((w.alloc (.cells #[.int .i64 S, .int .i64 W, .int .i64 L] 26)).alloc (.cells #[.slice A x.length c] 39)) hx.len (Kd.C_below hr hb0) hc
  have hW1 := h.w1; have hW4 := h.w4; have hS8 := h.s8
  have HR := Aside0.mk hr
  have HX := Aside0.mk hx
  have HB := Aside0.mk hb0
  clear hr h
  by_cases hs : S = 0
  · subst hs
    rw [if_pos rfl] at hset
    have HA : Aside0 (ageM 0 W x n = W) := ⟨if_pos rfl⟩
    go_enter Try.func30, Try.ntmps30
    go_wp2_with (go_at_call 74; refine hset.mono ?_; rintro e w1 ⟨rfl, hb⟩; have HB1 := Aside0.mk (HB.out.trans (hb.mono (by simp; omega))); obtain ⟨k1, k2⟩ := two_box hb; obtain ⟨q0, q1, q2, f0, f1, f2⟩ := cz3 k1; clear f0 f1 f2 k1 k2 hb)
    go_ret
    exact ⟨by rw [HA.out]; rfl, HB1.out⟩
  · rw [if_neg hs] at hset
    have hns : n % S < x.length := by rw [hx.len]; exact Nat.mod_lt _ (Nat.pos_of_ne_zero hs)
    obtain ⟨ad, A0, c0, rfl, hcell0, hc0, hl0⟩ := C3.get HR.out hns
    obtain ⟨hlw, hgd⟩ := hx.at_ hns
    have HF : Aside0 (∀ W1, Below w.heap.size w W1 → Calls Try.prog 70 #[.slice A0 x[n % S].length c0, .int .i64 n] W1 fun e w' => e = .returned (.int .i64 (find x[n % S] n)) ∧ Below W1.heap.size W1 w') := ⟨fun W1 hb => find_calls A0 c0 x[n % S] n W1 (Kd.C_below hl0 hb) hc0 (hgd.asc (by omega)) (by omega)⟩
    have HA : Aside0 (ageM S W x n = age x[n % S] n) := ⟨by unfold ageM; rw [if_neg hs, getD_lt hns]⟩
    have hfa := find_age (s := x[n % S]) (x := n)
    have hg1 : decide ((0 : Int) ≤ ((n % S : Nat) : Int)) = true := decide_eq_true (by omega)
    have hxl : x.length < 9223372036854775807 := by rw [hx.len]; omega
    clear hl0 hgd hx HX
    rw [hlw] at hcell0 hc0 HF hfa
    generalize find x[n % S] n = f at *
    generalize age x[n % S] n = ag at *
    generalize n % S = s at *
    have HC0 := Aside0.mk hcell0
    clear hcell0
    rcases hfa with ⟨hf1, hf2⟩ | ⟨hf1, hf2⟩
    · have hg2 : decide ((0 : Int) ≤ f) = false := decide_eq_false (by omega)
      go_enter Try.func30, Try.ntmps30
      go_wp2_with (first | (go_at_call 74; refine hset.mono ?_; rintro e w1 ⟨rfl, hb⟩; have HB1 := Aside0.mk (HB.out.trans (hb.mono (by simp; omega))); obtain ⟨k1, k2⟩ := two_box hb; have K1 := Aside0.mk k1; obtain ⟨q3, f3⟩ := cz1' k2; have hcs := pw_cell_below HB1.out HC0.out; clear f3 k1 k2 hb hset) | (go_at_call 70; refine (HF.out _ HB1.out).mono ?_; rintro e w2 ⟨rfl, hb⟩; have HB2 := Aside0.mk (HB1.out.trans (hb.mono HB1.out.size)); obtain ⟨q0, q1, q2, f0, f1, f2⟩ := cz3 ((hb.block _ (blk_lt K1.out)).trans K1.out); clear f0 f1 f2 hb hcs q3))
      go_ret
      exact ⟨by rw [HA.out, hf2]; rfl, HB2.out⟩
    · have hg2 : decide ((0 : Int) ≤ f) = true := decide_eq_true hf2
      go_enter Try.func30, Try.ntmps30
      go_wp2_with (first | (go_at_call 74; refine hset.mono ?_; rintro e w1 ⟨rfl, hb⟩; have HB1 := Aside0.mk (HB.out.trans (hb.mono (by simp; omega))); obtain ⟨k1, k2⟩ := two_box hb; have K1 := Aside0.mk k1; obtain ⟨q3, f3⟩ := cz1' k2; have hcs := pw_cell_below HB1.out HC0.out; clear f3 k1 k2 hb hset) | (go_at_call 70; refine (HF.out _ HB1.out).mono ?_; rintro e w2 ⟨rfl, hb⟩; have HB2 := Aside0.mk (HB1.out.trans (hb.mono HB1.out.size)); obtain ⟨q0, q1, q2, f0, f1, f2⟩ := cz3 ((hb.block _ (blk_lt K1.out)).trans K1.out); clear f0 f1 f2 hb hcs q3))
      go_ret
      exact ⟨by rw [HA.out]; rfl, HB2.out⟩
end Go.Proofs.Ytkgocbmnjlfkoaa.M
end
section
namespace Go.Proofs.Ytkgocbmnjlfkoaa.M
open Go.RowKit Go.Proofs.Ytkgocbmnjlfkoaa.X Go.Proofs.YtkgocbmnjlfkoaaW.PrintWords Go.Proofs.YtkgocbmnjlfkoaaW.PrintLast Go.Proofs.YtkgocbmnjlfkoaaW.PrintMore
set_option linter.unusedVariables false
set_option linter.unusedSimpArgs false
theorem results_cell {P : Program} {fn : Func} {p : Tmp} {ty : TypeId} (h : fn.results = #[.cell p ty]) (tmps : Array Value) (w : World) (g : Nat) (t : TypeId) (cs : Array Value) (fr : Nat × Nat) (d : TypeDesc)
    (hp : tmps.getD p undef = .pointer (some ⟨g, 0, none⟩)) (hg : w.heap[g]? = some (.cells cs t fr))
    (hu : P.underlying ty = some d) (hd : (match d with | .struct _ | .array _ _ => true | _ => false) = true) (hi : (P.info? ty).map (·.size) = some cs.size) :
    (results fn tmps).run P w = .ok (.agg cs) w := by
  have hp' : tmps[p]?.getD undef = .pointer (some ⟨g, 0, none⟩) := by simpa using hp
  simp [results, h, hp', asAddr, run_loadVar_row w g t ty cs fr d hg hu hd hi]
theorem T3.far {w : World} {b : Nat} {v : Value} {vs : List Value} {uss : List (List Value)} {x : List (List (List Int))} (h : T3 w b v vs uss x) {k t : Nat} {c : Array Value} (hk : w.heap[k]? = some (.cells c t (0, 0))) (ht : t ≠ 43 ∧ t ≠ 22 ∧ t ≠ 3) : ¬ In3 v vs uss k := fun hi => by
  have hl := h.len
  rcases hi with hi | ⟨i, hi, h2⟩
  · exact own_blk_ne h.own hk (Ne.symm ht.1) hi
  · obtain ⟨c1, e1, h0, h1⟩ := In2.typed (h.el i (by omega)) h2
    rw [hk] at h1
    injection h1 with h1
    injection h1 with _ h1
    rcases h0 with rfl | rfl
    · exact ht.2.1 h1
    · exact ht.2.2 h1
theorem T3.setFar {w : World} {b : Nat} {v : Value} {vs : List Value} {uss : List (List Value)} {x : List (List (List Int))} (h : T3 w b v vs uss x) {k t i : Nat} {c : Array Value} (hk : w.heap[k]? = some (.cells c t (0, 0))) (ht : t ≠ 43 ∧ t ≠ 22 ∧ t ≠ 3) (u : Value) : T3 (w.setCell ⟨k, i, none⟩ u) b v vs uss x :=
  h.fr (Fr.set (S := fun j => j = k) u rfl) (fun j hj e => h.far hk ht (e ▸ hj))
theorem enters75 : ∀ args w, (callFunc 75 args).run Try.prog w = .ok (.enter 75 args) w := enters_ Try.func75 (by kernel_rfl) rfl
theorem older75 (B : Nat) (h : Nat) (W : World) (a : Nat) (hB : W.cell? ⟨B, 0, none⟩ = some (.int .i64 h)) : Calls Try.prog 75 #[.int .i64 a, .pointer (some ⟨B, 0, none⟩)] W (fun e W' => e = .returned (.bool (decide (a < h))) ∧ W = W') := by
  go_enter Try.func75, Try.ntmps75
  go_wp2
  go_ret
  exact ⟨by simp, rfl⟩
def touchM (S W : Nat) (x : List (List (List Int))) (n : Nat) : List (List (List Int)) := if S = 0 then x else x.set (n % S) (useF (fun a => decide (a < ageM S W x n)) (x.getD (n % S) []) n)
theorem Fit.short {S W : Nat} {x : List (List (List Int))} (h : Fit S W x) (hS : S ≤ 8) (hW : W ≤ 4) : Short3 x :=
  ⟨by rw [h.len]; omega, fun r hr => ⟨by rw [(h.el r hr).1]; omega, fun l hl => by have := ((h.el r hr).2 l hl).2; omega⟩⟩
theorem cnt_le {s : List (List Int)} {N : Nat} (h : Good s N) (i : Nat) : cnt s i ≤ i * N := by
  induction i with
  | zero => exact Nat.zero_le _
  | succ i ih =>
    rw [cnt, Nat.succ_mul]
    have := (h.at_ i).2
    omega
set_option maxHeartbeats 1000000 in
theorem touch_calls {S W L : Nat} (h : CacheOk S W L) (A : Option Addr) (c : Nat) (x : List (List (List Int))) (n : Nat) (w : World) (hx : Fit S W x) (hr : C3 w A x) (hc : x.length ≤ c) :
    Calls Try.prog 29 #[.agg #[.int .i64 S, .int .i64 W, .int .i64 L], .agg #[.slice A x.length c], .int .i64 n] w (New3S w (touchM S W x n)) := by
  have hW1 := h.w1; have hW4 := h.w4; have hS8 := h.s8
  have hcopy := Aside0.mk (fun W1 (hb : Below w.heap.size w W1) => copy_calls A c x W1 (Kd.C_below hr hb) hc (hx.short hS8 hW4))
  have hset := Aside0.mk (fun W1 (hb : Below w.heap.size w W1) => mset_calls h A c x n W1 hx.len (Kd.C_below hr hb) hc)
  have hage := Aside0.mk (fun W1 (hb : Below w.heap.size w W1) => mage_calls h A c x n W1 hx (Kd.C_below hr hb) hc)
  have HB0 : Aside0 (Below w.heap.size w (((w.alloc (.cells #[.int .i64 S, .int .i64 W, .int .i64 L] 26)).alloc (.cells #[.slice A x.length c] 39)).alloc (.cells #[.slice none 0 0] 39))) := ⟨(((Below.refl _ _).alloc (Nat.le_refl _) _).alloc (by simp) _).alloc (by simp; omega) _⟩
  have HR := Aside0.mk hr
  have HX := Aside0.mk hx
  clear hr h hx
  by_cases hs : S = 0
  · subst hs
    simp only [if_true] at hset
    go_enter Try.func29, Try.ntmps29
    go_wp2_with (first | (go_at_call 73; refine (hcopy.out _ HB0.out).mono ?_; rintro e w1 ⟨v1, vs1, us1, rfl, hT, hb⟩; obtain ⟨A1, c1, rfl, _, _⟩ := hT.reads; have HT1 := Aside0.mk (hT.lower (b' := w.heap.size) HB0.out.size); have HB1 := Aside0.mk (HB0.out.trans (hb.mono HB0.out.size)); obtain ⟨k1, k2, k3⟩ := three_box hb; have K1 := Aside0.mk k1; have K2 := Aside0.mk k2; have K3 := Aside0.mk k3; obtain ⟨q0, q1, q2, f0, f1, f2⟩ := cz3 k1; obtain ⟨q3, f3⟩ := cz1' k2; have z1 := blk_lt k1; have z2 := blk_lt k2; have z3 := blk_lt k3; clear f0 f1 f2 k1 k2 k3 hb hT f3) | (go_at_call 74; refine (hset.out _ (HB1.out.alloc HB1.out.size _)).mono ?_; rintro e w2 ⟨rfl, hb⟩; have HB2 := Aside0.mk ((HB1.out.alloc HB1.out.size (.cells #[.slice A1 x.length c1] 39)).trans (hb.mono (HB1.out.alloc HB1.out.size _).size)); have K1b := Aside0.mk ((hb.block _ (blk_lt (blk_alloc K1.out _))).trans (blk_alloc K1.out _)); have K2b := Aside0.mk ((hb.block _ (blk_lt (blk_alloc K2.out _))).trans (blk_alloc K2.out _)); have K3b := Aside0.mk ((hb.block _ (blk_lt (blk_alloc K3.out _))).trans (blk_alloc K3.out _)); have K4b := Aside0.mk (box_after hb); have HT2 := Aside0.mk ((HT1.out.below ((Below.refl _ _).alloc (Nat.le_refl _) (.cells #[.slice A1 x.length c1] 39))).below hb); clear hb q0 q1 q2 q3; obtain ⟨q0, q1, q2, f0, f1, f2⟩ := cz3 K1b.out; obtain ⟨q3, f3⟩ := cz1' K2b.out; obtain ⟨q4, f4⟩ := cz1' K3b.out; obtain ⟨q5, f5⟩ := cz1' K4b.out; clear f0 f1 f2 f3 f5))
    refine bodyPost_ret (results_cell rfl _ _ (w.heap.size + 2) 39 #[.slice A1 x.length c1] (0, 0) _ rfl (blk_put (cs := #[.slice none 0 0]) K3b.out 0 _ rfl) Try.underlying39 rfl (by kernel_rfl)) rfl ?_
    exact ⟨_, vs1, us1, rfl, by rw [touchM, if_pos rfl]; exact HT2.out.setFar K3b.out (by decide) _, HB2.out.setCell (by show w.heap.size ≤ w.heap.size + 1 + 1; omega) _⟩
  · simp only [if_neg hs] at hset
    have hns : n % S < x.length := by rw [HX.out.len]; exact Nat.mod_lt _ (Nat.pos_of_ne_zero hs)
    obtain ⟨ad, A0, c0, rfl, hcell0, hc0, hl0⟩ := C3.get HR.out hns
    obtain ⟨hlw, hgd⟩ := HX.out.at_ hns
    have hcn : cnt x[n % S] x[n % S].length < 1099511627776 := by
      have := cnt_le hgd x[n % S].length
      rw [hlw] at this ⊢
      have h4 : W * 1073741824 ≤ 4 * 1073741824 := Nat.mul_le_mul_right _ hW4
      omega
    have hTM : touchM S W x n = x.set (n % S) (useF (fun a => decide (a < ageM S W x n)) x[n % S] n) := by rw [touchM, if_neg hs, getD_lt hns]
    have HU : Aside0 (∀ W1 B, Below w.heap.size w W1 → W1.cell? ⟨B, 0, none⟩ = some (.int .i64 (ageM S W x n)) → Calls Try.prog 68 #[.slice A0 x[n % S].length c0, .int .i64 n, .func (.func 75) #[] #[.pointer (some ⟨B, 0, none⟩)]] W1 (New2 W1 (useF (fun a => decide (a < ageM S W x n)) x[n % S] n))) := ⟨fun W1 B hb hB => use_calls 75 _ A0 c0 B _ n _ W1 (Kd.C_below hl0 hb) hc0 (by omega) hcn hB (fun W2 a h2 => older75 B _ W2 a h2) enters75⟩
    have HTM := Aside0.mk hTM
    have hg1 : decide ((0 : Int) ≤ ((n % S : Nat) : Int)) = true := decide_eq_true (by omega)
    have hxl : x.length < 9223372036854775807 := by rw [HX.out.len]; omega
    have HX2 := Aside0.mk (show x.length = S from HX.out.len)
    clear hl0 hgd hcn hTM HX
    rw [hlw] at hcell0 hc0 HU
    generalize useF (fun a => decide (a < ageM S W x n)) x[n % S] n = res at *
    generalize ageM S W x n = ag at *
    generalize n % S = s at *
    have HC0 := Aside0.mk hcell0
    clear hcell0
    go_enter Try.func29, Try.ntmps29
    go_upto_region 5 with (first | (go_at_call 73; refine (hcopy.out _ HB0.out).mono ?_; rintro e w1 ⟨v1, vs1, us1, rfl, hT, hb⟩; obtain ⟨A1, c1, rfl, _, _⟩ := hT.reads; have HT1 := Aside0.mk (hT.lower (b' := w.heap.size) HB0.out.size); have HB1 := Aside0.mk (HB0.out.trans (hb.mono HB0.out.size)); obtain ⟨k1, k2, k3⟩ := three_box hb; have K1 := Aside0.mk k1; have K2 := Aside0.mk k2; have K3 := Aside0.mk k3; obtain ⟨q0, q1, q2, f0, f1, f2⟩ := cz3 k1; obtain ⟨q3, f3⟩ := cz1' k2; have z1 := blk_lt k1; have z2 := blk_lt k2; have z3 := blk_lt k3; clear f0 f1 f2 k1 k2 k3 hb hT f3) | (go_at_call 74; refine (hset.out _ (HB1.out.alloc HB1.out.size _)).mono ?_; rintro e w2 ⟨rfl, hb⟩; have HB2 := Aside0.mk ((HB1.out.alloc HB1.out.size (.cells #[.slice A1 x.length c1] 39)).trans (hb.mono (HB1.out.alloc HB1.out.size _).size)); have K1b := Aside0.mk ((hb.block _ (blk_lt (blk_alloc K1.out _))).trans (blk_alloc K1.out _)); have K2b := Aside0.mk ((hb.block _ (blk_lt (blk_alloc K2.out _))).trans (blk_alloc K2.out _)); have K3b := Aside0.mk ((hb.block _ (blk_lt (blk_alloc K3.out _))).trans (blk_alloc K3.out _)); have K4b := Aside0.mk (box_after hb); have HT2 := Aside0.mk ((HT1.out.below ((Below.refl _ _).alloc (Nat.le_refl _) (.cells #[.slice A1 x.length c1] 39))).below hb); clear hb q0 q1 q2 q3; obtain ⟨q0, q1, q2, f0, f1, f2⟩ := cz3 K1b.out; obtain ⟨q3, f3⟩ := cz1' K2b.out; obtain ⟨q4, f4⟩ := cz1' K3b.out; obtain ⟨q5, f5⟩ := cz1' K4b.out; clear f0 f1 f2 f3 f5) | (go_at_call 30; refine (hage.out _ HB2.out).mono ?_; rintro e w3 ⟨rfl, hb⟩; have HB3 := Aside0.mk (HB2.out.trans (hb.mono HB2.out.size)); have K2c := Aside0.mk ((hb.block _ (blk_lt K2b.out)).trans K2b.out); have K3c := Aside0.mk ((hb.block _ (blk_lt K3b.out)).trans K3b.out); have K4c := Aside0.mk ((hb.block _ (blk_lt K4b.out)).trans K4b.out); have HT3 := Aside0.mk (HT2.out.below hb); clear hb q0 q1 q2 q3 q4 q5 f4))
    obtain ⟨g1, hg1⟩ : ∃ g1, A1 = some ⟨g1, 0, none⟩ := by
      rcases HT3.out.open_ with ⟨_, _, h0⟩ | ⟨g1, cap, cur, h1, _⟩
      · rw [h0] at hns
        exact absurd hns (Nat.not_lt_zero _)
      · injection h1 with h1
        exact ⟨g1, h1⟩
    subst hg1
    have hM := (cz1' (blk_alloc K2c.out (.cells #[.int .i64 ag] 3))).1
    have hO := (cz1' (blk_alloc K4c.out (.cells #[.int .i64 ag] 3))).1
    have K3d := Aside0.mk (blk_alloc K3c.out (.cells #[.int .i64 ag] 3))
    have hBg := (cz1' (heap_new w3 (.cells #[.int .i64 ag] 3))).1
    have hbl : Below w.heap.size w (w3.alloc (.cells #[.int .i64 ag] 3)) := HB3.out.alloc HB3.out.size _
    have hSc := pw_cell_below hbl HC0.out
    have hT5 := HT3.out.below ((Below.refl _ _).alloc (Nat.le_refl _) (.cells #[.int .i64 ag] 3))
    obtain ⟨⟨u, A', m', c', hcu, rfl⟩, hfu⟩ := Und3.cell ⟨_, _, hT5, hbl⟩ hns
    have hn1 : g1 ≠ w.heap.size + 1 := Ne.symm (Und3.ne ⟨_, _, hT5, hbl⟩ (blk_alloc K2c.out _) (by decide))
    have hn2 : g1 ≠ w1.heap.size := Ne.symm (Und3.ne ⟨_, _, hT5, hbl⟩ (blk_alloc K4c.out _) (by decide))
    have hn3 : g1 ≠ (ad.add s).block := fun e => by
      have h5 := World.block_lt_of_cell? w _ HC0.out
      have h6 := (hT5.lt (k := g1) (.inl rfl)).1
      omega
    have HUs := Aside0.mk (HU.out ((w3.alloc (.cells #[.int .i64 ag] 3)).drew) w3.heap.size hbl.drew hBg)
    have HT5 := Aside0.mk hT5
    have HBL := Aside0.mk hbl
    clear K1 K2 K3 K1b K2b K3b K4b K2c K3c K4c HT1 HT2 HT3 HB1 HB2 HB3 hT5 hbl hset hage hcopy HU hBg
    generalize w3.heap.size = bh at *
    generalize w1.heap.size = bo at *
    generalize w3.alloc (.cells #[.int .i64 ag] 3) = W5 at *
    go_region_held3 (fun w' => w'.cell? ⟨w.heap.size + 1, 0, none⟩ = some (.slice (some ad) x.length c) ∧ w'.cell? ⟨bo, 0, none⟩ = some (.slice (some ⟨g1, 0, none⟩) x.length c1) ∧ w'.cell? (ad.add s) = some (.slice A0 W c0))
      (first | exact ⟨hM, hO, hSc⟩ | exact ⟨pw_cell_below (w := W5.drew) hB1 hM, pw_cell_below (w := W5.drew) hB1 hO, pw_cell_below (w := W5.drew) hB1 hSc⟩ | exact ⟨(cell_far (show (⟨w.heap.size + 1, 0, none⟩ : Addr).block ≠ (⟨g1, s, none⟩ : Addr).block from Ne.symm hn1) _).trans (pw_cell_below (w := W5.drew) hB1 hM), (cell_far (show (⟨bo, 0, none⟩ : Addr).block ≠ (⟨g1, s, none⟩ : Addr).block from Ne.symm hn2) _).trans (pw_cell_below (w := W5.drew) hB1 hO), (cell_far (show (ad.add s).block ≠ (⟨g1, s, none⟩ : Addr).block from Ne.symm hn3) _).trans (pw_cell_below (w := W5.drew) hB1 hSc)⟩ | go_keep)
      (first | (go_at_call 68; refine HUs.out.mono ?_; rintro e w' ⟨v', vs', rfl, hT1, hB1⟩; obtain ⟨Av, cv, rfl, _, _⟩ := hT1.reads; have hcu2 := pw_cell_below (w := W5.drew) hB1 hcu; have hfu2 := frozen_below (w := W5.drew) hB1 hcu hfu))
    have hn4 : g1 ≠ w.heap.size + 2 := Ne.symm (Und3.ne ⟨_, _, HT5.out, HBL.out⟩ K3d.out (by decide))
    have hb5 : Below W5.heap.size W5 w' := ⟨hB1.os, hB1.tape, hB1.output, hB1.size, hB1.block⟩
    have K3e : (w'.setCell ⟨g1, s, none⟩ (.slice Av res.length cv)).heap[w.heap.size + 2]? = some (.cells #[.slice none 0 0] 39 (0, 0)) := blk_farm ((hb5.block _ (blk_lt K3d.out)).trans K3d.out) (Ne.symm hn4)
    have HUn : Aside0 (Und3 w (w'.setCell ⟨g1, s, none⟩ (.slice Av res.length cv)) (.slice (some ⟨g1, 0, none⟩) x.length c1) (x.set s res)) := ⟨Und3.put ⟨_, _, HT5.out, HBL.out⟩ hns hb5 hT1⟩
    obtain ⟨q4, f4⟩ := cz1' K3e
    have KE := Aside0.mk K3e
    have q5 : (w'.setCell ⟨g1, s, none⟩ (.slice Av res.length cv)).cell? ⟨bo, 0, none⟩ = some (.slice (some ⟨g1, 0, none⟩) x.length c1) := (cell_far (show (⟨bo, 0, none⟩ : Addr).block ≠ (⟨g1, s, none⟩ : Addr).block from Ne.symm hn2) _).trans (pw_cell_below hb5 hO)
    clear hT1 hB1 hb5 hcu2 hfu2 hcu hfu hM hO hSc K3e HT5 HBL hn1 hn2 hn3 hn4
    generalize w'.setCell ⟨g1, s, none⟩ (.slice Av res.length cv) = W6 at *
    go_wp2
    refine bodyPost_ret (results_cell rfl _ _ (w.heap.size + 2) 39 #[.slice (some ⟨g1, 0, none⟩) x.length c1] (0, 0) _ rfl (blk_put (cs := #[.slice none 0 0]) KE.out 0 _ rfl) Try.underlying39 rfl (by kernel_rfl)) rfl ?_
    obtain ⟨vs2, us2, hT, hB⟩ := HUn.out
    exact ⟨_, vs2, us2, rfl, by rw [HTM.out]; exact hT.setFar KE.out (by decide) _, hB.setCell (by show w.heap.size ≤ w.heap.size + 1 + 1; omega) _⟩
end Go.Proofs.Ytkgocbmnjlfkoaa.M
end
section
namespace Go.Proofs.Ytkgocbmnjlfkoaa.M
open Go.RowKit Go.Proofs.Ytkgocbmnjlfkoaa.X Go.Proofs.YtkgocbmnjlfkoaaW.PrintWords Go.Proofs.YtkgocbmnjlfkoaaW.PrintLast Go.Proofs.YtkgocbmnjlfkoaaW.PrintMore
set_option linter.unusedVariables false
set_option linter.unusedSimpArgs false
theorem getD_append {α : Type} {d : α} (l : List α) (u : α) (i : Nat) : (l ++ [u]).getD i d = if i < l.length then l.getD i d else if i = l.length then u else d := by
  simp only [List.getD_eq_getElem?_getD]
  by_cases h : i < l.length
  · rw [if_pos h, List.getElem?_append_left h]
  · rw [if_neg h, List.getElem?_append_right (by omega)]
    by_cases h2 : i = l.length
    · rw [if_pos h2, h2]; simp
    · rw [if_neg h2, List.getElem?_eq_none (by simp; omega)]; rfl
theorem getD_app_lt {α : Type} {d : α} (l : List α) (u : α) {i : Nat} (h : i < l.length) : (l ++ [u]).getD i d = l.getD i d := by rw [getD_append, if_pos h]
theorem getD_app_eq {α : Type} {d : α} (l : List α) (u : α) {i : Nat} (h : i = l.length) : (l ++ [u]).getD i d = u := by rw [getD_append, if_neg (by omega), if_pos h]
section
variable {W w1 : World} {b : Nat} {v v1 u : Value} {vs us : List Value} {uss : List (List Value)} {ys : List Int} {xss : List (List Int)} {x : List (List (List Int))}
theorem T2.snoc (h : T2 W b v vs xss) (hu : T1 W b u ys) (ha : ∀ j, j < vs.length → u.ownBlock = none ∨ u.ownBlock ≠ (vs.getD j undef).ownBlock) (ho : w1.ownsRow b 22 1 v1 (vs.length + 1) (vs ++ [u])) (hg : W.grownBy w1 v.ownBlock) (hvu : v.ownBlock = none ∨ v.ownBlock ≠ u.ownBlock) : T2 w1 b v1 (vs ++ [u]) (xss ++ [ys]) := by
  have hl := h.len
  refine ⟨by rw [List.length_append]; exact ho, by simp [hl], ?_, ?_⟩
  · intro i hi
    rw [List.length_append, List.length_singleton] at hi
    rw [getD_append, getD_append]
    by_cases h1 : i < vs.length
    · rw [if_pos h1, if_pos (by omega)]
      exact (h.el i h1).keep (fun k hk => hg.block k ((h.el i h1).lt hk).2 (fun e => h.ne h1 hk e.symm))
    · rw [if_neg h1, if_pos (by omega), if_neg (by omega), if_pos (by omega)]
      exact hu.keep (fun k hk => hg.block k (hu.lt hk).2 (fun e => by
        rcases hvu with h2 | h2
        · rw [h2] at e; cases e
        · exact h2 (e.symm.trans hk.symm)))
  · intro i j hij hj
    rw [List.length_append, List.length_singleton] at hj
    rw [getD_append, getD_append, if_pos (by omega)]
    by_cases h1 : j < vs.length
    · rw [if_pos h1]
      exact h.apart i j hij h1
    · rw [if_neg h1, if_pos (by omega)]
      rcases ha i (by omega) with h2 | h2
      · rcases he : (vs.getD i undef).ownBlock with _ | k
        · exact .inl rfl
        · exact .inr (by rw [h2]; simp)
      · exact .inr (Ne.symm h2)
theorem T3.snoc (h : T3 W b v vs uss x) (hu : T2 W b u us xss) (ha : ∀ j, j < x.length → ∀ k, In2 u us k → ¬ In2 (vs.getD j undef) (uss.getD j []) k) (ho : w1.ownsRow b 43 1 v1 (vs.length + 1) (vs ++ [u])) (hg : W.grownBy w1 v.ownBlock) : T3 w1 b v1 (vs ++ [u]) (uss ++ [us]) (x ++ [xss]) := by
  have hl := h.len
  have hl2 := h.len2
  have hvu : ∀ k, In2 u us k → v.ownBlock ≠ some k := fun k hk e => by
    obtain ⟨c1, e1, h0, h1⟩ := In2.typed hu hk
    obtain ⟨c2, h2⟩ := own_typed h.own k e
    rw [h1] at h2
    injection h2 with h2
    injection h2 with _ h2
    rcases h0 with rfl | rfl <;> cases h2
  refine ⟨by rw [List.length_append]; exact ho, by simp [hl], by simp [hl2], ?_, ?_⟩
  · intro i hi
    rw [List.length_append, List.length_singleton] at hi
    by_cases h1 : i < x.length
    · rw [getD_app_lt vs u (by omega), getD_app_lt uss us (by omega), getD_app_lt x xss h1]
      exact (h.el i h1).keep (fun k hk => hg.block k ((h.el i h1).lt hk).2 (fun e => h.ne h1 hk e.symm))
    · rw [getD_app_eq vs u (by omega), getD_app_eq uss us (by omega), getD_app_eq x xss (by omega)]
      exact hu.keep (fun k hk => hg.block k (hu.lt hk).2 (fun e => hvu k hk e.symm))
  · intro i j hi hj hij k hk
    rw [List.length_append, List.length_singleton] at hi hj
    by_cases h1 : i < x.length
    · rw [getD_app_lt vs u (by omega), getD_app_lt uss us (by omega)] at hk
      by_cases h2 : j < x.length
      · rw [getD_app_lt vs u (by omega), getD_app_lt uss us (by omega)]
        exact h.apart i j h1 h2 hij k hk
      · rw [getD_app_eq vs u (by omega), getD_app_eq uss us (by omega)]
        exact fun h3 => ha i h1 k h3 hk
    · rw [getD_app_eq vs u (by omega), getD_app_eq uss us (by omega)] at hk
      have h2 : j < x.length := by omega
      rw [getD_app_lt vs u (by omega), getD_app_lt uss us (by omega)]
      exact ha j h2 k hk
end
section
variable {ops : Array Oper} {rest : List Oper} {o : Oper} {a : Act} {Q : Exit → Act → World → Prop} {W : World}
theorem app_one (hgd : o.guard = none) (s y : Operand) (t e : TypeId) (z : Value) (bytes : Nat) (ho : o.op = .call { callee := .builtin .append, args := #[s, y], argTypes := #[t, t] })
    (ht : Try.prog.underlying t = some (.slice e)) (hinfo : (Try.prog.info? e).map (fun i => (i.zero, i.size, i.bytes)) = some (some z, 1, bytes)) (hz : z.cells.size = 1)
    (b : Nat) (v u : Value) (vs : List Value) (g : Nat) (hs : a.eval s = v) (hx : a.eval y = .slice (some ⟨g, 0, none⟩) 1 1) (hg : W.heap[g]? = some (.cells #[u] e (0, 0))) (hu : u.oneCell' = true)
    (hown : W.ownsRow b e 1 v vs.length vs) (hl : (vs.length + 1) * bytes ≤ 140737488355328) (hl2 : vs.length + 1 ≤ maxLen) (hb : b ≤ W.heap.size)
    (h : ∀ g' cap w1, w1.ownsRow b e 1 (.slice (some ⟨g', 0, none⟩) (vs.length + 1) cap) (vs.length + 1) (vs ++ [u]) → W.grownBy w1 v.ownBlock → (v.ownBlock = some g' ∨ g' = W.heap.size) → wpList Try.prog ops Q rest (a.put o.dst (.slice (some ⟨g', 0, none⟩) (vs.length + 1) cap)) w1) :
    wpList Try.prog ops Q (o :: rest) a W := by
  obtain ⟨i, hi, hzz⟩ := Option.map_eq_some_iff.1 hinfo
  simp only [Prod.mk.injEq] at hzz
  obtain ⟨hz0, hz1, hz2⟩ := hzz
  exact wpList_append_lies W hgd s y t ho b e i z 1 bytes ht hi hz0 hz1 hz2 hz (by omega) v vs.length vs hs hown ⟨g, 0, none⟩ 1 1 [u] hx rfl (World.news_of_block hg) (fun u' hu' => by rw [List.mem_singleton.1 hu']; exact hu) (by omega) hl2 hl hb W.heap.size rfl
    (fun g' cap w1 h1 h2 h3 _ => h g' cap w1 h1 h2 h3)
theorem app_one_step {K : Act → World → Prop} {E : Prop} (hgd : o.guard = none) (s y : Operand) (t e : TypeId) (z : Value) (bytes : Nat) (ho : o.op = .call { callee := .builtin .append, args := #[s, y], argTypes := #[t, t] })
    (ht : Try.prog.underlying t = some (.slice e)) (hinfo : (Try.prog.info? e).map (fun i => (i.zero, i.size, i.bytes)) = some (some z, 1, bytes)) (hz : z.cells.size = 1)
    (b : Nat) (v u : Value) (vs : List Value) (g : Nat) (hs : a.eval s = v) (hx : a.eval y = .slice (some ⟨g, 0, none⟩) 1 1) (hg : W.heap[g]? = some (.cells #[u] e (0, 0))) (hu : u.oneCell' = true)
    (hown : W.ownsRow b e 1 v vs.length vs) (hl : (vs.length + 1) * bytes ≤ 140737488355328) (hl2 : vs.length + 1 ≤ maxLen) (hb : b ≤ W.heap.size)
    (h : ∀ g' cap w1, w1.ownsRow b e 1 (.slice (some ⟨g', 0, none⟩) (vs.length + 1) cap) (vs.length + 1) (vs ++ [u]) → W.grownBy w1 v.ownBlock → (v.ownBlock = some g' ∨ g' = W.heap.size) → K (a.put o.dst (.slice (some ⟨g', 0, none⟩) (vs.length + 1) cap)) w1) :
    if Region.wanted o (yielded ops a.tmps) = true then Oper.wp Try.prog o a W K Q else E := by
  obtain ⟨i, hi, hzz⟩ := Option.map_eq_some_iff.1 hinfo
  simp only [Prod.mk.injEq] at hzz
  obtain ⟨hz0, hz1, hz2⟩ := hzz
  exact step_append_lies W hgd s y t ho b e i z 1 bytes ht hi hz0 hz1 hz2 hz (by omega) v vs.length vs hs hown ⟨g, 0, none⟩ 1 1 [u] hx rfl (World.news_of_block hg) (fun u' hu' => by rw [List.mem_singleton.1 hu']; exact hu) (by omega) hl2 hl hb W.heap.size rfl
    (fun g' cap w1 h1 h2 h3 _ => h g' cap w1 h1 h2 h3)
end
end Go.Proofs.Ytkgocbmnjlfkoaa.M
end
section
namespace Go.Proofs.Ytkgocbmnjlfkoaa.M
open Go.RowKit Go.Proofs.Ytkgocbmnjlfkoaa.X Go.Proofs.YtkgocbmnjlfkoaaW.PrintWords Go.Proofs.YtkgocbmnjlfkoaaW.PrintLast Go.Proofs.YtkgocbmnjlfkoaaW.PrintMore
set_option linter.unusedVariables false
set_option linter.unusedSimpArgs false
theorem T3.nil (w : World) (b : Nat) : T3 w b (.slice none 0 0) [] [] [] := ⟨own_nil _ _ _ _, rfl, rfl, fun i hi => absurd hi (Nat.not_lt_zero i), fun i j hi => absurd hi (Nat.not_lt_zero i)⟩
theorem top_succ (i W : Nat) : top i W ++ [List.replicate W []] = top (i + 1) W := by rw [top, top, List.replicate_succ']
structure RTop (w wr : World) (i S W L : Nat) (v : Value) : Prop where
  sets : ∃ vs uss, T3 wr w.heap.size v vs uss (top i W)
  below : Below w.heap.size w wr
  c : wr.heap[w.heap.size]? = some (.cells #[.int .i64 S, .int .i64 W, .int .i64 L] 26 (0, 0))
  r : wr.heap[w.heap.size + 1]? = some (.cells #[.slice none 0 0] 39 (0, 0))
  m : wr.heap[w.heap.size + 2]? = some (.cells #[v] 39 (0, 0))
set_option maxHeartbeats 1000000 in
theorem rtop_calls {S W L : Nat} (h : CacheOk S W L) (w : World) : Calls Try.prog 47 #[.agg #[.int .i64 S, .int .i64 W, .int .i64 L]] w (New3S w (top S W)) := by
  have h1 := h.s8; have h2 := h.w1; have h3 := h.w4
  have hmk2 := print_make_of (P := Try.prog) 43 22 (.slice none 0 0) 24 Try.underlying43 info22 rfl (by omega) W (by omega)
  have HM2 := Aside0.mk hmk2
  have HR0 : Aside0 (RTop w (((w.alloc (.cells #[.int .i64 S, .int .i64 W, .int .i64 L] 26)).alloc (.cells #[.slice none 0 0] 39)).alloc (.cells #[.slice none 0 0] 39)) 0 S W L (.slice none 0 0)) := ⟨by
    obtain ⟨k1, k2, k3⟩ := three_box (w := w) (Below.refl _ (((w.alloc (.cells #[.int .i64 S, .int .i64 W, .int .i64 L] 26)).alloc (.cells #[.slice none 0 0] 39)).alloc (.cells #[.slice none 0 0] 39)))
    exact ⟨⟨_, _, T3.nil _ _⟩, (((Below.refl _ _).alloc (Nat.le_refl _) _).alloc (by simp) _).alloc (by simp; omega) _, k1, k2, k3⟩⟩
  clear hmk2 h
  go_enter Try.func47, Try.ntmps47
  go_wp2
  go_loopw [6] (fun v6 wr => ∃ (i : Nat) (v : Value), i ≤ S ∧ v6 = .int .i64 i ∧ Aside0 (RTop w wr i S W L v)) (fun v6 _ => S - (RowKit.intOf v6).toNat)
  case atStart => exact ⟨0, _, Nat.zero_le _, rfl, HR0⟩
  case round =>
    clear HR0
    obtain ⟨i, v, hi, rfl, HU⟩ := hrel
    by_cases hlt : i < S
    · obtain ⟨vs, uss, hT⟩ := HU.out.sets
      obtain ⟨A, c, rfl, _, _⟩ := hT.reads
      obtain ⟨q0, q1, q2, f0, f1, f2⟩ := cz3 HU.out.c
      obtain ⟨q3, f3⟩ := cz1' HU.out.m
      have hmk2 := HM2.out
      have hb := HU.out.below
      have hT2 := (hT.below ((Below.refl _ _).alloc (Nat.le_refl _) (.cells (madeCells #[.slice none 0 0] W) 22))).below ((Below.refl _ _).alloc (Nat.le_refl _) (.cells #[.slice (some ⟨wr.heap.size, 0, none⟩) W W] 43))
      have hl : vs.length = i := by rw [hT.len]; simp [top]
      have hG : ((wr.alloc (.cells (madeCells #[.slice none 0 0] W) 22)).alloc (.cells #[.slice (some ⟨wr.heap.size, 0, none⟩) W W] 43)).heap[wr.heap.size + 1]? = some (.cells #[.slice (some ⟨wr.heap.size, 0, none⟩) W W] 43 (0, 0)) := by
        have := heap_new (wr.alloc (.cells (madeCells #[.slice none 0 0] W) 22)) (.cells #[.slice (some ⟨wr.heap.size, 0, none⟩) W W] 43)
        rwa [World.size_alloc] at this
      have hO := hT2.own
      have hl1 : (vs.length + 1) * 24 ≤ 140737488355328 := by omega
      have hl2 : vs.length + 1 ≤ maxLen := by unfold maxLen; omega
      have hbs : w.heap.size ≤ ((wr.alloc (.cells (madeCells #[.slice none 0 0] W) 22)).alloc (.cells #[.slice (some ⟨wr.heap.size, 0, none⟩) W W] 43)).heap.size := by rw [World.size_alloc, World.size_alloc]; have := hb.size; omega
      have z3 : w.heap.size + 1 + 1 < wr.heap.size := blk_lt HU.out.m
      have z1 : w.heap.size < wr.heap.size := blk_lt HU.out.c
      have hKm := blk_alloc (blk_alloc HU.out.m (.cells (madeCells #[.slice none 0 0] W) 22)) (.cells #[.slice (some ⟨wr.heap.size, 0, none⟩) W W] 43)
      have hKc := blk_alloc (blk_alloc HU.out.c (.cells (madeCells #[.slice none 0 0] W) 22)) (.cells #[.slice (some ⟨wr.heap.size, 0, none⟩) W W] 43)
      have hKr := blk_alloc (blk_alloc HU.out.r (.cells (madeCells #[.slice none 0 0] W) 22)) (.cells #[.slice (some ⟨wr.heap.size, 0, none⟩) W W] 43)
      have HN : Aside0 (∀ g' cap w1, w1.ownsRow w.heap.size 43 1 (.slice (some ⟨g', 0, none⟩) (vs.length + 1) cap) (vs.length + 1) (vs ++ [.slice (some ⟨wr.heap.size, 0, none⟩) W W]) → ((wr.alloc (.cells (madeCells #[.slice none 0 0] W) 22)).alloc (.cells #[.slice (some ⟨wr.heap.size, 0, none⟩) W W] 43)).grownBy w1 (Value.slice A (top i W).length c).ownBlock → w1.heap[w.heap.size + 2]? = some (.cells #[.slice A (top i W).length c] 39 (0, 0)) ∧ RTop w (w1.setCell ⟨w.heap.size + 2, 0, none⟩ (.slice (some ⟨g', 0, none⟩) (vs.length + 1) cap)) (i + 1) S W L (.slice (some ⟨g', 0, none⟩) (vs.length + 1) cap)) := ⟨fun g' cap w1 ho hgr => by
        have e1 : (wr.alloc (.cells (madeCells #[.slice none 0 0] W) 22)).heap.size = wr.heap.size + 1 := World.size_alloc _ _
        have n1 := (hgr.block _ (blk_lt hKm) (fun e => own_blk_ne hO hKm (by decide) e.symm)).trans hKm
        have n2 := (hgr.block _ (blk_lt hKc) (fun e => own_blk_ne hO hKc (by decide) e.symm)).trans hKc
        have n3 := (hgr.block _ (blk_lt hKr) (fun e => own_blk_ne hO hKr (by decide) e.symm)).trans hKr
        have hTm := (T2.made wr w.heap.size W hb.size (by omega)).keep (w' := (wr.alloc (.cells (madeCells #[.slice none 0 0] W) 22)).alloc (.cells #[.slice (some ⟨wr.heap.size, 0, none⟩) W W] 43)) (fun k hk => Below.heap_alloc _ _ _ ((T2.made wr w.heap.size W hb.size (by omega)).lt hk).2)
        have hT3 := T3.snoc hT2 hTm (fun j hj k hk hk2 => by
          have h5 := ((hT.el j hj).lt hk2).2
          rcases hk with hk | ⟨i', hi', hk⟩
          · have : wr.heap.size = k := by simpa [Value.ownBlock] using hk
            omega
          · rw [List.length_replicate] at hi'
            rw [getD_replicate hi'] at hk
            cases hk) ho hgr
        rw [top_succ] at hT3
        have hB1 : Below w.heap.size w w1 := ((hb.alloc hb.size _).alloc (by rw [e1]; have := hb.size; omega) _).grown hgr hbs (fun k hk => (hT.lt (.inl hk)).1)
        refine ⟨n1, ⟨_, _, hT3.setFar n1 (by decide) _⟩, hB1.setCell (by show w.heap.size ≤ w.heap.size + 2; omega) _, blk_farm n2 (by omega), blk_farm n3 (by omega), blk_put (cs := #[.slice A (top i W).length c]) n1 0 _ rfl⟩⟩
      have q3a : (wr.alloc (.cells (madeCells #[.slice none 0 0] W) 22)).cell? ⟨w.heap.size + 1 + 1, 0, none⟩ = some (.slice A (top i W).length c) := (cz1' (blk_alloc HU.out.m (.cells (madeCells #[.slice none 0 0] W) 22))).1
      have q3b : ((wr.alloc (.cells (madeCells #[.slice none 0 0] W) 22)).alloc (.cells #[.slice (some ⟨wr.heap.size, 0, none⟩) W W] 43)).cell? ⟨w.heap.size + 1 + 1, 0, none⟩ = some (.slice A (top i W).length c) := (cz1' hKm).1
      have HT := Aside0.mk hT
      clear hT f0 f1 f2 hT2 hKm hKc hKr
      go_upto_region 4 with (fail)
      go_region_law (refine app_one_step rfl _ _ 29 43 (.slice none 0 0) 24 rfl Try.underlying29 info43 rfl w.heap.size (.slice A (top i W).length c) (.slice (some ⟨wr.heap.size, 0, none⟩) W W) vs (wr.heap.size + 1) (by rfl) (by rfl) hG rfl hO hl1 hl2 hbs ?_; intro g' cap w1 ho hgr hlie; obtain ⟨hk1, hk2⟩ := HN.out _ _ _ ho ⟨hgr.os, hgr.tape, hgr.output, hgr.size, hgr.block⟩; have HK2 := Aside0.mk hk2; obtain ⟨q5, f5⟩ := cz1' hk1; clear ho hgr hlie hk1 hk2)
      all_goals
        rw [hl] at HK2
        go_wp2
        go_roundw
        case rel => exact ⟨i + 1, _, hlt, by go_num, HK2⟩
        case measure => simp [RowKit.intOf]; omega
    · obtain rfl : i = S := by omega
      obtain ⟨vs, uss, hT⟩ := HU.out.sets
      obtain ⟨A, c, rfl, _, _⟩ := hT.reads
      obtain ⟨q3, f3⟩ := cz1' HU.out.m
      obtain ⟨q4, f4⟩ := cz1' HU.out.r
      have HT := Aside0.mk hT
      clear hT f3
      go_wp2
      refine bodyPost_ret (results_cell rfl _ _ (w.heap.size + 1) 39 #[.slice A (top i W).length c] (0, 0) _ rfl (blk_put (cs := #[.slice none 0 0]) HU.out.r 0 _ rfl) Try.underlying39 rfl (by kernel_rfl)) rfl ?_
      exact ⟨_, vs, uss, rfl, HT.out.setFar HU.out.r (by decide) _, HU.out.below.setCell (by show w.heap.size ≤ w.heap.size + 1; omega) _⟩
end Go.Proofs.Ytkgocbmnjlfkoaa.M
end
section
namespace Go.Proofs.Ytkgocbmnjlfkoaa.M
open Go.RowKit Go.Proofs.Ytkgocbmnjlfkoaa.X Go.Proofs.YtkgocbmnjlfkoaaW.PrintWords Go.Proofs.YtkgocbmnjlfkoaaW.PrintLast Go.Proofs.YtkgocbmnjlfkoaaW.PrintMore
set_option linter.unusedVariables false
set_option linter.unusedSimpArgs false
theorem app_copy {ops : Array Oper} {rest : List Oper} {o : Oper} {a : Act} {Q : Exit → Act → World → Prop} {W : World} (hgd : o.guard = none) (y : Operand)
    (ho : o.op = .call { callee := .builtin .append, args := #[.const (.slice none 0 0), y], argTypes := #[22, 22] }) (A : Option Addr) (c : Nat) (xs : List Int) (hx : a.eval y = .slice A xs.length c) (hr : C1 W A xs) (hl : xs.length < 8796093022208)
    (h : ∀ v1 w1, T1 w1 W.heap.size v1 xs → Below W.heap.size W w1 → wpList Try.prog ops Q rest (a.put o.dst v1) w1) : wpList Try.prog ops Q (o :: rest) a W :=
  Kd.R_append_rows (Kd.int .i64) (w0 := W) W.heap.size hgd (.const (.slice none 0 0)) y 22 3 (.int .i64 0) 8 ho Try.underlying22 info3 rfl (by decide) (by decide) (.slice none 0 0) [] xs A xs.length c (fun _ => True) (fun _ => False) rfl hx (Kd.R_nil _ _ _ _ _) hr (fun _ _ h => h) (fun _ h => h.elim) (fun _ _ => trivial) (Below.refl _ _) (Nat.le_refl _) (by simp; omega) (fun v1 w1 ho hb _ _ => h v1 w1 (T1.ofR ho) hb)
set_option maxHeartbeats 2000000 in
theorem rcopy_calls (A : Option Addr) (c : Nat) (x : List (List (List Int))) (w : World) (hr : C3 w A x) (hc : x.length ≤ c) (hs : Short3 x) : Calls Try.prog 23 #[.slice A x.length c] w (New3 w x) := by
  have hxl := hs.1
  have HR := Aside0.mk hr
  have HS := Aside0.mk hs.2
  clear hr hs
  go_enter Try.func23, Try.ntmps23
  go_wp2
  go_loopw [3, 11] (fun v3 v11 wr => ∃ (i : Nat), i ≤ x.length ∧ v11 = .int .i64 i ∧ Aside0 (Und3 w wr v3 (x.take i))) (fun _ v11 _ => x.length - (RowKit.intOf v11).toNat)
  case atStart => exact ⟨0, Nat.zero_le _, rfl, ⟨⟨_, _, T3.nil _ _, Below.refl _ _⟩⟩⟩
  case round =>
    obtain ⟨i, hi, rfl, HU⟩ := hrel
    by_cases hlt : i < x.length
    · obtain ⟨ad, A0, c0, rfl, hcell0, hc0, hl0⟩ := C3.get HR.out hlt
      have HL := Aside0.mk hl0
      have hxi := (HS.out _ (List.getElem_mem hlt))
      have hm := hxi.1
      have HSi := Aside0.mk hxi.2
      obtain ⟨A', c', hA', hB', hcell⟩ : ∃ A' c', (∃ n, u3 = .slice A' n c') ∧ Below w.heap.size w wr ∧ wr.cell? (ad.add i) = some (.slice A0 x[i].length c0) := by
        obtain ⟨vs, uss, hT, hB⟩ := HU.out
        obtain ⟨A', c', h1, _⟩ := hT.reads
        exact ⟨A', c', ⟨_, h1⟩, hB, pw_cell_below hB hcell0⟩
      obtain ⟨n', rfl⟩ := hA'
      have HB0 := Aside0.mk hB'
      have HX : Aside0 (x.take (i + 1) = x.take i ++ [x[i]]) := ⟨List.take_succ_eq_append_getElem hlt⟩
      clear hl0 hcell0 hxi hB'
      generalize x[i] = r at *
      obtain ⟨wo, rfl⟩ : ∃ wo : World, wo = wr := ⟨_, rfl⟩
      go_wp2
      go_loopw [6, 17] (fun v6 v17 wi => ∃ (a : Nat), a ≤ r.length ∧ v17 = .int .i64 a ∧ Aside0 (∃ us, T2 wi wo.heap.size v6 us (r.take a) ∧ Below wo.heap.size wo wi)) (fun _ v17 _ => r.length - (RowKit.intOf v17).toNat)
      case atStart => exact ⟨0, Nat.zero_le _, rfl, ⟨⟨[], ⟨own_nil _ _ _ _, rfl, fun i hi => absurd hi (Nat.not_lt_zero i), fun i j _ hj => absurd hj (Nat.not_lt_zero j)⟩, Below.refl _ _⟩⟩⟩
      case round =>
        obtain ⟨a, ha, rfl, HI⟩ := hrel
        obtain ⟨us, hT2, hbi⟩ := HI.out
        by_cases hal : a < r.length
        · have hbw : Below w.heap.size w wr := HB0.out.trans (hbi.mono HB0.out.size)
          obtain ⟨ad1, A1, c1, rfl, hcell1, hc1, hl1⟩ := C2.get (Kd.C_below HL.out hbw) hal
          have hsl := HSi.out _ (List.getElem_mem hal)
          have HXa : Aside0 (r.take (a + 1) = r.take a ++ [r[a]]) := ⟨List.take_succ_eq_append_getElem hal⟩
          have hpl : (r.take a).length = a := by rw [List.length_take, Nat.min_eq_left ha]
          have HL1 := Aside0.mk hl1
          clear hbw hl1 HI
          generalize r[a] = l at *
          generalize r.take a = p at *
          obtain ⟨A2, c2, rfl, _, _⟩ := hT2.reads
          have hlen := hT2.len
          have hus : us.length < 1099511627777 := by omega
          have HPL := Aside0.mk hpl
          have HLEN := Aside0.mk hlen
          have HT2 := Aside0.mk hT2
          have HBI := Aside0.mk hbi
          clear hT2 hbi hlen hpl
          go_wp2_with (first
            | (at_builtin; refine app_copy rfl (.tmp 22) rfl A1 c1 l rfl HL1.out (by omega) ?_; intro v1 w1 hv1 hb1; obtain ⟨Av, cv, rfl, _, _⟩ := hv1.reads; have HV1 := Aside0.mk hv1; have HBv := Aside0.mk hb1; have HTa := Aside0.mk (HT2.out.keep (w' := w1.alloc (.cells #[.slice Av l.length cv] 22)) (fun k hk => (Below.heap_alloc _ _ _ (by have := (HT2.out.lt hk).2; have := hb1.size; omega)).trans (hb1.block k (HT2.out.lt hk).2))); have hsz := Aside0.mk (show wo.heap.size ≤ (w1.alloc (.cells #[.slice Av l.length cv] 22)).heap.size by rw [World.size_alloc]; have := HBI.out.size; have := hb1.size; omega); clear hv1 hb1)
            | (at_builtin; refine app_one rfl (.tmp 21) (.tmp 24) 43 22 (.slice none 0 0) 24 rfl Try.underlying43 info22 rfl wo.heap.size (.slice A2 p.length c2) (.slice Av l.length cv) us w1.heap.size rfl rfl (heap_new w1 _) rfl HTa.out.own (by omega) (by unfold maxLen; omega) hsz.out ?_; intro g' cap w2 ho hgr hlie; have HO := Aside0.mk ho; have HGr := Aside0.mk hgr; clear ho hgr hlie))
          have HN : Aside0 (∃ us2, T2 w2 wo.heap.size (.slice (some ⟨g', 0, none⟩) (us.length + 1) cap) us2 (r.take (a + 1)) ∧ Below wo.heap.size wo w2) := ⟨by
            have hVa := HV1.out.keep (w' := w1.alloc (.cells #[.slice Av l.length cv] 22)) (fun k hk => Below.heap_alloc _ _ _ (HV1.out.lt hk).2)
            have h3 := T2.snoc HTa.out (hVa.lower HBI.out.size) (fun j hj => by
              rcases he : (Value.slice Av l.length cv).ownBlock with _ | k
              · exact .inl rfl
              · refine .inr (fun e => ?_)
                have h4 := (HV1.out.lt he).1
                have h5 := (HT2.out.lt (.inr ⟨j, hj, e.symm⟩)).2
                omega) HO.out HGr.out (by
              rcases he : (Value.slice A2 p.length c2).ownBlock with _ | k
              · exact .inl rfl
              · refine .inr (fun e => ?_)
                have h4 := (HV1.out.lt e.symm).1
                have h5 := (HT2.out.lt (.inl he)).2
                omega)
            rw [HXa.out]
            exact ⟨_, h3, ((HBI.out.trans (HBv.out.mono HBI.out.size)).alloc (by have := HBI.out.size; have := HBv.out.size; omega) _).grown HGr.out hsz.out (fun k hk => (HT2.out.lt (.inl hk)).1)⟩⟩
          go_roundw
          case rel => exact ⟨a + 1, hal, by go_num, HN⟩
          case measure => simp [RowKit.intOf]; omega
        · obtain rfl : a = r.length := by omega
          rw [List.take_length] at hT2
          obtain ⟨vs, uss, hT, hB⟩ := HU.out
          have hbw : Below w.heap.size w wr := HB0.out.trans (hbi.mono HB0.out.size)
          obtain ⟨A2, c2, rfl, _, _⟩ := hT2.reads
          have hT3 := (hT.below hbi).below ((Below.refl _ _).alloc (Nat.le_refl _) (.cells #[.slice A2 r.length c2] 43))
          have hvl : vs.length = i := by rw [hT.len, List.length_take]; omega
          have hvl2 : vs.length < 1099511627776 := by omega
          have hsz : w.heap.size ≤ (wr.alloc (.cells #[.slice A2 r.length c2] 43)).heap.size := by rw [World.size_alloc]; have := hbw.size; omega
          have hTa := hT2.keep (w' := wr.alloc (.cells #[.slice A2 r.length c2] 43)) (fun k hk => Below.heap_alloc _ _ _ (hT2.lt hk).2)
          have HN : Aside0 (∀ g' cap w2, w2.ownsRow w.heap.size 43 1 (.slice (some ⟨g', 0, none⟩) (vs.length + 1) cap) (vs.length + 1) (vs ++ [.slice A2 r.length c2]) → (wr.alloc (.cells #[.slice A2 r.length c2] 43)).grownBy w2 (Value.slice A' n' c').ownBlock → Und3 w w2 (.slice (some ⟨g', 0, none⟩) (vs.length + 1) cap) (x.take (i + 1))) := ⟨fun g' cap w2 ho hgr => by
            rw [HX.out]
            exact ⟨_, _, T3.snoc hT3 (hTa.lower HB0.out.size) (fun j hj k hk hk2 => by
              have h4 := (hT2.lt hk).1
              have h5 := ((hT.el j hj).lt hk2).2
              omega) ho hgr, (hbw.alloc hbw.size _).grown hgr hsz (fun k hk => (hT.lt (.inl hk)).1)⟩⟩
          have HOw := Aside0.mk hT3.own
          have HSZ := Aside0.mk hsz
          clear HU HI hT hB hT3 hbw hT2 hbi hTa hvl hsz HX
          go_wp2_with (at_builtin; refine app_one rfl (.tmp 27) (.tmp 29) 29 43 (.slice none 0 0) 24 rfl Try.underlying29 info43 rfl w.heap.size (.slice A' n' c') (.slice A2 r.length c2) vs wr.heap.size rfl rfl (heap_new wr _) rfl HOw.out (by omega) (by unfold maxLen; omega) HSZ.out ?_; intro g' cap w2 ho hgr hlie; have HN2 := Aside0.mk (HN.out _ _ _ ho hgr); clear ho hgr hlie HN)
          go_roundw
          case rel => exact ⟨i + 1, hlt, by go_num, HN2⟩
          case measure => simp [RowKit.intOf]; omega
    · obtain rfl : i = x.length := by omega
      go_wp2
      go_ret
      obtain ⟨vs, uss, hT, hB⟩ := HU.out
      exact ⟨_, vs, uss, rfl, by simpa using hT, hB⟩
end Go.Proofs.Ytkgocbmnjlfkoaa.M
end
section
namespace Go.Proofs.Ytkgocbmnjlfkoaa.X
open Go.RowKit Go.Proofs.YtkgocbmnjlfkoaaW.PrintWords Go.Proofs.YtkgocbmnjlfkoaaW.PrintLast Go.Proofs.YtkgocbmnjlfkoaaW.PrintMore
attribute [local go_sem] max2_int min2_int max_two min_two max_three min_three max_four min_four
set_option linter.unusedVariables false
set_option linter.unusedSimpArgs false
mutual
def timeboundref24_Place.l0 : Nat → Int → List (List Int) → Int → Int → Option (Int)
  | 0, _, _, _, _ => none
  | k + 1, x1, x9, x10, x11 => if x11 < x10 then (if 0 ≤ x11 then (if x11 < (x9.length : Int) then (timeboundref24_Place.l1 k x1 x11 x9 x10 x11 (rd_L1 x9 x11) ((rd_L1 x9 x11).length : Int) 0) else (none)) else (none)) else (some (-1))
def timeboundref24_Place.l1 : Nat → Int → Int → List (List Int) → Int → Int → List Int → Int → Int → Option (Int)
  | 0, _, _, _, _, _, _, _, _ => none
  | k + 1, x1, x5, x9, x10, x11, x16, x17, x18 => if x18 < x17 then (if 0 ≤ x18 then (if x18 < (x16.length : Int) then (if (rd x16 x18) = x1 then (some x5) else (timeboundref24_Place.l1 k x1 x5 x9 x10 x11 x16 x17 (wrap64 (x18 + 1)))) else (none)) else (none)) else (timeboundref24_Place.l0 k x1 x9 x10 (wrap64 (x11 + 1)))
end
def timeboundref24_Place.f (k : Nat) (l0 : List (List Int)) (a1 : Int) : Option (Int) := timeboundref24_Place.l0 k a1 l0 (l0.length : Int) 0
set_option maxHeartbeats 80000000 in
set_option maxRecDepth 100000 in
theorem timeboundref24_Place.calls (k : Nat) (A0 : Option Addr) (c0 : Nat) (l0 : List (List Int)) (a1 : Int) (r : Int) (w : World) (hr0 : Kd.C (Kd.slice 3 (Kd.int .i64)) w A0 l0.length l0) (hc0 : l0.length ≤ c0) (h : timeboundref24_Place.f k l0 a1 = some r) :
   Calls Try.prog 76 #[.slice A0 l0.length c0, .int .i64 a1] w fun e w' => e = .returned (.int .i64 r) ∧ Drawn0 w w' := by
  have HR0 := Aside0.mk hr0
  have HC0 := Aside0.mk hc0
  clear hr0 hc0
  have H : (timeboundref24_Place.l0 k a1 l0 (l0.length : Int) 0) = some r := h
  clear h
  have H' := Aside0.mk H
  clear H
  go_enter Try.func76, Try.ntmps76
  go_wp2
  go_loopg [11] k (fun kq v11 w' => ∃ (x11_1 : Int), v11 = .int .i64 x11_1 ∧ Aside0 (timeboundref24_Place.l0 kq a1 l0 (l0.length : Int) x11_1 = some r) ∧ Aside0 (kq ≤ k) ∧ Drawn0 w w')
  case atStart => exact ⟨(0), rS, H', ⟨Nat.le_refl _⟩, by repeat (first | exact Drawn0.refl _ | apply Drawn0.step)⟩
  case round =>
   clear H'
   obtain ⟨x11_1, rfl, HA, HK1, ⟨m1, rfl⟩⟩ := hrel
   cases gk with
   | zero => exact absurd HA.out (by simp [timeboundref24_Place.l0])
   | succ k1 =>
    have H := HA.out
    clear HA
    simp only [timeboundref24_Place.l0] at H
    by_cases c3 : x11_1 < (l0.length : Int)
    ·rw [if_pos c3] at H
     have c3b0 : decide (x11_1 < (l0.length : Int)) = true := decide_eq_true c3
     clear c3
     by_cases c4 : 0 ≤ x11_1
     ·rw [if_pos c4] at H
      have c4b0 : decide (0 ≤ x11_1) = true := decide_eq_true c4
      clear c4
      by_cases c5 : x11_1 < (l0.length : Int)
      ·rw [if_pos c5] at H
       have c5b0 : decide (x11_1 < (l0.length : Int)) = true := decide_eq_true c5
       clear c5
       have H' := Aside0.mk H
       clear H
       have p101 : 0 ≤ (x11_1 : Int) := oD
       have q101 : x11_1 < (l0.length : Int) := oD
       obtain ⟨ad101, A101_0, c101_0, e101, hx101_0, hl101_0, hi101_0⟩ := at_L1 HR0.out x11_1 p101 q101
       cases e101
       have HR101_0 := Aside0.mk hi101_0
       have HC101_0 := Aside0.mk hl101_0
       clear hi101_0 hl101_0
       replace p101 := eq_true p101
       replace q101 := eq_true q101
       go_wp2
       go_loopg [18] k1 (fun kq v18 w' => ∃ (x18_2 : Int), v18 = .int .i64 x18_2 ∧ Aside0 (timeboundref24_Place.l1 kq a1 x11_1 l0 (l0.length : Int) x11_1 (rd_L1 l0 x11_1) ((rd_L1 l0 x11_1).length : Int) x18_2 = some r) ∧ Aside0 (kq ≤ k1) ∧ Drawn0 w w')
       case atStart => exact ⟨(0), rS, H', ⟨Nat.le_refl _⟩, by repeat (first | exact Drawn0.refl _ | apply Drawn0.step)⟩
       case round =>
        clear H'
        try clear c3b0
        try clear c4b0
        try clear c5b0
        try clear hx101_0
        try clear p101
        try clear q101
        obtain ⟨x18_2, rfl, HA, HK2, ⟨m2, rfl⟩⟩ := hrel
        cases gk with
        | zero => exact absurd HA.out (by simp [timeboundref24_Place.l1])
        | succ k2 =>
         have H := HA.out
         clear HA
         simp only [timeboundref24_Place.l1] at H
         by_cases c6 : x18_2 < ((rd_L1 l0 x11_1).length : Int)
         ·rw [if_pos c6] at H
          have c6b0 : decide (x18_2 < ((rd_L1 l0 x11_1).length : Int)) = true := decide_eq_true c6
          clear c6
          by_cases c7 : 0 ≤ x18_2
          ·rw [if_pos c7] at H
           have c7b0 : decide (0 ≤ x18_2) = true := decide_eq_true c7
           clear c7
           by_cases c8 : x18_2 < ((rd_L1 l0 x11_1).length : Int)
           ·rw [if_pos c8] at H
            have c8b0 : decide (x18_2 < ((rd_L1 l0 x11_1).length : Int)) = true := decide_eq_true c8
            clear c8
            by_cases c9 : (rd (rd_L1 l0 x11_1) x18_2) = a1
            ·rw [if_pos c9] at H
             have c9b0 : ((rd (rd_L1 l0 x11_1) x18_2) == a1) = true := beq_iff_eq.mpr c9
             have c9b1 : ((rd (rd_L1 l0 x11_1) x18_2) != a1) = false := bne_eq_false_iff_eq.mpr c9
             clear c9
             obtain rfl := Option.some.inj H
             have p102 : 0 ≤ (x18_2 : Int) := oD
             have q102 : x18_2 < ((rd_L1 l0 x11_1).length : Int) := oD
             obtain ⟨ad102, e102, hx102_0⟩ := Kd.at_int HR101_0.out x18_2 p102 q102
             cases e102
             replace p102 := eq_true p102
             replace q102 := eq_true q102
             go_wp2
             go_ret
             exact ⟨by first | rfl | (simp; done) | (simp [*]; done), by repeat (first | exact Drawn0.refl _ | apply Drawn0.step)⟩
            ·rw [if_neg c9] at H
             have c9b0 : ((rd (rd_L1 l0 x11_1) x18_2) == a1) = false := beq_eq_false_iff_ne.mpr c9
             have c9b1 : ((rd (rd_L1 l0 x11_1) x18_2) != a1) = true := bne_iff_ne.mpr c9
             have H' := Aside0.mk H
             clear H
             have p102 : 0 ≤ (x18_2 : Int) := oD
             have q102 : x18_2 < ((rd_L1 l0 x11_1).length : Int) := oD
             obtain ⟨ad102, e102, hx102_0⟩ := Kd.at_int HR101_0.out x18_2 p102 q102
             cases e102
             replace p102 := eq_true p102
             replace q102 := eq_true q102
             go_wp2
             go_roundg k2
             case measure => have := HK1.out; have := HK2.out; omega
             case rel => exact ⟨(wrap64 (x18_2 + 1)), rS, H', ⟨by have := HK1.out; have := HK2.out; omega⟩, by repeat (first | exact Drawn0.refl _ | apply Drawn0.step)⟩
           ·rw [if_neg c8] at H
            exact absurd H (by simp)
          ·rw [if_neg c7] at H
           exact absurd H (by simp)
         ·rw [if_neg c6] at H
          have c6b0 : decide (x18_2 < ((rd_L1 l0 x11_1).length : Int)) = false := decide_eq_false c6
          clear c6
          have H' := Aside0.mk H
          clear H
          go_wp2
          go_roundg k2
          case measure => have := HK1.out; have := HK2.out; omega
          case rel => exact ⟨(wrap64 (x11_1 + 1)), rS, H', ⟨by have := HK1.out; have := HK2.out; omega⟩, by repeat (first | exact Drawn0.refl _ | apply Drawn0.step)⟩
      ·rw [if_neg c5] at H
       exact absurd H (by simp)
     ·rw [if_neg c4] at H
      exact absurd H (by simp)
    ·rw [if_neg c3] at H
     have c3b0 : decide (x11_1 < (l0.length : Int)) = false := decide_eq_false c3
     clear c3
     obtain rfl := Option.some.inj H
     go_wp2
     go_ret
     exact ⟨by first | rfl | (simp; done) | (simp [*]; done), by repeat (first | exact Drawn0.refl _ | apply Drawn0.step)⟩
def timeboundref24_Put.l0 : Nat → Int → List Int → Bool → List Int → Int → Int → Option (List Int)
  | 0, _, _, _, _, _, _ => none
  | k + 1, x1, x5, x6, x9, x10, x11 => if x11 < x10 then (if 0 ≤ x11 then (if x11 < (x9.length : Int) then (if x6 = true then (if x5.length < 17592186044416 then (timeboundref24_Put.l0 k x1 (x5 ++ [rd x9 x11]) x6 x9 x10 (wrap64 (x11 + 1))) else (none)) else (if x1 < (rd x9 x11) then (if x5.length < 17592186044416 then ((some (x5 ++ [x1] : List Int)).bind fun y105 => (if y105.length < 17592186044416 then (timeboundref24_Put.l0 k x1 (y105 ++ [rd x9 x11]) true x9 x10 (wrap64 (x11 + 1))) else (none))) else (none)) else (if x5.length < 17592186044416 then (timeboundref24_Put.l0 k x1 (x5 ++ [rd x9 x11]) x6 x9 x10 (wrap64 (x11 + 1))) else (none)))) else (none)) else (none)) else (if x6 = true then (some x5) else (if x5.length < 17592186044416 then (some (x5 ++ [x1])) else (none)))
def timeboundref24_Put.f (k : Nat) (l0 : List Int) (a1 : Int) : Option (List Int) := timeboundref24_Put.l0 k a1 ([] : List Int) false l0 (l0.length : Int) 0
set_option maxHeartbeats 80000000 in
set_option maxRecDepth 100000 in
theorem timeboundref24_Put.calls (k : Nat) (A0 : Option Addr) (c0 : Nat) (l0 : List Int) (a1 : Int) (r : List Int) (w : World) (hr0 : Kd.C (Kd.int .i64) w A0 l0.length l0) (hc0 : l0.length ≤ c0) (h : timeboundref24_Put.f k l0 a1 = some r) :
   Calls Try.prog 77 #[.slice A0 l0.length c0, .int .i64 a1] w fun e w' => ∃ v0_ : Value, e = .returned (v0_) ∧ Kd.R (Kd.int .i64) 3 w' w.heap.size (fun _ => True) v0_ r ∧ Below w.heap.size w w' := by
  have HR0 := Aside0.mk hr0
  have HC0 := Aside0.mk hc0
  clear hr0 hc0
  have HB := Aside0.mk (Below.refl w.heap.size w)
  have H : (timeboundref24_Put.l0 k a1 ([] : List Int) false l0 (l0.length : Int) 0) = some r := h
  clear h
  have H' := Aside0.mk H
  clear H
  go_enter Try.func77, Try.ntmps77
  go_wp2
  go_loopg [5, 6, 11] k (fun kq v5 v6 v11 w' => ∃ (x5_1 : List Int) (x6_1 : Bool) (x11_1 : Int), v6 = .bool x6_1 ∧ v11 = .int .i64 x11_1 ∧ Aside0 (timeboundref24_Put.l0 kq a1 x5_1 x6_1 l0 (l0.length : Int) x11_1 = some r) ∧ Aside0 (kq ≤ k) ∧ Aside0 (Kd.R (Kd.int .i64) 3 w' w.heap.size (fun _ => True) v5 x5_1) ∧ Aside0 (Below w.heap.size w w'))
  case atStart => exact ⟨(([] : List Int)), (false), (0), rS, rS, H', ⟨Nat.le_refl _⟩, ⟨by first | exact Kd.R_nil _ _ _ _ _ | exact Kd.N_nil _ _ _ _ _ | exact Kd.V_nil _ _ _ _ _ | exact Kd.Q_nil _ _ _ _ _ | exact Kd.S_nil _ _ _ _ _⟩, ⟨hB0 HB.out⟩⟩
  case round =>
   clear H'
   obtain ⟨x5_1, x6_1, x11_1, rfl, rfl, HA, HK1, HO_5, HB⟩ := hrel
   cases gk with
   | zero => exact absurd HA.out (by simp [timeboundref24_Put.l0])
   | succ k1 =>
    have H := HA.out
    clear HA
    simp only [timeboundref24_Put.l0] at H
    by_cases c3 : x11_1 < (l0.length : Int)
    ·rw [if_pos c3] at H
     have c3b0 : decide (x11_1 < (l0.length : Int)) = true := decide_eq_true c3
     clear c3
     by_cases c4 : 0 ≤ x11_1
     ·rw [if_pos c4] at H
      have c4b0 : decide (0 ≤ x11_1) = true := decide_eq_true c4
      clear c4
      by_cases c5 : x11_1 < (l0.length : Int)
      ·rw [if_pos c5] at H
       have c5b0 : decide (x11_1 < (l0.length : Int)) = true := decide_eq_true c5
       clear c5
       by_cases c6 : x6_1 = true
       ·subst c6
        have H1 : (if x5_1.length < 17592186044416 then (timeboundref24_Put.l0 k1 a1 (x5_1 ++ [rd l0 x11_1]) true l0 (l0.length : Int) (wrap64 (x11_1 + 1))) else (none)) = some r := by rw [if_pos rfl] at H; exact H
        clear H
        have H := H1
        clear H1
        by_cases c7 : x5_1.length < 17592186044416
        ·rw [if_pos c7] at H
         have LMc7 := Aside0.mk c7
         clear c7
         obtain ⟨y102, hy102⟩ : ∃ y_ : List Int, y_ = (x5_1 ++ [rd l0 x11_1]) := ⟨_, rfl⟩
         replace H : (timeboundref24_Put.l0 k1 a1 y102 true l0 (l0.length : Int) (wrap64 (x11_1 + 1))) = some r := by first | (rw [hy102]; with_reducible exact H) | (have H2_ := (Option.bind_some _ _).symm.trans H; rw [hy102]; with_reducible exact H2_) | (have H2_ := (Option.bind_some _ _).symm.trans H; with_reducible exact H2_) | with_reducible exact H | (rw [hy102]; exact H) | exact H
         have Ny102 := Aside0.mk hy102
         clear hy102
         have H' := Aside0.mk H
         clear H
         have p101 : 0 ≤ (x11_1 : Int) := oD
         have q101 : x11_1 < (l0.length : Int) := oD
         obtain ⟨ad101, e101, hx101_0⟩ := Kd.at_int HR0.out x11_1 p101 q101
         cases e101
         replace hx101_0 := (HB.out.cell (World.block_lt_of_cell? w _ hx101_0)).trans hx101_0
         replace p101 := eq_true p101
         replace q101 := eq_true q101
         go_wp2_with (first | ((with_reducible refine gate_builtin (b := .append) (xs := #[.tmp 26, .tmp 28]) rfl ?_); at_builtin; refine Kd.R_append (Kd.int .i64) (w0 := w) w.heap.size rfl (.tmp 26) (.tmp 28) 22 3 (.int .i64 0) 8 rfl Try.underlying22 info3 rfl (by decide) (by omega) u5 x5_1 (rd l0 x11_1) [.int .i64 (rd l0 x11_1)] (fun _ => True) (fun _ => False) rfl rfl ?aP (fun _ hk => hk.elim) ?aF ?aO ?aB ?aS ?aL ?_; (case aP => exact rfl); (case aB => exact (hB0 HB.out)); (case aF => exact (fun _ _ => trivial)); (case aO => exact (rK HO_5.out)); (case aS => exact (below_size (hB0 HB.out))); (case aL => have := LMc7.out; omega); intro v103 w8 ho hb hg hat; rw [← Ny102.out] at ho; have n0_ := Aside0.mk (hb); have n1_ := Aside0.mk (ho); clear HB HO_5; have HB := n0_; have HO104 := n1_; clear n0_ n1_; clear ho hb hg hat))
         go_roundg k1
         case measure => have := HK1.out; omega
         case rel => exact ⟨(y102), (true), (wrap64 (x11_1 + 1)), rS, rS, H', ⟨by have := HK1.out; omega⟩, ⟨rK HO104.out⟩, ⟨hB0 HB.out⟩⟩
        ·rw [if_neg c7] at H
         exact absurd H (by simp)
       ·replace c6 := Bool.eq_false_iff.mpr c6
        subst c6
        have H1 : (if a1 < (rd l0 x11_1) then (if x5_1.length < 17592186044416 then ((some (x5_1 ++ [a1] : List Int)).bind fun y105 => (if y105.length < 17592186044416 then (timeboundref24_Put.l0 k1 a1 (y105 ++ [rd l0 x11_1]) true l0 (l0.length : Int) (wrap64 (x11_1 + 1))) else (none))) else (none)) else (if x5_1.length < 17592186044416 then (timeboundref24_Put.l0 k1 a1 (x5_1 ++ [rd l0 x11_1]) false l0 (l0.length : Int) (wrap64 (x11_1 + 1))) else (none))) = some r := by rw [if_neg (show ¬ (false = true) by decide)] at H; exact H
        clear H
        have H := H1
        clear H1
        by_cases c9 : a1 < (rd l0 x11_1)
        ·rw [if_pos c9] at H
         have c9b0 : decide (a1 < (rd l0 x11_1)) = true := decide_eq_true c9
         clear c9
         by_cases c10 : x5_1.length < 17592186044416
         ·rw [if_pos c10] at H
          have LMc10 := Aside0.mk c10
          clear c10
          obtain ⟨y105, hy105⟩ : ∃ y_ : List Int, y_ = (x5_1 ++ [a1]) := ⟨_, rfl⟩
          replace H : (if y105.length < 17592186044416 then (timeboundref24_Put.l0 k1 a1 (y105 ++ [rd l0 x11_1]) true l0 (l0.length : Int) (wrap64 (x11_1 + 1))) else (none)) = some r := by first | (rw [hy105]; with_reducible exact H) | (have H2_ := (Option.bind_some _ _).symm.trans H; rw [hy105]; with_reducible exact H2_) | (have H2_ := (Option.bind_some _ _).symm.trans H; with_reducible exact H2_) | with_reducible exact H | (rw [hy105]; exact H) | exact H
          have Ny105 := Aside0.mk hy105
          clear hy105
          by_cases c11 : y105.length < 17592186044416
          ·rw [if_pos c11] at H
           have LMc11 := Aside0.mk c11
           clear c11
           obtain ⟨y108, hy108⟩ : ∃ y_ : List Int, y_ = (y105 ++ [rd l0 x11_1]) := ⟨_, rfl⟩
           replace H : (timeboundref24_Put.l0 k1 a1 y108 true l0 (l0.length : Int) (wrap64 (x11_1 + 1))) = some r := by first | (rw [hy108]; with_reducible exact H) | (have H2_ := (Option.bind_some _ _).symm.trans H; rw [hy108]; with_reducible exact H2_) | (have H2_ := (Option.bind_some _ _).symm.trans H; with_reducible exact H2_) | with_reducible exact H | (rw [hy108]; exact H) | exact H
           have Ny108 := Aside0.mk hy108
           clear hy108
           have H' := Aside0.mk H
           clear H
           have p101 : 0 ≤ (x11_1 : Int) := oD
           have q101 : x11_1 < (l0.length : Int) := oD
           obtain ⟨ad101, e101, hx101_0⟩ := Kd.at_int HR0.out x11_1 p101 q101
           cases e101
           replace hx101_0 := (HB.out.cell (World.block_lt_of_cell? w _ hx101_0)).trans hx101_0
           replace p101 := eq_true p101
           replace q101 := eq_true q101
           go_wp2_with (first | ((with_reducible refine gate_builtin (b := .append) (xs := #[.tmp 22, .tmp 24]) rfl ?_); at_builtin; refine Kd.R_append (Kd.int .i64) (w0 := w) w.heap.size rfl (.tmp 22) (.tmp 24) 22 3 (.int .i64 0) 8 rfl Try.underlying22 info3 rfl (by decide) (by omega) u5 x5_1 a1 [.int .i64 a1] (fun _ => True) (fun _ => False) rfl rfl ?aP (fun _ hk => hk.elim) ?aF ?aO ?aB ?aS ?aL ?_; (case aP => exact rfl); (case aB => exact (hB0 HB.out)); (case aF => exact (fun _ _ => trivial)); (case aO => exact (rK HO_5.out)); (case aS => exact (below_size (hB0 HB.out))); (case aL => have := LMc10.out; omega); intro v106 w12 ho hb hg hat; rw [← Ny105.out] at ho; have n0_ := Aside0.mk (hb); have n1_ := Aside0.mk (ho); clear HB HO_5; have HB := n0_; have HO107 := n1_; clear n0_ n1_; clear ho hb hg hat) | ((with_reducible refine gate_builtin (b := .append) (xs := #[.tmp 26, .tmp 28]) rfl ?_); at_builtin; refine Kd.R_append (Kd.int .i64) (w0 := w) w.heap.size rfl (.tmp 26) (.tmp 28) 22 3 (.int .i64 0) 8 rfl Try.underlying22 info3 rfl (by decide) (by omega) v106 y105 (rd l0 x11_1) [.int .i64 (rd l0 x11_1)] (fun _ => True) (fun _ => False) rfl rfl ?aP (fun _ hk => hk.elim) ?aF ?aO ?aB ?aS ?aL ?_; (case aP => exact rfl); (case aB => exact (hB0 HB.out)); (case aF => exact (fun _ _ => trivial)); (case aO => exact (rK HO107.out)); (case aS => exact (below_size (hB0 HB.out))); (case aL => have := LMc11.out; omega); intro v109 w13 ho hb hg hat; rw [← Ny108.out] at ho; have n0_ := Aside0.mk (hb); have n1_ := Aside0.mk (ho); clear HB HO107; have HB := n0_; have HO110 := n1_; clear n0_ n1_; clear ho hb hg hat))
           go_roundg k1
           case measure => have := HK1.out; omega
           case rel => exact ⟨(y108), (true), (wrap64 (x11_1 + 1)), rS, rS, H', ⟨by have := HK1.out; omega⟩, ⟨rK HO110.out⟩, ⟨hB0 HB.out⟩⟩
          ·rw [if_neg c11] at H
           exact absurd H (by simp)
         ·rw [if_neg c10] at H
          exact absurd H (by simp)
        ·rw [if_neg c9] at H
         have c9b0 : decide (a1 < (rd l0 x11_1)) = false := decide_eq_false c9
         clear c9
         by_cases c14 : x5_1.length < 17592186044416
         ·rw [if_pos c14] at H
          have LMc14 := Aside0.mk c14
          clear c14
          obtain ⟨y111, hy111⟩ : ∃ y_ : List Int, y_ = (x5_1 ++ [rd l0 x11_1]) := ⟨_, rfl⟩
          replace H : (timeboundref24_Put.l0 k1 a1 y111 false l0 (l0.length : Int) (wrap64 (x11_1 + 1))) = some r := by first | (rw [hy111]; with_reducible exact H) | (have H2_ := (Option.bind_some _ _).symm.trans H; rw [hy111]; with_reducible exact H2_) | (have H2_ := (Option.bind_some _ _).symm.trans H; with_reducible exact H2_) | with_reducible exact H | (rw [hy111]; exact H) | exact H
          have Ny111 := Aside0.mk hy111
          clear hy111
          have H' := Aside0.mk H
          clear H
          have p101 : 0 ≤ (x11_1 : Int) := oD
          have q101 : x11_1 < (l0.length : Int) := oD
          obtain ⟨ad101, e101, hx101_0⟩ := Kd.at_int HR0.out x11_1 p101 q101
          cases e101
          replace hx101_0 := (HB.out.cell (World.block_lt_of_cell? w _ hx101_0)).trans hx101_0
          replace p101 := eq_true p101
          replace q101 := eq_true q101
          go_wp2_with (first | ((with_reducible refine gate_builtin (b := .append) (xs := #[.tmp 26, .tmp 28]) rfl ?_); at_builtin; refine Kd.R_append (Kd.int .i64) (w0 := w) w.heap.size rfl (.tmp 26) (.tmp 28) 22 3 (.int .i64 0) 8 rfl Try.underlying22 info3 rfl (by decide) (by omega) u5 x5_1 (rd l0 x11_1) [.int .i64 (rd l0 x11_1)] (fun _ => True) (fun _ => False) rfl rfl ?aP (fun _ hk => hk.elim) ?aF ?aO ?aB ?aS ?aL ?_; (case aP => exact rfl); (case aB => exact (hB0 HB.out)); (case aF => exact (fun _ _ => trivial)); (case aO => exact (rK HO_5.out)); (case aS => exact (below_size (hB0 HB.out))); (case aL => have := LMc14.out; omega); intro v112 w15 ho hb hg hat; rw [← Ny111.out] at ho; have n0_ := Aside0.mk (hb); have n1_ := Aside0.mk (ho); clear HB HO_5; have HB := n0_; have HO113 := n1_; clear n0_ n1_; clear ho hb hg hat))
          go_roundg k1
          case measure => have := HK1.out; omega
          case rel => exact ⟨(y111), (false), (wrap64 (x11_1 + 1)), rS, rS, H', ⟨by have := HK1.out; omega⟩, ⟨rK HO113.out⟩, ⟨hB0 HB.out⟩⟩
         ·rw [if_neg c14] at H
          exact absurd H (by simp)
      ·rw [if_neg c5] at H
       exact absurd H (by simp)
     ·rw [if_neg c4] at H
      exact absurd H (by simp)
    ·rw [if_neg c3] at H
     have c3b0 : decide (x11_1 < (l0.length : Int)) = false := decide_eq_false c3
     clear c3
     by_cases c16 : x6_1 = true
     ·subst c16
      have H1 : (some x5_1) = some r := by rw [if_pos rfl] at H; exact H
      clear H
      have H := H1
      clear H1
      obtain rfl := Option.some.inj H
      go_wp2
      go_ret
      exact ⟨_, by first | rfl | (simp [errW_none, errW_some] <;> rfl) | (simp [*, errW_none, errW_some] <;> rfl), by (with_reducible repeat (first | apply Kd.R_alloc | apply Kd.R_drewN | apply Kd.R_drew)); exact HO_5.out, hB0 HB.out⟩
     ·replace c16 := Bool.eq_false_iff.mpr c16
      subst c16
      have H1 : (if x5_1.length < 17592186044416 then (some (x5_1 ++ [a1])) else (none)) = some r := by rw [if_neg (show ¬ (false = true) by decide)] at H; exact H
      clear H
      have H := H1
      clear H1
      by_cases c17 : x5_1.length < 17592186044416
      ·rw [if_pos c17] at H
       have LMc17 := Aside0.mk c17
       clear c17
       obtain ⟨y114, hy114⟩ : ∃ y_ : List Int, y_ = (x5_1 ++ [a1]) := ⟨_, rfl⟩
       replace H : (some y114) = some r := by first | (rw [hy114]; with_reducible exact H) | (have H2_ := (Option.bind_some _ _).symm.trans H; rw [hy114]; with_reducible exact H2_) | (have H2_ := (Option.bind_some _ _).symm.trans H; with_reducible exact H2_) | with_reducible exact H | (rw [hy114]; exact H) | exact H
       have Ny114 := Aside0.mk hy114
       clear hy114
       obtain rfl := Option.some.inj H
       go_wp2_with (first | ((with_reducible refine gate_builtin (b := .append) (xs := #[.tmp 33, .tmp 35]) rfl ?_); at_builtin; refine Kd.R_append (Kd.int .i64) (w0 := w) w.heap.size rfl (.tmp 33) (.tmp 35) 22 3 (.int .i64 0) 8 rfl Try.underlying22 info3 rfl (by decide) (by omega) u5 x5_1 a1 [.int .i64 a1] (fun _ => True) (fun _ => False) rfl rfl ?aP (fun _ hk => hk.elim) ?aF ?aO ?aB ?aS ?aL ?_; (case aP => exact rfl); (case aB => exact (hB0 HB.out)); (case aF => exact (fun _ _ => trivial)); (case aO => exact (rK HO_5.out)); (case aS => exact (below_size (hB0 HB.out))); (case aL => have := LMc17.out; omega); intro v115 w18 ho hb hg hat; rw [← Ny114.out] at ho; have n0_ := Aside0.mk (hb); have n1_ := Aside0.mk (ho); clear HB HO_5; have HB := n0_; have HO116 := n1_; clear n0_ n1_; clear ho hb hg hat))
       go_ret
       exact ⟨_, by first | rfl | (simp [errW_none, errW_some] <;> rfl) | (simp [*, errW_none, errW_some] <;> rfl), by (with_reducible repeat (first | apply Kd.R_alloc | apply Kd.R_drewN | apply Kd.R_drew)); exact HO116.out, hB0 HB.out⟩
      ·rw [if_neg c17] at H
       exact absurd H (by simp)
def timeboundref24_Age.f (k : Nat) (a0_0 : Int) (a0_1 : Int) (a0_2 : Int) (l1_0 : List (List (List Int))) (a2 : Int) : Option (Int) := if a0_0 = 0 then (some a0_1) else (if 0 ≤ (Int.tmod a2 a0_0) then (if (Int.tmod a2 a0_0) < (l1_0.length : Int) then ((timeboundref24_Place.f k (rd_L2 l1_0 (Int.tmod a2 a0_0)) a2).bind fun t104 => (if t104 ≥ 0 then (some t104) else (some a0_1))) else (none)) else (none))
set_option maxHeartbeats 80000000 in
set_option maxRecDepth 100000 in
theorem timeboundref24_Age.calls (k : Nat) (a0_0 : Int) (a0_1 : Int) (a0_2 : Int) (A1_0 : Option Addr) (c1_0 : Nat) (l1_0 : List (List (List Int))) (a2 : Int) (r : Int) (w : World) (hr1_0 : Kd.C (Kd.slice 22 (Kd.slice 3 (Kd.int .i64))) w A1_0 l1_0.length l1_0) (hc1_0 : l1_0.length ≤ c1_0) (h : timeboundref24_Age.f k a0_0 a0_1 a0_2 l1_0 a2 = some r) :
   Calls Try.prog 43 #[.agg #[.int .i64 a0_0, .int .i64 a0_1, .int .i64 a0_2], .agg #[.slice A1_0 l1_0.length c1_0], .int .i64 a2] w fun e w' => e = .returned (.int .i64 r) ∧ Below w.heap.size w w' := by
  have hu26 := Try.underlying26
  have hu39 := Try.underlying39
  have HR1_0 := Aside0.mk hr1_0
  have HC1_0 := Aside0.mk hc1_0
  clear hr1_0 hc1_0
  have HB := Aside0.mk (Below.refl w.heap.size w)
  have H : (if a0_0 = 0 then (some a0_1) else (if 0 ≤ (Int.tmod a2 a0_0) then (if (Int.tmod a2 a0_0) < (l1_0.length : Int) then ((timeboundref24_Place.f k (rd_L2 l1_0 (Int.tmod a2 a0_0)) a2).bind fun t104 => (if t104 ≥ 0 then (some t104) else (some a0_1))) else (none)) else (none))) = some r := h
  clear h
  by_cases c4 : a0_0 = 0
  ·rw [if_pos c4] at H
   have c4b0 : (a0_0 == 0) = true := beq_iff_eq.mpr c4
   have c4b1 : (a0_0 != 0) = false := bne_eq_false_iff_eq.mpr c4
   clear c4
   obtain rfl := Option.some.inj H
   go_enter Try.func43, Try.ntmps43
   go_wp2_with (first | ((with_reducible refine gate_dst (N := 3) rfl ?_); refine box_event ?hg (N := 3) ?hd (cs := #[.int .i64 a0_0, .int .i64 a0_1, .int .i64 a0_2]) (t := 26) ?hr ?_; (case hd => rfl); (case hg => rfl); (case hr => first | (go_simp; done) | (go_simp; rfl)); intro gb101 hg w5 hbox hb; have n0_ := Aside0.mk (below_step (hB0 HB.out) hb); have n1_ := Aside0.mk (hbox); have n2_ := Aside0.mk ((by rw [hg]; exact (below_size (hB0 HB.out)) : w.heap.size ≤ gb101)); have n3_ := Aside0.mk ((by rw [hg]; exact (below_size (hB0 HB.out)) : w.heap.size ≤ gb101)); clear HB; have HB := n0_; have BK101 := n1_; have GW101 := n2_; have GE101 := n3_; clear n0_ n1_ n2_ n3_; clear hb hbox hg) | ((with_reducible refine gate_dst (N := 4) rfl ?_); refine box_event ?hg (N := 4) ?hd (cs := #[.slice A1_0 l1_0.length c1_0]) (t := 39) ?hr ?_; (case hd => rfl); (case hg => rfl); (case hr => first | (go_simp; done) | (go_simp; rfl)); intro gb102 hg w6 hbox hb; have n0_ := Aside0.mk (blk_below (g := gb101) (bK BK101.out) hb); have n1_ := Aside0.mk (below_step (hB1 HB.out GE101.out) hb); have n2_ := Aside0.mk (hbox); have n3_ := Aside0.mk ((by rw [hg]; exact (below_size (hB1 HB.out GE101.out)) : w.heap.size ≤ gb102)); have n4_ := Aside0.mk ((by rw [hg]; exact (below_size (hB1 HB.out GE101.out)) : w.heap.size ≤ gb102)); have n5_ := Aside0.mk ((by rw [hg]; exact Nat.ne_of_lt (blk_lt (g := gb101) (bK BK101.out)) : gb101 ≠ gb102)); have n6_ := Aside0.mk ((by rw [hg]; exact Nat.ne_of_gt (blk_lt (g := gb101) (bK BK101.out)) : gb102 ≠ gb101)); clear BK101 HB; have BK101 := n0_; have HB := n1_; have BK102 := n2_; have GW102 := n3_; have GE102 := n4_; have NB101_102 := n5_; have NB102_101 := n6_; clear n0_ n1_ n2_ n3_ n4_ n5_ n6_; clear hb hbox hg; have hnb7 := NB101_102.out; have hnc7 := NB102_101.out; obtain ⟨hcz8_0, hcz8_1, hcz8_2, hfz8_0, hfz8_1, hfz8_2⟩ := cz3 BK101.out))
   repeat (go_quiet (first | ((with_reducible refine gate_dst (N := 3) rfl ?_); refine box_event ?hg (N := 3) ?hd (cs := #[.int .i64 a0_0, .int .i64 a0_1, .int .i64 a0_2]) (t := 26) ?hr ?_; (case hd => rfl); (case hg => rfl); (case hr => first | (go_simp; done) | (go_simp; rfl)); intro gb101 hg w5 hbox hb; have n0_ := Aside0.mk (below_step (hB0 HB.out) hb); have n1_ := Aside0.mk (hbox); have n2_ := Aside0.mk ((by rw [hg]; exact (below_size (hB0 HB.out)) : w.heap.size ≤ gb101)); have n3_ := Aside0.mk ((by rw [hg]; exact (below_size (hB0 HB.out)) : w.heap.size ≤ gb101)); clear HB; have HB := n0_; have BK101 := n1_; have GW101 := n2_; have GE101 := n3_; clear n0_ n1_ n2_ n3_; clear hb hbox hg) | ((with_reducible refine gate_dst (N := 4) rfl ?_); refine box_event ?hg (N := 4) ?hd (cs := #[.slice A1_0 l1_0.length c1_0]) (t := 39) ?hr ?_; (case hd => rfl); (case hg => rfl); (case hr => first | (go_simp; done) | (go_simp; rfl)); intro gb102 hg w6 hbox hb; have n0_ := Aside0.mk (blk_below (g := gb101) (bK BK101.out) hb); have n1_ := Aside0.mk (below_step (hB1 HB.out GE101.out) hb); have n2_ := Aside0.mk (hbox); have n3_ := Aside0.mk ((by rw [hg]; exact (below_size (hB1 HB.out GE101.out)) : w.heap.size ≤ gb102)); have n4_ := Aside0.mk ((by rw [hg]; exact (below_size (hB1 HB.out GE101.out)) : w.heap.size ≤ gb102)); have n5_ := Aside0.mk ((by rw [hg]; exact Nat.ne_of_lt (blk_lt (g := gb101) (bK BK101.out)) : gb101 ≠ gb102)); have n6_ := Aside0.mk ((by rw [hg]; exact Nat.ne_of_gt (blk_lt (g := gb101) (bK BK101.out)) : gb102 ≠ gb101)); clear BK101 HB; have BK101 := n0_; have HB := n1_; have BK102 := n2_; have GW102 := n3_; have GE102 := n4_; have NB101_102 := n5_; have NB102_101 := n6_; clear n0_ n1_ n2_ n3_ n4_ n5_ n6_; clear hb hbox hg; have hnb7 := NB101_102.out; have hnc7 := NB102_101.out; obtain ⟨hcz8_0, hcz8_1, hcz8_2, hfz8_0, hfz8_1, hfz8_2⟩ := cz3 BK101.out)); try go_wp2_with (first | ((with_reducible refine gate_dst (N := 3) rfl ?_); refine box_event ?hg (N := 3) ?hd (cs := #[.int .i64 a0_0, .int .i64 a0_1, .int .i64 a0_2]) (t := 26) ?hr ?_; (case hd => rfl); (case hg => rfl); (case hr => first | (go_simp; done) | (go_simp; rfl)); intro gb101 hg w5 hbox hb; have n0_ := Aside0.mk (below_step (hB0 HB.out) hb); have n1_ := Aside0.mk (hbox); have n2_ := Aside0.mk ((by rw [hg]; exact (below_size (hB0 HB.out)) : w.heap.size ≤ gb101)); have n3_ := Aside0.mk ((by rw [hg]; exact (below_size (hB0 HB.out)) : w.heap.size ≤ gb101)); clear HB; have HB := n0_; have BK101 := n1_; have GW101 := n2_; have GE101 := n3_; clear n0_ n1_ n2_ n3_; clear hb hbox hg) | ((with_reducible refine gate_dst (N := 4) rfl ?_); refine box_event ?hg (N := 4) ?hd (cs := #[.slice A1_0 l1_0.length c1_0]) (t := 39) ?hr ?_; (case hd => rfl); (case hg => rfl); (case hr => first | (go_simp; done) | (go_simp; rfl)); intro gb102 hg w6 hbox hb; have n0_ := Aside0.mk (blk_below (g := gb101) (bK BK101.out) hb); have n1_ := Aside0.mk (below_step (hB1 HB.out GE101.out) hb); have n2_ := Aside0.mk (hbox); have n3_ := Aside0.mk ((by rw [hg]; exact (below_size (hB1 HB.out GE101.out)) : w.heap.size ≤ gb102)); have n4_ := Aside0.mk ((by rw [hg]; exact (below_size (hB1 HB.out GE101.out)) : w.heap.size ≤ gb102)); have n5_ := Aside0.mk ((by rw [hg]; exact Nat.ne_of_lt (blk_lt (g := gb101) (bK BK101.out)) : gb101 ≠ gb102)); have n6_ := Aside0.mk ((by rw [hg]; exact Nat.ne_of_gt (blk_lt (g := gb101) (bK BK101.out)) : gb102 ≠ gb101)); clear BK101 HB; have BK101 := n0_; have HB := n1_; have BK102 := n2_; have GW102 := n3_; have GE102 := n4_; have NB101_102 := n5_; have NB102_101 := n6_; clear n0_ n1_ n2_ n3_ n4_ n5_ n6_; clear hb hbox hg; have hnb7 := NB101_102.out; have hnc7 := NB102_101.out; obtain ⟨hcz8_0, hcz8_1, hcz8_2, hfz8_0, hfz8_1, hfz8_2⟩ := cz3 BK101.out)))
   go_ret
   exact ⟨eW, hB2 HB.out GE101.out GE102.out⟩
  ·rw [if_neg c4] at H
   have c4b0 : (a0_0 == 0) = false := beq_eq_false_iff_ne.mpr c4
   have c4b1 : (a0_0 != 0) = true := bne_iff_ne.mpr c4
   obtain ⟨ji9, hji9⟩ : ∃ j_ : Int, (Int.tmod a2 a0_0) = j_ := ⟨_, rfl⟩
   replace H : (if 0 ≤ (ji9) then (if (ji9) < (l1_0.length : Int) then ((timeboundref24_Place.f k (rd_L2 l1_0 (ji9)) a2).bind fun t104 => (if t104 ≥ 0 then (some t104) else (some a0_1))) else (none)) else (none)) = some r := by first | (rw [hji9] at H; exact H) | (simp only [hji9] at H ⊢; exact H)
   by_cases c10 : 0 ≤ (ji9)
   ·rw [if_pos c10] at H
    have c10b0 : decide (0 ≤ (ji9)) = true := decide_eq_true c10
    clear c10
    by_cases c11 : (ji9) < (l1_0.length : Int)
    ·rw [if_pos c11] at H
     have c11b0 : decide ((ji9) < (l1_0.length : Int)) = true := decide_eq_true c11
     clear c11
     replace H := Option.bind_eq_some_iff.mp H
     obtain ⟨t104, A120, H⟩ := H
     replace H : (if t104 ≥ 0 then (some t104) else (some a0_1)) = some r := H
     have A12 := Aside0.mk A120
     clear A120
     by_cases c13 : t104 ≥ 0
     ·rw [if_pos c13] at H
      have c13b0 : decide (0 ≤ t104) = true := decide_eq_true c13
      clear c13
      obtain rfl := Option.some.inj H
      go_enter Try.func43, Try.ntmps43
      go_wp2_with (first | ((with_reducible refine gate_dst (N := 3) rfl ?_); refine box_event ?hg (N := 3) ?hd (cs := #[.int .i64 a0_0, .int .i64 a0_1, .int .i64 a0_2]) (t := 26) ?hr ?_; (case hd => rfl); (case hg => rfl); (case hr => first | (go_simp; done) | (go_simp; rfl)); intro gb101 hg w14 hbox hb; have n0_ := Aside0.mk (below_step (hB0 HB.out) hb); have n1_ := Aside0.mk (hbox); have n2_ := Aside0.mk ((by rw [hg]; exact (below_size (hB0 HB.out)) : w.heap.size ≤ gb101)); have n3_ := Aside0.mk ((by rw [hg]; exact (below_size (hB0 HB.out)) : w.heap.size ≤ gb101)); clear HB; have HB := n0_; have BK101 := n1_; have GW101 := n2_; have GE101 := n3_; clear n0_ n1_ n2_ n3_; clear hb hbox hg) | ((with_reducible refine gate_dst (N := 4) rfl ?_); refine box_event ?hg (N := 4) ?hd (cs := #[.slice A1_0 l1_0.length c1_0]) (t := 39) ?hr ?_; (case hd => rfl); (case hg => rfl); (case hr => first | (go_simp; done) | (go_simp; rfl)); intro gb102 hg w15 hbox hb; have n0_ := Aside0.mk (blk_below (g := gb101) (bK BK101.out) hb); have n1_ := Aside0.mk (below_step (hB1 HB.out GE101.out) hb); have n2_ := Aside0.mk (hbox); have n3_ := Aside0.mk ((by rw [hg]; exact (below_size (hB1 HB.out GE101.out)) : w.heap.size ≤ gb102)); have n4_ := Aside0.mk ((by rw [hg]; exact (below_size (hB1 HB.out GE101.out)) : w.heap.size ≤ gb102)); have n5_ := Aside0.mk ((by rw [hg]; exact Nat.ne_of_lt (blk_lt (g := gb101) (bK BK101.out)) : gb101 ≠ gb102)); have n6_ := Aside0.mk ((by rw [hg]; exact Nat.ne_of_gt (blk_lt (g := gb101) (bK BK101.out)) : gb102 ≠ gb101)); clear BK101 HB; have BK101 := n0_; have HB := n1_; have BK102 := n2_; have GW102 := n3_; have GE102 := n4_; have NB101_102 := n5_; have NB102_101 := n6_; clear n0_ n1_ n2_ n3_ n4_ n5_ n6_; clear hb hbox hg; have hnb16 := NB101_102.out; have hnc16 := NB102_101.out; obtain ⟨hcz17_0, hcz17_1, hcz17_2, hfz17_0, hfz17_1, hfz17_2⟩ := cz3 BK101.out; obtain ⟨hcz18_0, hfz18_0⟩ := cz1 BK102.out; have p103 : 0 ≤ ((ji9) : Int) := oD; have q103 : (ji9) < (l1_0.length : Int) := oD; obtain ⟨ad103, A103_0, c103_0, e103, hx103_0, hl103_0, hi103_0⟩ := at_L2 HR1_0.out (ji9) p103 q103; cases e103; replace hx103_0 := (HB.out.cell (World.block_lt_of_cell? w _ hx103_0)).trans hx103_0; have HR103_0 := Aside0.mk hi103_0; have HC103_0 := Aside0.mk hl103_0; clear hi103_0 hl103_0; replace p103 := eq_true p103; replace q103 := eq_true q103) | (go_at_call 76; (with_reducible refine (timeboundref24_Place.calls k _ _ (rd_L2 l1_0 (ji9)) a2 t104 _ ?side1 ?side2 A12.out).mono ?_); (case side1 => repeat (first | exact (Kd.C_below HR103_0.out HB.out) | (with_reducible refine Kd.C_alloc ?_ _) | (with_reducible refine Kd.C_drewN ?_ _) | (with_reducible refine Kd.C_drew ?_))); (case side2 => exact HC103_0.out); rintro e w' ⟨rfl, ⟨nd, rfl⟩⟩; (try first | exact ⟨rfl, _, World.drewN_drewN _ _ _⟩ | exact ⟨rfl, _, Eq.trans (World.drewN_drewN _ _ _) (congrArg (World.drewN _) (Nat.add_assoc _ _ _))⟩)))
      repeat (go_quiet (first | ((with_reducible refine gate_dst (N := 3) rfl ?_); refine box_event ?hg (N := 3) ?hd (cs := #[.int .i64 a0_0, .int .i64 a0_1, .int .i64 a0_2]) (t := 26) ?hr ?_; (case hd => rfl); (case hg => rfl); (case hr => first | (go_simp; done) | (go_simp; rfl)); intro gb101 hg w14 hbox hb; have n0_ := Aside0.mk (below_step (hB0 HB.out) hb); have n1_ := Aside0.mk (hbox); have n2_ := Aside0.mk ((by rw [hg]; exact (below_size (hB0 HB.out)) : w.heap.size ≤ gb101)); have n3_ := Aside0.mk ((by rw [hg]; exact (below_size (hB0 HB.out)) : w.heap.size ≤ gb101)); clear HB; have HB := n0_; have BK101 := n1_; have GW101 := n2_; have GE101 := n3_; clear n0_ n1_ n2_ n3_; clear hb hbox hg) | ((with_reducible refine gate_dst (N := 4) rfl ?_); refine box_event ?hg (N := 4) ?hd (cs := #[.slice A1_0 l1_0.length c1_0]) (t := 39) ?hr ?_; (case hd => rfl); (case hg => rfl); (case hr => first | (go_simp; done) | (go_simp; rfl)); intro gb102 hg w15 hbox hb; have n0_ := Aside0.mk (blk_below (g := gb101) (bK BK101.out) hb); have n1_ := Aside0.mk (below_step (hB1 HB.out GE101.out) hb); have n2_ := Aside0.mk (hbox); have n3_ := Aside0.mk ((by rw [hg]; exact (below_size (hB1 HB.out GE101.out)) : w.heap.size ≤ gb102)); have n4_ := Aside0.mk ((by rw [hg]; exact (below_size (hB1 HB.out GE101.out)) : w.heap.size ≤ gb102)); have n5_ := Aside0.mk ((by rw [hg]; exact Nat.ne_of_lt (blk_lt (g := gb101) (bK BK101.out)) : gb101 ≠ gb102)); have n6_ := Aside0.mk ((by rw [hg]; exact Nat.ne_of_gt (blk_lt (g := gb101) (bK BK101.out)) : gb102 ≠ gb101)); clear BK101 HB; have BK101 := n0_; have HB := n1_; have BK102 := n2_; have GW102 := n3_; have GE102 := n4_; have NB101_102 := n5_; have NB102_101 := n6_; clear n0_ n1_ n2_ n3_ n4_ n5_ n6_; clear hb hbox hg; have hnb16 := NB101_102.out; have hnc16 := NB102_101.out; obtain ⟨hcz17_0, hcz17_1, hcz17_2, hfz17_0, hfz17_1, hfz17_2⟩ := cz3 BK101.out; obtain ⟨hcz18_0, hfz18_0⟩ := cz1 BK102.out; have p103 : 0 ≤ ((ji9) : Int) := oD; have q103 : (ji9) < (l1_0.length : Int) := oD; obtain ⟨ad103, A103_0, c103_0, e103, hx103_0, hl103_0, hi103_0⟩ := at_L2 HR1_0.out (ji9) p103 q103; cases e103; replace hx103_0 := (HB.out.cell (World.block_lt_of_cell? w _ hx103_0)).trans hx103_0; have HR103_0 := Aside0.mk hi103_0; have HC103_0 := Aside0.mk hl103_0; clear hi103_0 hl103_0; replace p103 := eq_true p103; replace q103 := eq_true q103) | (go_at_call 76; (with_reducible refine (timeboundref24_Place.calls k _ _ (rd_L2 l1_0 (ji9)) a2 t104 _ ?side1 ?side2 A12.out).mono ?_); (case side1 => repeat (first | exact (Kd.C_below HR103_0.out HB.out) | (with_reducible refine Kd.C_alloc ?_ _) | (with_reducible refine Kd.C_drewN ?_ _) | (with_reducible refine Kd.C_drew ?_))); (case side2 => exact HC103_0.out); rintro e w' ⟨rfl, ⟨nd, rfl⟩⟩; (try first | exact ⟨rfl, _, World.drewN_drewN _ _ _⟩ | exact ⟨rfl, _, Eq.trans (World.drewN_drewN _ _ _) (congrArg (World.drewN _) (Nat.add_assoc _ _ _))⟩))); try go_wp2_with (first | ((with_reducible refine gate_dst (N := 3) rfl ?_); refine box_event ?hg (N := 3) ?hd (cs := #[.int .i64 a0_0, .int .i64 a0_1, .int .i64 a0_2]) (t := 26) ?hr ?_; (case hd => rfl); (case hg => rfl); (case hr => first | (go_simp; done) | (go_simp; rfl)); intro gb101 hg w14 hbox hb; have n0_ := Aside0.mk (below_step (hB0 HB.out) hb); have n1_ := Aside0.mk (hbox); have n2_ := Aside0.mk ((by rw [hg]; exact (below_size (hB0 HB.out)) : w.heap.size ≤ gb101)); have n3_ := Aside0.mk ((by rw [hg]; exact (below_size (hB0 HB.out)) : w.heap.size ≤ gb101)); clear HB; have HB := n0_; have BK101 := n1_; have GW101 := n2_; have GE101 := n3_; clear n0_ n1_ n2_ n3_; clear hb hbox hg) | ((with_reducible refine gate_dst (N := 4) rfl ?_); refine box_event ?hg (N := 4) ?hd (cs := #[.slice A1_0 l1_0.length c1_0]) (t := 39) ?hr ?_; (case hd => rfl); (case hg => rfl); (case hr => first | (go_simp; done) | (go_simp; rfl)); intro gb102 hg w15 hbox hb; have n0_ := Aside0.mk (blk_below (g := gb101) (bK BK101.out) hb); have n1_ := Aside0.mk (below_step (hB1 HB.out GE101.out) hb); have n2_ := Aside0.mk (hbox); have n3_ := Aside0.mk ((by rw [hg]; exact (below_size (hB1 HB.out GE101.out)) : w.heap.size ≤ gb102)); have n4_ := Aside0.mk ((by rw [hg]; exact (below_size (hB1 HB.out GE101.out)) : w.heap.size ≤ gb102)); have n5_ := Aside0.mk ((by rw [hg]; exact Nat.ne_of_lt (blk_lt (g := gb101) (bK BK101.out)) : gb101 ≠ gb102)); have n6_ := Aside0.mk ((by rw [hg]; exact Nat.ne_of_gt (blk_lt (g := gb101) (bK BK101.out)) : gb102 ≠ gb101)); clear BK101 HB; have BK101 := n0_; have HB := n1_; have BK102 := n2_; have GW102 := n3_; have GE102 := n4_; have NB101_102 := n5_; have NB102_101 := n6_; clear n0_ n1_ n2_ n3_ n4_ n5_ n6_; clear hb hbox hg; have hnb16 := NB101_102.out; have hnc16 := NB102_101.out; obtain ⟨hcz17_0, hcz17_1, hcz17_2, hfz17_0, hfz17_1, hfz17_2⟩ := cz3 BK101.out; obtain ⟨hcz18_0, hfz18_0⟩ := cz1 BK102.out; have p103 : 0 ≤ ((ji9) : Int) := oD; have q103 : (ji9) < (l1_0.length : Int) := oD; obtain ⟨ad103, A103_0, c103_0, e103, hx103_0, hl103_0, hi103_0⟩ := at_L2 HR1_0.out (ji9) p103 q103; cases e103; replace hx103_0 := (HB.out.cell (World.block_lt_of_cell? w _ hx103_0)).trans hx103_0; have HR103_0 := Aside0.mk hi103_0; have HC103_0 := Aside0.mk hl103_0; clear hi103_0 hl103_0; replace p103 := eq_true p103; replace q103 := eq_true q103) | (go_at_call 76; (with_reducible refine (timeboundref24_Place.calls k _ _ (rd_L2 l1_0 (ji9)) a2 t104 _ ?side1 ?side2 A12.out).mono ?_); (case side1 => repeat (first | exact (Kd.C_below HR103_0.out HB.out) | (with_reducible refine Kd.C_alloc ?_ _) | (with_reducible refine Kd.C_drewN ?_ _) | (with_reducible refine Kd.C_drew ?_))); (case side2 => exact HC103_0.out); rintro e w' ⟨rfl, ⟨nd, rfl⟩⟩; (try first | exact ⟨rfl, _, World.drewN_drewN _ _ _⟩ | exact ⟨rfl, _, Eq.trans (World.drewN_drewN _ _ _) (congrArg (World.drewN _) (Nat.add_assoc _ _ _))⟩))))
      go_ret
      exact ⟨by first | rfl | (simp [errW_none, errW_some] <;> rfl) | (simp only [← hji9]; first | rfl | (simp [errW_none, errW_some] <;> rfl)) | (simp [*, errW_none, errW_some] <;> rfl), hB2 HB.out GE101.out GE102.out⟩
     ·rw [if_neg c13] at H
      have c13b0 : decide (0 ≤ t104) = false := decide_eq_false c13
      clear c13
      obtain rfl := Option.some.inj H
      go_enter Try.func43, Try.ntmps43
      go_wp2_with (first | ((with_reducible refine gate_dst (N := 3) rfl ?_); refine box_event ?hg (N := 3) ?hd (cs := #[.int .i64 a0_0, .int .i64 a0_1, .int .i64 a0_2]) (t := 26) ?hr ?_; (case hd => rfl); (case hg => rfl); (case hr => first | (go_simp; done) | (go_simp; rfl)); intro gb101 hg w19 hbox hb; have n0_ := Aside0.mk (below_step (hB0 HB.out) hb); have n1_ := Aside0.mk (hbox); have n2_ := Aside0.mk ((by rw [hg]; exact (below_size (hB0 HB.out)) : w.heap.size ≤ gb101)); have n3_ := Aside0.mk ((by rw [hg]; exact (below_size (hB0 HB.out)) : w.heap.size ≤ gb101)); clear HB; have HB := n0_; have BK101 := n1_; have GW101 := n2_; have GE101 := n3_; clear n0_ n1_ n2_ n3_; clear hb hbox hg) | ((with_reducible refine gate_dst (N := 4) rfl ?_); refine box_event ?hg (N := 4) ?hd (cs := #[.slice A1_0 l1_0.length c1_0]) (t := 39) ?hr ?_; (case hd => rfl); (case hg => rfl); (case hr => first | (go_simp; done) | (go_simp; rfl)); intro gb102 hg w20 hbox hb; have n0_ := Aside0.mk (blk_below (g := gb101) (bK BK101.out) hb); have n1_ := Aside0.mk (below_step (hB1 HB.out GE101.out) hb); have n2_ := Aside0.mk (hbox); have n3_ := Aside0.mk ((by rw [hg]; exact (below_size (hB1 HB.out GE101.out)) : w.heap.size ≤ gb102)); have n4_ := Aside0.mk ((by rw [hg]; exact (below_size (hB1 HB.out GE101.out)) : w.heap.size ≤ gb102)); have n5_ := Aside0.mk ((by rw [hg]; exact Nat.ne_of_lt (blk_lt (g := gb101) (bK BK101.out)) : gb101 ≠ gb102)); have n6_ := Aside0.mk ((by rw [hg]; exact Nat.ne_of_gt (blk_lt (g := gb101) (bK BK101.out)) : gb102 ≠ gb101)); clear BK101 HB; have BK101 := n0_; have HB := n1_; have BK102 := n2_; have GW102 := n3_; have GE102 := n4_; have NB101_102 := n5_; have NB102_101 := n6_; clear n0_ n1_ n2_ n3_ n4_ n5_ n6_; clear hb hbox hg; have hnb21 := NB101_102.out; have hnc21 := NB102_101.out; obtain ⟨hcz22_0, hcz22_1, hcz22_2, hfz22_0, hfz22_1, hfz22_2⟩ := cz3 BK101.out; obtain ⟨hcz23_0, hfz23_0⟩ := cz1 BK102.out; have p103 : 0 ≤ ((ji9) : Int) := oD; have q103 : (ji9) < (l1_0.length : Int) := oD; obtain ⟨ad103, A103_0, c103_0, e103, hx103_0, hl103_0, hi103_0⟩ := at_L2 HR1_0.out (ji9) p103 q103; cases e103; replace hx103_0 := (HB.out.cell (World.block_lt_of_cell? w _ hx103_0)).trans hx103_0; have HR103_0 := Aside0.mk hi103_0; have HC103_0 := Aside0.mk hl103_0; clear hi103_0 hl103_0; replace p103 := eq_true p103; replace q103 := eq_true q103) | (go_at_call 76; (with_reducible refine (timeboundref24_Place.calls k _ _ (rd_L2 l1_0 (ji9)) a2 t104 _ ?side1 ?side2 A12.out).mono ?_); (case side1 => repeat (first | exact (Kd.C_below HR103_0.out HB.out) | (with_reducible refine Kd.C_alloc ?_ _) | (with_reducible refine Kd.C_drewN ?_ _) | (with_reducible refine Kd.C_drew ?_))); (case side2 => exact HC103_0.out); rintro e w' ⟨rfl, ⟨nd, rfl⟩⟩; (try first | exact ⟨rfl, _, World.drewN_drewN _ _ _⟩ | exact ⟨rfl, _, Eq.trans (World.drewN_drewN _ _ _) (congrArg (World.drewN _) (Nat.add_assoc _ _ _))⟩)))
      repeat (go_quiet (first | ((with_reducible refine gate_dst (N := 3) rfl ?_); refine box_event ?hg (N := 3) ?hd (cs := #[.int .i64 a0_0, .int .i64 a0_1, .int .i64 a0_2]) (t := 26) ?hr ?_; (case hd => rfl); (case hg => rfl); (case hr => first | (go_simp; done) | (go_simp; rfl)); intro gb101 hg w19 hbox hb; have n0_ := Aside0.mk (below_step (hB0 HB.out) hb); have n1_ := Aside0.mk (hbox); have n2_ := Aside0.mk ((by rw [hg]; exact (below_size (hB0 HB.out)) : w.heap.size ≤ gb101)); have n3_ := Aside0.mk ((by rw [hg]; exact (below_size (hB0 HB.out)) : w.heap.size ≤ gb101)); clear HB; have HB := n0_; have BK101 := n1_; have GW101 := n2_; have GE101 := n3_; clear n0_ n1_ n2_ n3_; clear hb hbox hg) | ((with_reducible refine gate_dst (N := 4) rfl ?_); refine box_event ?hg (N := 4) ?hd (cs := #[.slice A1_0 l1_0.length c1_0]) (t := 39) ?hr ?_; (case hd => rfl); (case hg => rfl); (case hr => first | (go_simp; done) | (go_simp; rfl)); intro gb102 hg w20 hbox hb; have n0_ := Aside0.mk (blk_below (g := gb101) (bK BK101.out) hb); have n1_ := Aside0.mk (below_step (hB1 HB.out GE101.out) hb); have n2_ := Aside0.mk (hbox); have n3_ := Aside0.mk ((by rw [hg]; exact (below_size (hB1 HB.out GE101.out)) : w.heap.size ≤ gb102)); have n4_ := Aside0.mk ((by rw [hg]; exact (below_size (hB1 HB.out GE101.out)) : w.heap.size ≤ gb102)); have n5_ := Aside0.mk ((by rw [hg]; exact Nat.ne_of_lt (blk_lt (g := gb101) (bK BK101.out)) : gb101 ≠ gb102)); have n6_ := Aside0.mk ((by rw [hg]; exact Nat.ne_of_gt (blk_lt (g := gb101) (bK BK101.out)) : gb102 ≠ gb101)); clear BK101 HB; have BK101 := n0_; have HB := n1_; have BK102 := n2_; have GW102 := n3_; have GE102 := n4_; have NB101_102 := n5_; have NB102_101 := n6_; clear n0_ n1_ n2_ n3_ n4_ n5_ n6_; clear hb hbox hg; have hnb21 := NB101_102.out; have hnc21 := NB102_101.out; obtain ⟨hcz22_0, hcz22_1, hcz22_2, hfz22_0, hfz22_1, hfz22_2⟩ := cz3 BK101.out; obtain ⟨hcz23_0, hfz23_0⟩ := cz1 BK102.out; have p103 : 0 ≤ ((ji9) : Int) := oD; have q103 : (ji9) < (l1_0.length : Int) := oD; obtain ⟨ad103, A103_0, c103_0, e103, hx103_0, hl103_0, hi103_0⟩ := at_L2 HR1_0.out (ji9) p103 q103; cases e103; replace hx103_0 := (HB.out.cell (World.block_lt_of_cell? w _ hx103_0)).trans hx103_0; have HR103_0 := Aside0.mk hi103_0; have HC103_0 := Aside0.mk hl103_0; clear hi103_0 hl103_0; replace p103 := eq_true p103; replace q103 := eq_true q103) | (go_at_call 76; (with_reducible refine (timeboundref24_Place.calls k _ _ (rd_L2 l1_0 (ji9)) a2 t104 _ ?side1 ?side2 A12.out).mono ?_); (case side1 => repeat (first | exact (Kd.C_below HR103_0.out HB.out) | (with_reducible refine Kd.C_alloc ?_ _) | (with_reducible refine Kd.C_drewN ?_ _) | (with_reducible refine Kd.C_drew ?_))); (case side2 => exact HC103_0.out); rintro e w' ⟨rfl, ⟨nd, rfl⟩⟩; (try first | exact ⟨rfl, _, World.drewN_drewN _ _ _⟩ | exact ⟨rfl, _, Eq.trans (World.drewN_drewN _ _ _) (congrArg (World.drewN _) (Nat.add_assoc _ _ _))⟩))); try go_wp2_with (first | ((with_reducible refine gate_dst (N := 3) rfl ?_); refine box_event ?hg (N := 3) ?hd (cs := #[.int .i64 a0_0, .int .i64 a0_1, .int .i64 a0_2]) (t := 26) ?hr ?_; (case hd => rfl); (case hg => rfl); (case hr => first | (go_simp; done) | (go_simp; rfl)); intro gb101 hg w19 hbox hb; have n0_ := Aside0.mk (below_step (hB0 HB.out) hb); have n1_ := Aside0.mk (hbox); have n2_ := Aside0.mk ((by rw [hg]; exact (below_size (hB0 HB.out)) : w.heap.size ≤ gb101)); have n3_ := Aside0.mk ((by rw [hg]; exact (below_size (hB0 HB.out)) : w.heap.size ≤ gb101)); clear HB; have HB := n0_; have BK101 := n1_; have GW101 := n2_; have GE101 := n3_; clear n0_ n1_ n2_ n3_; clear hb hbox hg) | ((with_reducible refine gate_dst (N := 4) rfl ?_); refine box_event ?hg (N := 4) ?hd (cs := #[.slice A1_0 l1_0.length c1_0]) (t := 39) ?hr ?_; (case hd => rfl); (case hg => rfl); (case hr => first | (go_simp; done) | (go_simp; rfl)); intro gb102 hg w20 hbox hb; have n0_ := Aside0.mk (blk_below (g := gb101) (bK BK101.out) hb); have n1_ := Aside0.mk (below_step (hB1 HB.out GE101.out) hb); have n2_ := Aside0.mk (hbox); have n3_ := Aside0.mk ((by rw [hg]; exact (below_size (hB1 HB.out GE101.out)) : w.heap.size ≤ gb102)); have n4_ := Aside0.mk ((by rw [hg]; exact (below_size (hB1 HB.out GE101.out)) : w.heap.size ≤ gb102)); have n5_ := Aside0.mk ((by rw [hg]; exact Nat.ne_of_lt (blk_lt (g := gb101) (bK BK101.out)) : gb101 ≠ gb102)); have n6_ := Aside0.mk ((by rw [hg]; exact Nat.ne_of_gt (blk_lt (g := gb101) (bK BK101.out)) : gb102 ≠ gb101)); clear BK101 HB; have BK101 := n0_; have HB := n1_; have BK102 := n2_; have GW102 := n3_; have GE102 := n4_; have NB101_102 := n5_; have NB102_101 := n6_; clear n0_ n1_ n2_ n3_ n4_ n5_ n6_; clear hb hbox hg; have hnb21 := NB101_102.out; have hnc21 := NB102_101.out; obtain ⟨hcz22_0, hcz22_1, hcz22_2, hfz22_0, hfz22_1, hfz22_2⟩ := cz3 BK101.out; obtain ⟨hcz23_0, hfz23_0⟩ := cz1 BK102.out; have p103 : 0 ≤ ((ji9) : Int) := oD; have q103 : (ji9) < (l1_0.length : Int) := oD; obtain ⟨ad103, A103_0, c103_0, e103, hx103_0, hl103_0, hi103_0⟩ := at_L2 HR1_0.out (ji9) p103 q103; cases e103; replace hx103_0 := (HB.out.cell (World.block_lt_of_cell? w _ hx103_0)).trans hx103_0; have HR103_0 := Aside0.mk hi103_0; have HC103_0 := Aside0.mk hl103_0; clear hi103_0 hl103_0; replace p103 := eq_true p103; replace q103 := eq_true q103) | (go_at_call 76; (with_reducible refine (timeboundref24_Place.calls k _ _ (rd_L2 l1_0 (ji9)) a2 t104 _ ?side1 ?side2 A12.out).mono ?_); (case side1 => repeat (first | exact (Kd.C_below HR103_0.out HB.out) | (with_reducible refine Kd.C_alloc ?_ _) | (with_reducible refine Kd.C_drewN ?_ _) | (with_reducible refine Kd.C_drew ?_))); (case side2 => exact HC103_0.out); rintro e w' ⟨rfl, ⟨nd, rfl⟩⟩; (try first | exact ⟨rfl, _, World.drewN_drewN _ _ _⟩ | exact ⟨rfl, _, Eq.trans (World.drewN_drewN _ _ _) (congrArg (World.drewN _) (Nat.add_assoc _ _ _))⟩))))
      go_ret
      exact ⟨by first | rfl | (simp [errW_none, errW_some] <;> rfl) | (simp only [← hji9]; first | rfl | (simp [errW_none, errW_some] <;> rfl)) | (simp [*, errW_none, errW_some] <;> rfl), hB2 HB.out GE101.out GE102.out⟩
    ·rw [if_neg c11] at H
     exact absurd H (by simp)
   ·rw [if_neg c10] at H
    exact absurd H (by simp)
end Go.Proofs.Ytkgocbmnjlfkoaa.X
end
section
namespace Go.Proofs.Ytkgocbmnjlfkoaa.M
open Go.RowKit Go.Proofs.Ytkgocbmnjlfkoaa.X Go.Proofs.YtkgocbmnjlfkoaaW.PrintWords Go.Proofs.YtkgocbmnjlfkoaaW.PrintLast Go.Proofs.YtkgocbmnjlfkoaaW.PrintMore
set_option linter.unusedVariables false
set_option linter.unusedSimpArgs false
theorem wnext (i : Nat) (h : i < 1152921504606846976) : wrap64 ((i : Int) + 1) = ((i + 1 : Nat) : Int) := by rw [w64 (by omega) (by omega)]; omega
theorem place_l1 (s : List (List Int)) (x : Int) (i : Nat) (row : List Int) (hr : row.length < 1099511627776) (r : Int) (h1 : x ∈ row → r = i) (h2 : x ∉ row → Ev (fun k => timeboundref24_Place.l0 k x s s.length (wrap64 ((i : Int) + 1))) r) :
    ∀ d j : Nat, row.length - j = d → j ≤ row.length → (∀ m (hm : m < row.length), m < j → row[m] ≠ x) → Ev (fun k => timeboundref24_Place.l1 k x i s s.length i row row.length j) r := by
  intro d
  induction d with
  | zero =>
    intro j hd hj hn
    refine Ev.step (fun k => by rw [timeboundref24_Place.l1]) (evn (by omega) (h2 fun hx => ?_))
    obtain ⟨m, hm, e⟩ := List.getElem_of_mem hx
    exact hn m hm (by omega) e
  | succ d ih =>
    intro j hd hj hn
    refine Ev.step (fun k => by rw [timeboundref24_Place.l1]) (evp (by omega) (evp (by omega) (evp (by omega) ?_)))
    rw [rd_lt (show j < row.length by omega)]
    by_cases he : row[j] = x
    · refine evp he ?_
      rw [h1 (he ▸ List.getElem_mem _)]
      exact evr _
    · refine evn he ?_
      rw [wnext j (by omega)]
      refine ih (j + 1) (by omega) (by omega) (fun m hm hmj => ?_)
      by_cases e : m = j
      · subst e; exact he
      · exact hn m hm (by omega)
theorem place_ (s : List (List Int)) (x : Int) (hs : s.length < 1099511627776) (hr : ∀ l ∈ s, l.length < 1099511627776) : Ev (fun k => timeboundref24_Place.f k s x) (find s x) := by
  have key : ∀ d i : Nat, s.length - i = d → i ≤ s.length → (∀ j (hj : j < s.length), j < i → x ∉ s[j]) → Ev (fun k => timeboundref24_Place.l0 k x s s.length i) (find s x) := by
    intro d
    induction d with
    | zero =>
      intro i hd hi hn
      rw [find_none (i := i) (by omega) hn]
      exact Ev.step (fun k => by rw [timeboundref24_Place.l0]) (evn (by omega) (evr _))
    | succ d ih =>
      intro i hd hi hn
      have hlt : i < s.length := by omega
      refine Ev.step (fun k => by rw [timeboundref24_Place.l0]) (evp (by omega) (evp (by omega) (evp (by omega) ?_)))
      rw [rdL1 hlt]
      refine place_l1 s x i s[i] (hr _ (List.getElem_mem _)) _ (fun hx => find_here hlt hn hx) (fun hx => ?_) _ 0 rfl (Nat.zero_le _) (fun m _ hm => absurd hm (Nat.not_lt_zero m))
      rw [wnext i (by omega)]
      exact ih (i + 1) (by omega) (by omega) (find_next hlt hn hx)
  exact key _ 0 rfl (Nat.zero_le _) (fun j _ hj => absurd hj (Nat.not_lt_zero j))
theorem rplace_calls (A : Option Addr) (c : Nat) (s : List (List Int)) (x : Int) (w : World) (hr : C2 w A s) (hc : s.length ≤ c) (hs : s.length < 1099511627776) (hl : ∀ l ∈ s, l.length < 1099511627776) :
    Calls Try.prog 76 #[.slice A s.length c, .int .i64 x] w fun e w' => e = .returned (.int .i64 (find s x)) ∧ Drawn0 w w' := by
  obtain ⟨k, hk⟩ := (place_ s x hs hl).rounds
  exact timeboundref24_Place.calls k A c s x _ w hr hc hk
theorem insAt_next {l : List Int} {i : Nat} {x : Int} (hi : i < l.length) (h : l[i] = x) : insAt l i x = insAt l (i + 1) x := by
  unfold insAt
  rw [List.take_succ_eq_append_getElem hi, List.drop_eq_getElem_cons hi, h]
  simp
theorem ins_at {l : List Int} {x : Int} (h : Asc l) : ∀ d i : Nat, i - pos l x = d → pos l x ≤ i → i ≤ l.length → (∀ m (hm : m < l.length), m < i → l[m] ≤ x) → insAt l i x = ins l x := by
  intro d
  induction d with
  | zero =>
    intro i hd h1 h2 _
    rw [show i = pos l x by omega]
    rfl
  | succ d ih =>
    intro i hd h1 h2 h3
    obtain ⟨j, rfl⟩ : ∃ j, i = j + 1 := ⟨i - 1, by omega⟩
    have h4 := h3 j (by omega) (by omega)
    have h5 := mt (pos_lt (x := x) h (show j < l.length by omega)).1 (by omega)
    have h6 : l[j]'(by omega) = x := by omega
    rw [← insAt_next (show j < l.length by omega) h6]
    exact ih j (by omega) (by omega) (by omega) (fun m hm hmj => h3 m hm (by omega))
theorem rput_ (l : List Int) (x : Int) (h : Asc l) (hl : l.length < 1099511627776) : Ev (fun k => timeboundref24_Put.f k l x) (ins l x) := by
  have hpos := pos_le l x
  have tail : ∀ d i : Nat, ∀ acc : List Int, l.length - i = d → i ≤ l.length → acc.length = i + 1 → Ev (fun k => timeboundref24_Put.l0 k x acc true l l.length i) (acc ++ l.drop i) := by
    intro d
    induction d with
    | zero =>
      intro i acc hd hi ha
      rw [List.drop_eq_nil_of_le (by omega), List.append_nil]
      exact Ev.step (fun k => by rw [timeboundref24_Put.l0]) (evn (by omega) (evp rfl (evr _)))
    | succ d ih =>
      intro i acc hd hi ha
      have hlt : i < l.length := by omega
      refine Ev.step (fun k => by rw [timeboundref24_Put.l0]) (evp (by omega) (evp (by omega) (evp (by omega) (evp rfl (evp (by omega) ?_)))))
      rw [wnext i (by omega), rd_lt hlt, List.drop_eq_getElem_cons hlt]
      have := ih (i + 1) (acc ++ [l[i]]) (by omega) (by omega) (by simp; omega)
      rwa [List.append_assoc, List.singleton_append] at this
  have key : ∀ d i : Nat, l.length - i = d → i ≤ l.length → (∀ m (hm : m < l.length), m < i → l[m] ≤ x) → Ev (fun k => timeboundref24_Put.l0 k x (l.take i) false l l.length i) (ins l x) := by
    intro d
    induction d with
    | zero =>
      intro i hd hi hn
      obtain rfl : i = l.length := by omega
      have hp : pos l x ≤ l.length := hpos
      rw [← ins_at h _ l.length rfl hp (Nat.le_refl _) hn]
      refine Ev.step (fun k => by rw [timeboundref24_Put.l0]) (evn (by omega) (evn (by simp) (evp (by simp; omega) ?_)))
      simp only [insAt, List.take_length, List.drop_length]
      exact evr _
    | succ d ih =>
      intro i hd hi hn
      have hlt : i < l.length := by omega
      have htl : (l.take i).length = i := by rw [List.length_take]; omega
      refine Ev.step (fun k => by rw [timeboundref24_Put.l0]) (evp (by omega) (evp (by omega) (evp (by omega) (evn (by simp) ?_))))
      rw [rd_lt hlt]
      by_cases hx : x < l[i]
      · refine evp hx (evp (by omega) (evs (evp (by rw [List.length_append, htl]; simp; omega) ?_)))
        rw [wnext i (by omega)]
        have hpi : pos l x ≤ i := by
          have := mt (pos_lt (x := x) h hlt).2 (by omega)
          omega
        rw [← ins_at h _ i rfl hpi hi hn]
        have := tail _ (i + 1) (l.take i ++ [x] ++ [l[i]]) rfl (by omega) (by simp; omega)
        unfold insAt
        rw [List.drop_eq_getElem_cons hlt]
        have e : l.take i ++ [x] ++ [l[i]] ++ l.drop (i + 1) = l.take i ++ x :: l[i] :: l.drop (i + 1) := by simp
        rw [← e]
        exact this
      · refine evn hx (evp (by omega) ?_)
        rw [wnext i (by omega), ← List.take_succ_eq_append_getElem hlt]
        refine ih (i + 1) (by omega) (by omega) (fun m hm hmi => ?_)
        by_cases e : m = i
        · subst e; omega
        · exact hn m hm (by omega)
  exact key _ 0 rfl (Nat.zero_le _) (fun m _ hm => absurd hm (Nat.not_lt_zero m))
theorem rput_calls (A : Option Addr) (c : Nat) (l : List Int) (x : Int) (w : World) (hr : C1 w A l) (hc : l.length ≤ c) (h : Asc l) (hl : l.length < 1099511627776) : Calls Try.prog 77 #[.slice A l.length c, .int .i64 x] w (New1 w (ins l x)) := by
  obtain ⟨k, hk⟩ := (rput_ l x h hl).rounds
  exact (timeboundref24_Put.calls k A c l x _ w hr hc hk).mono fun e w' ⟨v, h1, h2, h3⟩ => ⟨v, h1, T1.ofR h2, h3⟩
theorem rage_calls {S W L : Nat} (h : CacheOk S W L) (A : Option Addr) (c : Nat) (x : List (List (List Int))) (n : Nat) (w : World) (hx : Fit S W x) (hr : C3 w A x) (hc : x.length ≤ c) :
    Calls Try.prog 43 #[.agg #[.int .i64 S, .int .i64 W, .int .i64 L], .agg #[.slice A x.length c], .int .i64 n] w fun e w' => e = .returned (.int .i64 (ageM S W x n)) ∧ Below w.heap.size w w' := by
  have hS := h.s8
  have hE : Ev (fun k => timeboundref24_Age.f k S W L x n) (ageM S W x n : Int) := by
    unfold timeboundref24_Age.f ageM
    by_cases hs : S = 0
    · subst hs
      rw [if_pos rfl]
      exact evp rfl (evr _)
    · have hns : n % S < x.length := by rw [hx.len]; exact Nat.mod_lt _ (Nat.pos_of_ne_zero hs)
      have hm : Int.tmod (n : Int) (S : Int) = ((n % S : Nat) : Int) := rfl
      obtain ⟨hlw, hgd⟩ := hx.at_ hns
      have hW := h.w4
      rw [if_neg hs]
      refine evn (by omega) ?_
      rw [hm]
      refine evp (by omega) (evp (by omega) ?_)
      rw [rdL2 hns, getD_lt hns]
      refine evb (place_ x[n % S] n (by omega) (fun l hl => by have := (hgd l hl).2; omega)) ?_
      rcases find_age (s := x[n % S]) (x := n) with ⟨h1, h2⟩ | ⟨h1, h2⟩
      · refine evn (by omega) ?_
        rw [h2, hlw]
        exact evr _
      · refine evp (by omega) ?_
        rw [h1]
        exact evr _
  obtain ⟨k, hk⟩ := hE.rounds
  exact timeboundref24_Age.calls k S W L A c x n _ w hr hc hk
end Go.Proofs.Ytkgocbmnjlfkoaa.M
end
section
namespace Go.Proofs.Ytkgocbmnjlfkoaa.M
open Go.RowKit Go.Proofs.Ytkgocbmnjlfkoaa.X Go.Proofs.YtkgocbmnjlfkoaaW.PrintWords Go.Proofs.YtkgocbmnjlfkoaaW.PrintLast Go.Proofs.YtkgocbmnjlfkoaaW.PrintMore
set_option linter.unusedVariables false
set_option linter.unusedSimpArgs false
theorem Use0.store {W0 wr w2 : World} {g n cap b : Nat} {ys : List (List Int)} (h : Use0 W0 wr (.slice (some ⟨g, 0, none⟩) n cap) ys) (hb : b < ys.length) (hw : Below wr.heap.size wr w2) {u : Value} {l : List Int} (hu : T1 w2 wr.heap.size u l) : Use0 W0 (w2.setCell ⟨g, b, none⟩ u) (.slice (some ⟨g, 0, none⟩) n cap) (ys.set b l) := by
  obtain ⟨vs, hT, hB⟩ := h
  have h2 := hT.keep (w' := w2) (fun k hk => hw.block k (hT.lt hk).2)
  refine ⟨vs.set b u, h2.put hb (hu.lower hB.size) (fun j hj hjb => ?_), (hB.trans (hw.mono hB.size)).setCell (hT.lt (k := g) (.inl rfl)).1 _⟩
  rcases he : u.ownBlock with _ | k
  · exact .inl rfl
  · refine .inr (fun e => ?_)
    have h4 := (hT.lt (.inr ⟨j, hj, e.symm⟩)).2
    have := (hu.lt he).1
    omega
theorem Use0.cell {W0 wr : World} {g n cap b : Nat} {ys : List (List Int)} (h : Use0 W0 wr (.slice (some ⟨g, 0, none⟩) n cap) ys) (hb : b < ys.length) : (∃ A c, wr.cell? ⟨g, b, none⟩ = some (.slice A (ys.getD b []).length c) ∧ (ys.getD b []).length ≤ c ∧ C1 wr A (ys.getD b [])) ∧ wr.frozen? ⟨g, b, none⟩ = false ∧ W0.heap.size ≤ g ∧ g < wr.heap.size := by
  obtain ⟨vs, hT, hB⟩ := h
  obtain ⟨h5, h6⟩ := hT.cell hb
  obtain ⟨A, c, h7, h8, h9⟩ := (hT.el b (by have := hT.len; omega)).reads
  rw [h7] at h5
  exact ⟨⟨A, c, h5, h8, h9⟩, h6, hT.lt (k := g) (.inl rfl)⟩
set_option maxHeartbeats 2000000 in
theorem rtouch_calls {S W L : Nat} (h : CacheOk S W L) (A : Option Addr) (c : Nat) (x : List (List (List Int))) (n : Nat) (w : World) (hx : Fit S W x) (hr : C3 w A x) (hc : x.length ≤ c) :
    Calls Try.prog 44 #[.agg #[.int .i64 S, .int .i64 W, .int .i64 L], .agg #[.slice A x.length c], .int .i64 n] w (New3S w (touchM S W x n)) := by
  have hW1 := h.w1; have hW4 := h.w4; have hS8 := h.s8
  have hcopy := Aside0.mk (fun W1 (hb : Below w.heap.size w W1) => rcopy_calls A c x W1 (Kd.C_below hr hb) hc (hx.short hS8 hW4))
  have hage := Aside0.mk (fun W1 (hb : Below w.heap.size w W1) => rage_calls h A c x n W1 hx (Kd.C_below hr hb) hc)
  have HB0 : Aside0 (Below w.heap.size w (((w.alloc (.cells #[.int .i64 S, .int .i64 W, .int .i64 L] 26)).alloc (.cells #[.slice A x.length c] 39)).alloc (.cells #[.slice none 0 0] 39))) := ⟨(((Below.refl _ _).alloc (Nat.le_refl _) _).alloc (by simp) _).alloc (by simp; omega) _⟩
  have HR := Aside0.mk hr
  have HX := Aside0.mk hx
  clear hr h hx
  by_cases hs : S = 0
  · subst hs
    go_enter Try.func44, Try.ntmps44
    go_wp2_with (first | (go_at_call 23; refine (hcopy.out _ HB0.out).mono ?_; rintro e w1 ⟨v1, vs1, us1, rfl, hT, hb⟩; obtain ⟨A1, c1, rfl, _, _⟩ := hT.reads; have HT1 := Aside0.mk (hT.lower (b' := w.heap.size) HB0.out.size); have HB1 := Aside0.mk (HB0.out.trans (hb.mono HB0.out.size)); obtain ⟨k1, k2, k3⟩ := three_box hb; have K1 := Aside0.mk k1; have K2 := Aside0.mk k2; have K3 := Aside0.mk k3; obtain ⟨q0, q1, q2, f0, f1, f2⟩ := cz3 k1; obtain ⟨q3, f3⟩ := cz1' k2; obtain ⟨q4, f4⟩ := cz1' k3; have z1 : w.heap.size < w1.heap.size := blk_lt k1; have z2 : w.heap.size + 1 < w1.heap.size := blk_lt k2; have z3 : w.heap.size + 1 + 1 < w1.heap.size := blk_lt k3; clear f0 f1 f2 k1 k2 k3 hb hT f3))
    refine bodyPost_ret (results_cell rfl _ _ (w.heap.size + 2) 39 #[.slice A1 x.length c1] (0, 0) _ rfl (blk_alloc (blk_put (cs := #[.slice none 0 0]) K3.out 0 _ rfl) _) Try.underlying39 rfl (by kernel_rfl)) rfl ?_
    exact ⟨_, vs1, us1, rfl, by rw [touchM, if_pos rfl]; exact (HT1.out.setFar K3.out (by decide) _).below ((Below.refl _ _).alloc (Nat.le_refl _) _), (HB1.out.setCell (by show w.heap.size ≤ w.heap.size + 1 + 1; omega) _).alloc (by rw [size_setCell]; exact HB1.out.size) _⟩
  · have hns : n % S < x.length := by rw [HX.out.len]; exact Nat.mod_lt _ (Nat.pos_of_ne_zero hs)
    obtain ⟨ad, A0, c0, rfl, hcell0, hc0, hl0⟩ := C3.get HR.out hns
    obtain ⟨hlw, hgd⟩ := HX.out.at_ hns
    have hTM : touchM S W x n = x.set (n % S) (useF (fun a => decide (a < ageM S W x n)) x[n % S] n) := by rw [touchM, if_neg hs, getD_lt hns]
    have HTM := Aside0.mk hTM
    have HL := Aside0.mk hl0
    have HG := Aside0.mk hgd
    have hg0 : ((S : Int) == 0) = false := beq_eq_false_iff_ne.2 (by omega)
    have hg1 : (n : Int) % (S : Int) = ((n % S : Nat) : Int) := (Int.natCast_emod n S).symm
    have hxl : x.length < 9223372036854775807 := by rw [HX.out.len]; omega
    have HX2 := Aside0.mk (show x.length = S from HX.out.len)
    clear hl0 hgd hTM HX
    have hlw' := Aside0.mk hlw
    rw [hlw] at hcell0 hc0
    generalize hr1 : x[n % S] = r at *
    generalize n % S = s at *
    have HC0 := Aside0.mk hcell0
    clear hcell0 hr1
    have hmk := print_make_of (P := Try.prog) 43 22 (.slice none 0 0) 24 Try.underlying43 info22 rfl (by omega) W (by omega)
    go_enter Try.func44, Try.ntmps44
    go_wp2_with (first | (go_at_call 23; refine (hcopy.out _ HB0.out).mono ?_; rintro e w1 ⟨v1, vs1, us1, rfl, hT, hb⟩; obtain ⟨A1, c1, rfl, _, _⟩ := hT.reads; have HT1 := Aside0.mk (hT.lower (b' := w.heap.size) HB0.out.size); have HB1 := Aside0.mk (HB0.out.trans (hb.mono HB0.out.size)); obtain ⟨k1, k2, k3⟩ := three_box hb; have K1 := Aside0.mk k1; have K2 := Aside0.mk k2; have K3 := Aside0.mk k3; obtain ⟨q0, q1, q2, f0, f1, f2⟩ := cz3 k1; obtain ⟨q3, f3⟩ := cz1' k2; obtain ⟨q4, f4⟩ := cz1' k3; have z1 : w.heap.size < w1.heap.size := blk_lt k1; have z2 : w.heap.size + 1 < w1.heap.size := blk_lt k2; have z3 : w.heap.size + 1 + 1 < w1.heap.size := blk_lt k3; clear f0 f1 f2 k1 k2 k3 hb hT f3) | (go_at_call 43; refine (hage.out _ (HB1.out.alloc HB1.out.size _)).mono ?_; rintro e w3 ⟨rfl, hb⟩; have HB3 := Aside0.mk ((HB1.out.alloc HB1.out.size (.cells #[.slice A1 x.length c1] 39)).trans (hb.mono (HB1.out.alloc HB1.out.size _).size)); have K1c := Aside0.mk ((hb.block _ (blk_lt (blk_alloc K1.out _))).trans (blk_alloc K1.out _)); have K2c := Aside0.mk ((hb.block _ (blk_lt (blk_alloc K2.out _))).trans (blk_alloc K2.out _)); have K3c := Aside0.mk ((hb.block _ (blk_lt (blk_alloc K3.out _))).trans (blk_alloc K3.out _)); have K4c := Aside0.mk (box_after hb); have HT3 := Aside0.mk ((HT1.out.below ((Below.refl _ _).alloc (Nat.le_refl _) (.cells #[.slice A1 x.length c1] 39))).below hb); clear hb q0 q1 q2 q3 q4 f4 z1 z2 z3; obtain ⟨q0, q1, q2, f0, f1, f2⟩ := cz3 K1c.out; obtain ⟨q3, f3⟩ := cz1' K2c.out; clear f0 f1 f2 f3; obtain ⟨q4, f4⟩ := cz1' (blk_alloc K2c.out (.cells (madeCells #[.slice none 0 0] W) 22)); have hcs : (w3.alloc (.cells (madeCells #[.slice none 0 0] W) 22)).cell? (ad.add s) = some (.slice A0 W c0) := pw_cell_below (HB3.out.alloc HB3.out.size _) HC0.out; clear f4))
    have HU0 : Aside0 (Use0 w3 (w3.alloc (.cells (madeCells #[.slice none 0 0] W) 22)) (.slice (some ⟨w3.heap.size, 0, none⟩) W W) (outN (fun a => decide (a < ageM S W x n)) n r 0)) := ⟨by
      rw [outN, hlw'.out]
      exact ⟨_, T2.made w3 _ W (Nat.le_refl _) (by omega), (Below.refl _ _).alloc (Nat.le_refl _) _⟩⟩
    clear hcopy hage K1 K2 K3 HT1 HB1 HB0 hmk q4 hcs q0 q1 q2 q3
    generalize ageM S W x n = ag at *
    go_loopw [41] (fun v41 wr => ∃ i : Nat, i ≤ W ∧ v41 = .int .i64 i ∧ Aside0 (Use0 w3 wr (.slice (some ⟨w3.heap.size, 0, none⟩) W W) (outN (fun a => decide (a < ag)) n r i))) (fun v41 _ => W - (RowKit.intOf v41).toNat)
    case atStart => exact ⟨0, Nat.zero_le _, rfl, HU0⟩
    case round =>
      clear HU0
      obtain ⟨i, hi, rfl, HU⟩ := hrel
      by_cases hlt : i < W
      · obtain ⟨hbw, hb3⟩ : Below w.heap.size w wr ∧ Below w3.heap.size w3 wr := by
          obtain ⟨vs, hT, hB⟩ := HU.out
          exact ⟨HB3.out.trans (hB.mono HB3.out.size), hB⟩
        obtain ⟨ad1, A1', c1', rfl, hcell1w, hc1, hl1⟩ := C2.get HL.out (show i < r.length by omega)
        have hcell1 := pw_cell_below hbw hcell1w
        have hli : r[i]'(by omega) = r.getD i [] := (getD_lt (by omega)).symm
        have HN : Aside0 (outN (fun a => decide (a < ag)) n r (i + 1) = mv (fun a => decide (a < ag)) n i ((r[i]'(by omega)).take (r[i]'(by omega)).length) (outN (fun a => decide (a < ag)) n r i)) := ⟨by rw [outN, List.take_length, hli]⟩
        have hll : (r[i]'(by omega)).length < 1073741825 := by have := (HG.out _ (List.getElem_mem (show i < r.length by omega))).2; omega
        have HU1 : Aside0 (Use0 w3 wr (.slice (some ⟨w3.heap.size, 0, none⟩) W W) (mv (fun a => decide (a < ag)) n i ((r[i]'(by omega)).take 0) (outN (fun a => decide (a < ag)) n r i))) := ⟨HU.out⟩
        have HOL : Aside0 ((outN (fun a => decide (a < ag)) n r i).length = W) := ⟨by rw [outN_length, hlw'.out]⟩
        have HGo : Aside0 (Good (outN (fun a => decide (a < ag)) n r i) 4294967296) := ⟨(outN_good _ _ _ _).mono (by have := cnt_le HG.out i; have h4 : i * 1073741824 ≤ 4 * 1073741824 := Nat.mul_le_mul_right _ (by omega); omega)⟩
        have HL1 : Aside0 (C1 w A1' (r[i]'(by omega))) := ⟨hl1⟩
        clear hli hl1 HU hbw hb3 hcell1w
        generalize r[i]'(by omega) = l at *
        generalize outN (fun a => decide (a < ag)) n r i = o at *
        obtain ⟨wo, rfl⟩ : ∃ wo : World, wo = wr := ⟨_, rfl⟩
        go_wp2
        go_loopw [48] (fun v48 wi => ∃ k : Nat, k ≤ l.length ∧ v48 = .int .i64 k ∧ Aside0 (Use0 w3 wi (.slice (some ⟨w3.heap.size, 0, none⟩) W W) (mv (fun a => decide (a < ag)) n i (l.take k) o))) (fun v48 _ => l.length - (RowKit.intOf v48).toNat)
        case atStart => exact ⟨0, Nat.zero_le _, rfl, HU1⟩
        case round =>
          clear HU1 hcell1
          obtain ⟨k, hk, rfl, HU⟩ := hrel
          by_cases hkl : k < l.length
          · obtain ⟨hbw, hb3⟩ : Below w.heap.size w wr ∧ Below w3.heap.size w3 wr := by
              obtain ⟨vs, hT, hB⟩ := HU.out
              exact ⟨HB3.out.trans (hB.mono HB3.out.size), hB⟩
            obtain ⟨ad2, rfl, hcell2⟩ := C1.get (Kd.C_below HL1.out hbw) hkl
            obtain ⟨q0, q1, q2, f0, f1, f2⟩ := cz3 ((hb3.block _ (blk_lt K1c.out)).trans K1c.out)
            have hmt := mv_take (fun a => decide (a < ag)) n i l o hkl
            have hol : (mv (fun a => decide (a < ag)) n i (l.take k) o).length = W := by rw [mv_length, HOL.out]
            clear hbw hb3 f0 f1 f2
            by_cases hyx : l[k] = (n : Int)
            · have HM : Aside0 (mv (fun a => decide (a < ag)) n i (l.take (k + 1)) o = mv (fun a => decide (a < ag)) n i (l.take k) o) := ⟨by rw [hmt, mv1, if_pos hyx]⟩
              have g1 : (l[k] != (n : Int)) = false := bne_eq_false_iff_eq.2 hyx
              clear hmt hyx hol
              generalize l[k] = y at *
              by_cases hP : i < ag
              · have g2 : decide ((i : Int) < (ag : Int)) = true := decide_eq_true (by omega)
                have g3 : decide (i < ag) = true := decide_eq_true hP
                go_wp2
                go_roundw
                case rel => exact ⟨k + 1, hkl, by go_num, ⟨by rw [HM.out]; exact HU.out⟩⟩
                case measure => simp [RowKit.intOf]; omega
              · have g2 : decide ((i : Int) < (ag : Int)) = false := decide_eq_false (by omega)
                have g3 : decide (i < ag) = false := decide_eq_false hP
                go_wp2
                go_roundw
                case rel => exact ⟨k + 1, hkl, by go_num, ⟨by rw [HM.out]; exact HU.out⟩⟩
                case measure => simp [RowKit.intOf]; omega
            · have g1 : (l[k] != (n : Int)) = true := bne_iff_ne.2 hyx
              by_cases hP : i < ag
              · have g2 : decide ((i : Int) < (ag : Int)) = true := decide_eq_true (by omega)
                have g3 : decide (i < ag) = true := decide_eq_true hP
                by_cases hbW : i + 1 < W
                · have g4 : decide ((i : Int) + 1 < (W : Int)) = true := decide_eq_true (by omega)
                  have g5 : decide (i + 1 < W) = true := decide_eq_true hbW
                  have hbl : i + 1 < (mv (fun a => decide (a < ag)) n i (l.take k) o).length := by rw [hol]; exact hbW
                  obtain ⟨⟨A4, c4, hcu, hc4, hl4⟩, hfu, hgw1, hgw2⟩ := HU.out.cell hbl
                  have hgd := (HGo.out.mv (fun a => decide (a < ag)) n i (l.take k)).at_ (i + 1)
                  have hlk : (l.take k).length ≤ l.length := by rw [List.length_take]; omega
                  have hput := Aside0.mk (rput_calls A4 c4 _ l[k] wr hl4 hc4 hgd.1 (by omega))
                  have HM : Aside0 (mv (fun a => decide (a < ag)) n i (l.take (k + 1)) o = (mv (fun a => decide (a < ag)) n i (l.take k) o).set (i + 1) (ins ((mv (fun a => decide (a < ag)) n i (l.take k) o).getD (i + 1) []) l[k])) := ⟨by rw [hmt, mv1, if_neg hyx, if_pos g3, putAt, if_pos hbl]⟩
                  clear hmt hgd hlk hl4 hc4 hol hyx
                  generalize l[k] = y at *
                  generalize hmm : (mv (fun a => decide (a < ag)) n i (l.take k) o).getD (i + 1) [] = row at *
                  have HMM := Aside0.mk hmm
                  clear hmm
                  go_wp2_with (first | (go_at_call 77; refine (hput.out).mono ?_; rintro e w5 ⟨v5, rfl, hT5, hb5⟩; obtain ⟨A5, c5, rfl, _, _⟩ := hT5.reads; have hcu2 := pw_cell_below hb5 hcu; have hfu2 := frozen_below hb5 hcu hfu; have HST := Aside0.mk (Use0.store HU.out hbl hb5 hT5); clear hT5 hb5 hcu hfu))
                  have HN2 : Aside0 (Use0 w3 (w5.setCell ⟨w3.heap.size, i + 1, none⟩ (.slice A5 (ins row y).length c5)) (.slice (some ⟨w3.heap.size, 0, none⟩) W W) (mv (fun a => decide (a < ag)) n i (l.take (k + 1)) o)) := ⟨by rw [HM.out]; exact HST.out⟩
                  go_roundw
                  case rel => exact ⟨k + 1, hkl, by go_num, HN2⟩
                  case measure => simp [RowKit.intOf]; omega
                · have g4 : decide ((i : Int) + 1 < (W : Int)) = false := decide_eq_false (by omega)
                  have g5 : decide (i + 1 < W) = false := decide_eq_false hbW
                  have HM : Aside0 (mv (fun a => decide (a < ag)) n i (l.take (k + 1)) o = (mv (fun a => decide (a < ag)) n i (l.take k) o)) := ⟨by rw [hmt, mv1, if_neg hyx, if_pos g3, putAt, if_neg (by rw [hol]; exact hbW)]⟩
                  clear hmt hyx hol
                  generalize l[k] = y at *
                  go_wp2
                  go_roundw
                  case rel => exact ⟨k + 1, hkl, by go_num, ⟨by rw [HM.out]; exact HU.out⟩⟩
                  case measure => simp [RowKit.intOf]; omega
              · have g2 : decide ((i : Int) < (ag : Int)) = false := decide_eq_false (by omega)
                have g3 : decide (i < ag) = false := decide_eq_false hP
                have g4 : decide ((i : Int) < (W : Int)) = true := decide_eq_true (by omega)
                have g5 : decide (i < W) = true := decide_eq_true hlt
                have hbl : i < (mv (fun a => decide (a < ag)) n i (l.take k) o).length := by rw [hol]; exact hlt
                obtain ⟨⟨A4, c4, hcu, hc4, hl4⟩, hfu, hgw1, hgw2⟩ := HU.out.cell hbl
                have hgd := (HGo.out.mv (fun a => decide (a < ag)) n i (l.take k)).at_ (i)
                have hlk : (l.take k).length ≤ l.length := by rw [List.length_take]; omega
                have hput := Aside0.mk (rput_calls A4 c4 _ l[k] wr hl4 hc4 hgd.1 (by omega))
                have HM : Aside0 (mv (fun a => decide (a < ag)) n i (l.take (k + 1)) o = (mv (fun a => decide (a < ag)) n i (l.take k) o).set (i) (ins ((mv (fun a => decide (a < ag)) n i (l.take k) o).getD (i) []) l[k])) := ⟨by rw [hmt, mv1, if_neg hyx, if_neg (by simp [g3]), putAt, if_pos hbl]⟩
                clear hmt hgd hlk hl4 hc4 hol hyx
                generalize l[k] = y at *
                generalize hmm : (mv (fun a => decide (a < ag)) n i (l.take k) o).getD (i) [] = row at *
                have HMM := Aside0.mk hmm
                clear hmm
                go_wp2_with (first | (go_at_call 77; refine (hput.out).mono ?_; rintro e w5 ⟨v5, rfl, hT5, hb5⟩; obtain ⟨A5, c5, rfl, _, _⟩ := hT5.reads; have hcu2 := pw_cell_below hb5 hcu; have hfu2 := frozen_below hb5 hcu hfu; have HST := Aside0.mk (Use0.store HU.out hbl hb5 hT5); clear hT5 hb5 hcu hfu))
                have HN2 : Aside0 (Use0 w3 (w5.setCell ⟨w3.heap.size, i, none⟩ (.slice A5 (ins row y).length c5)) (.slice (some ⟨w3.heap.size, 0, none⟩) W W) (mv (fun a => decide (a < ag)) n i (l.take (k + 1)) o)) := ⟨by rw [HM.out]; exact HST.out⟩
                go_roundw
                case rel => exact ⟨k + 1, hkl, by go_num, HN2⟩
                case measure => simp [RowKit.intOf]; omega
          · obtain rfl : k = l.length := by omega
            have HU3 : Aside0 (Use0 w3 wr (.slice (some ⟨w3.heap.size, 0, none⟩) W W) (outN (fun a => decide (a < ag)) n r (i + 1))) := ⟨by rw [HN.out]; exact HU.out⟩
            clear HU
            go_wp2
            go_roundw
            case rel => exact ⟨i + 1, hlt, by go_num, HU3⟩
            case measure => simp [RowKit.intOf]; omega
      · obtain rfl : i = W := by omega
        have hol : (outN (fun a => decide (a < ag)) n r i).length = i := by rw [outN_length, hlw'.out]
        have hbl : 0 < (outN (fun a => decide (a < ag)) n r i).length := by rw [hol]; omega
        obtain ⟨⟨A4, c4, hcu, hc4, hl4⟩, hfu, hgw1, hgw2⟩ := HU.out.cell hbl
        have hgd := (outN_good (fun a => decide (a < ag)) n r i).at_ 0
        have hcn := cnt_le HG.out i
        have h4 : i * 1073741824 ≤ 4 * 1073741824 := Nat.mul_le_mul_right _ hW4
        have hput := Aside0.mk (rput_calls A4 c4 _ (n : Int) wr hl4 hc4 hgd.1 (by omega))
        obtain ⟨g1, hg1⟩ : ∃ g1, A1 = some ⟨g1, 0, none⟩ := by
          rcases HT3.out.open_ with ⟨_, _, h0⟩ | ⟨g1, cap, cur, h1, _⟩
          · rw [h0] at hns
            exact absurd hns (Nat.not_lt_zero _)
          · injection h1 with h1
            exact ⟨g1, h1⟩
        subst hg1
        have HRES : Aside0 (useF (fun a => decide (a < ag)) r n = (outN (fun a => decide (a < ag)) n r i).set 0 (ins ((outN (fun a => decide (a < ag)) n r i).getD 0 []) n)) := ⟨by rw [useF, hlw'.out, putAt, if_pos hbl]⟩
        have HF : Aside0 (∀ w5 u, Below wr.heap.size wr w5 → T1 w5 wr.heap.size u (ins ((outN (fun a => decide (a < ag)) n r i).getD 0 []) n) → (w5.setCell ⟨w3.heap.size, 0, none⟩ u).cell? ⟨w1.heap.size, 0, none⟩ = some (.slice (some ⟨g1, 0, none⟩) x.length c1) ∧ (∃ v0 A m c, (w5.setCell ⟨w3.heap.size, 0, none⟩ u).cell? ⟨g1, s, none⟩ = some v0 ∧ v0 = .slice A m c) ∧ (w5.setCell ⟨w3.heap.size, 0, none⟩ u).frozen? ⟨g1, s, none⟩ = false ∧ g1 ≠ w1.heap.size ∧ ((w5.setCell ⟨w3.heap.size, 0, none⟩ u).setCell ⟨g1, s, none⟩ (.slice (some ⟨w3.heap.size, 0, none⟩) i i)).heap[w.heap.size + 2]? = some (.cells #[.slice none 0 0] 39 (0, 0)) ∧ Und3 w ((w5.setCell ⟨w3.heap.size, 0, none⟩ u).setCell ⟨g1, s, none⟩ (.slice (some ⟨w3.heap.size, 0, none⟩) i i)) (.slice (some ⟨g1, 0, none⟩) x.length c1) (x.set s (useF (fun a => decide (a < ag)) r n))) := ⟨fun w5 u hb5 hT5 => by
          have hst := Use0.store HU.out hbl hb5 hT5
          rw [← HRES.out] at hst
          obtain ⟨vs5, hT6, hB6⟩ := hst
          have hU3 : Und3 w w3 (.slice (some ⟨g1, 0, none⟩) x.length c1) x := ⟨_, _, HT3.out, HB3.out⟩
          have hT3' := HT3.out.below hB6
          have hU5 : Und3 w (w5.setCell ⟨w3.heap.size, 0, none⟩ u) (.slice (some ⟨g1, 0, none⟩) x.length c1) x := ⟨_, _, hT3', HB3.out.trans (hB6.mono HB3.out.size)⟩
          obtain ⟨⟨v0, A9, m9, c9, h7, h8⟩, h9⟩ := hU5.cell hns
          have hK3 := (hB6.block _ (blk_lt K3c.out)).trans K3c.out
          refine ⟨pw_cell_below hB6 (cz1' K4c.out).1, ⟨v0, A9, m9, c9, h7, h8⟩, h9, (hU3.ne K4c.out (by decide)).symm, blk_farm hK3 (hU5.ne hK3 (by decide)), hU3.put hns hB6 hT6⟩⟩
        clear hl4 hc4 hgd hcn h4 HRES HT3 hbl hol
        generalize hrow : (outN (fun a => decide (a < ag)) n r i).getD 0 [] = row at *
        generalize useF (fun a => decide (a < ag)) r n = res at *
        clear hrow
        go_wp2_with (first | (go_at_call 77; refine (hput.out).mono ?_; rintro e w5 ⟨v5, rfl, hT5, hb5⟩; obtain ⟨A5, c5, rfl, _, _⟩ := hT5.reads; have hcu2 := pw_cell_below hb5 hcu; have hfu2 := frozen_below hb5 hcu hfu; obtain ⟨e1, ⟨v0, A9, m9, c9, e2, rfl⟩, e3, e4, e5, e6⟩ := HF.out _ _ hb5 hT5; have E5 := Aside0.mk e5; have E6 := Aside0.mk e6; obtain ⟨e8, e9⟩ := cz1' e5; have e7 := (cell_far (W := w5.setCell ⟨w3.heap.size, 0, none⟩ (.slice A5 (ins row n).length c5)) (show (⟨w1.heap.size, 0, none⟩ : Addr).block ≠ (⟨g1, s, none⟩ : Addr).block from Ne.symm e4) (.slice (some ⟨w3.heap.size, 0, none⟩) i i)).trans e1; clear e5 e6 hT5 hb5 hcu hfu))
        refine bodyPost_ret (results_cell rfl _ _ (w.heap.size + 2) 39 #[.slice (some ⟨g1, 0, none⟩) x.length c1] (0, 0) _ rfl (blk_put (cs := #[.slice none 0 0]) E5.out 0 _ rfl) Try.underlying39 rfl (by kernel_rfl)) rfl ?_
        obtain ⟨vs2, us2, hT, hB⟩ := E6.out
        exact ⟨_, vs2, us2, rfl, by rw [HTM.out]; exact hT.setFar E5.out (by decide) _, hB.setCell (by show w.heap.size ≤ w.heap.size + 1 + 1; omega) _⟩
end Go.Proofs.Ytkgocbmnjlfkoaa.M
end
section
namespace Go.Proofs.Ytkgocbmnjlfkoaa.M
open Go.RowKit Go.Proofs.Ytkgocbmnjlfkoaa.X Go.Proofs.YtkgocbmnjlfkoaaW.PrintWords Go.Proofs.YtkgocbmnjlfkoaaW.PrintLast Go.Proofs.YtkgocbmnjlfkoaaW.PrintMore
set_option linter.unusedVariables false
set_option linter.unusedSimpArgs false
def jn1 (sb : List (List Int)) (i : Nat) (o : List (List Int)) (y : Int) : List (List Int) := if age sb y < sb.length then putAt o (max i (age sb y)) y else o
def jn (sb : List (List Int)) (i : Nat) (l : List Int) (o : List (List Int)) : List (List Int) := l.foldl (jn1 sb i) o
def jnN (W : Nat) (sa sb : List (List Int)) : Nat → List (List Int)
  | 0 => List.replicate W []
  | i + 1 => jn sb i (sa.getD i []) (jnN W sa sb i)
def joinS (W : Nat) (sa sb : List (List Int)) : List (List Int) := jnN W sa sb sa.length
def joinN (S W : Nat) (a b : List (List (List Int))) (s : Nat) : List (List (List Int)) := (List.range S).map fun t => if t < s then joinS W (a.getD t []) (b.getD t []) else List.replicate W []
def joinM (S W : Nat) (a b : List (List (List Int))) : List (List (List Int)) := joinN S W a b S
theorem jn1_length (sb : List (List Int)) (i : Nat) (o : List (List Int)) (y : Int) : (jn1 sb i o y).length = o.length := by
  unfold jn1
  split
  · exact putAt_length _ _ _
  · rfl
theorem jn_length (sb : List (List Int)) (i : Nat) (l : List Int) : ∀ o, (jn sb i l o).length = o.length := by
  unfold jn
  induction l with
  | nil => intro o; rfl
  | cons y l ih => intro o; rw [List.foldl_cons, ih, jn1_length]
theorem jn_take (sb : List (List Int)) (i : Nat) (l : List Int) (o : List (List Int)) {k : Nat} (hk : k < l.length) : jn sb i (l.take (k + 1)) o = jn1 sb i (jn sb i (l.take k) o) l[k] := by
  unfold jn
  rw [List.take_succ_eq_append_getElem hk, List.foldl_append, List.foldl_cons, List.foldl_nil]
theorem Good.jn {o : List (List Int)} {N : Nat} (h : Good o N) (sb : List (List Int)) (i : Nat) (l : List Int) : Good (jn sb i l o) (N + l.length) := by
  unfold M.jn
  induction l generalizing o N with
  | nil => exact h
  | cons y l ih =>
    rw [List.foldl_cons, List.length_cons, show N + (l.length + 1) = (N + 1) + l.length by omega]
    refine ih ?_
    unfold M.jn1
    split
    · exact h.putAt _ _
    · exact h.mono (Nat.le_succ _)
theorem jnN_length (W : Nat) (sa sb : List (List Int)) (i : Nat) : (jnN W sa sb i).length = W := by
  induction i with
  | zero => simp [jnN]
  | succ i ih => rw [jnN, jn_length, ih]
theorem jnN_good (W : Nat) (sa sb : List (List Int)) (i : Nat) : Good (jnN W sa sb i) (cnt sa i) := by
  induction i with
  | zero =>
    intro l hl
    rw [jnN] at hl
    rw [(List.mem_replicate.1 hl).2]
    exact ⟨List.Pairwise.nil, Nat.zero_le _⟩
  | succ i ih => exact ih.jn sb i _
theorem joinN_length (S W : Nat) (a b : List (List (List Int))) (s : Nat) : (joinN S W a b s).length = S := by simp [joinN]
theorem joinN_zero (S W : Nat) (a b : List (List (List Int))) : joinN S W a b 0 = top S W := by
  unfold joinN top
  apply List.ext_getElem
  · simp
  · intro i h1 h2
    simp
theorem joinN_at {S W : Nat} (a b : List (List (List Int))) {s : Nat} (h : s < S) : (joinN S W a b s).getD s [] = List.replicate W [] := by
  rw [getD_lt (by rw [joinN_length]; exact h)]
  simp [joinN]
theorem joinN_set {S W : Nat} (a b : List (List (List Int))) {s : Nat} (h : s < S) : (joinN S W a b s).set s (joinS W (a.getD s []) (b.getD s [])) = joinN S W a b (s + 1) := by
  apply List.ext_getElem
  · simp [joinN]
  · intro i h1 h2
    rw [List.getElem_set]
    have hi : i < S := by rw [joinN_length] at h2; exact h2
    by_cases e : s = i
    · subst e
      simp [joinN]
    · rw [if_neg e]
      simp only [joinN, List.getElem_map, List.getElem_range]
      by_cases h3 : i < s
      · rw [if_pos h3, if_pos (by omega)]
      · rw [if_neg h3, if_neg (by omega)]
structure Jn (w wr : World) (v : Value) (X : List (List (List Int))) (L : List (Nat × Array Value × Nat)) : Prop where
  und : Und3 w wr v X
  box : ∀ p ∈ L, wr.heap[p.1]? = some (.cells p.2.1 p.2.2 (0, 0)) ∧ (p.2.2 ≠ 43 ∧ p.2.2 ≠ 22 ∧ p.2.2 ≠ 3)
section
variable {w wr w2 : World} {v : Value} {X : List (List (List Int))} {L : List (Nat × Array Value × Nat)} {g n cap i gs m c a : Nat}
theorem Jn.at_ (h : Jn w wr v X L) (k : Nat) (cs : Array Value) (t : Nat) (hm : (k, cs, t) ∈ L) : wr.heap[k]? = some (.cells cs t (0, 0)) := (h.box _ hm).1
theorem Jn.head (h : Jn w wr (.slice (some ⟨g, 0, none⟩) n cap) X L) (hi : i < X.length) (hp : 0 < (X.getD i []).length) :
    ∃ gs c, wr.cell? ⟨g, i, none⟩ = some (.slice (some ⟨gs, 0, none⟩) (X.getD i []).length c) ∧ gs ≠ g ∧ (∀ p ∈ L, gs ≠ p.1) ∧ (∀ p ∈ L, g ≠ p.1) := by
  obtain ⟨vs, uss, hT, hB⟩ := h.und
  obtain ⟨h5, h6⟩ := hT.cell hi
  rcases (hT.el i hi).open_ with ⟨_, _, h2⟩ | ⟨gs, cap2, cur, h1, h2, h3, h4, _⟩
  · rw [h2] at hp
    exact absurd hp (Nat.lt_irrefl _)
  · rw [h1] at h5
    refine ⟨gs, cap2, h5, fun e => hT.ne hi (k := gs) (.inl (by rw [h1]; rfl)) (by rw [e]; rfl), fun p hp2 e => ?_, fun p hp2 e => ?_⟩
    · obtain ⟨k1, k2⟩ := h.box p hp2
      rw [← e, h3] at k1
      injection k1 with k1
      injection k1 with _ k1
      exact k2.2.1 k1.symm
    · obtain ⟨k1, k2⟩ := h.box p hp2
      exact own_blk_ne hT.own k1 (Ne.symm k2.1) (by rw [← e]; rfl)
theorem Jn.putRow (h : Jn w wr (.slice (some ⟨g, 0, none⟩) n cap) X L) (hi : i < X.length) (hcell : wr.cell? ⟨g, i, none⟩ = some (.slice (some ⟨gs, 0, none⟩) m c)) (ha : a < (X.getD i []).length) (hgs : ∀ p ∈ L, gs ≠ p.1) (hb : Below wr.heap.size wr w2) {u : Value} {ys : List Int} (hu : T1 w2 wr.heap.size u ys) :
    Jn w (w2.setCell ⟨gs, a, none⟩ u) (.slice (some ⟨g, 0, none⟩) n cap) (X.set i ((X.getD i []).set a ys)) L :=
  ⟨h.und.putRow hi hcell ha hb hu, fun p hp => ⟨blk_farm ((hb.block _ (blk_lt (h.box p hp).1)).trans (h.box p hp).1) (Ne.symm (hgs p hp)), (h.box p hp).2⟩⟩
theorem Jn.below (h : Jn w wr v X L) (hb : Below wr.heap.size wr w2) : Jn w w2 v X L := by
  obtain ⟨vs, uss, hT, hB⟩ := h.und
  exact ⟨⟨vs, uss, hT.below hb, hB.trans (hb.mono hB.size)⟩, fun p hp => ⟨(hb.block _ (blk_lt (h.box p hp).1)).trans (h.box p hp).1, (h.box p hp).2⟩⟩
theorem Jn.bel (h : Jn w wr v X L) : Below w.heap.size w wr := by
  obtain ⟨vs, uss, hT, hB⟩ := h.und
  exact hB
end
end Go.Proofs.Ytkgocbmnjlfkoaa.M
end
section
namespace Go.Proofs.Ytkgocbmnjlfkoaa.M
open Go.RowKit Go.Proofs.Ytkgocbmnjlfkoaa.X Go.Proofs.YtkgocbmnjlfkoaaW.PrintWords Go.Proofs.YtkgocbmnjlfkoaaW.PrintLast Go.Proofs.YtkgocbmnjlfkoaaW.PrintMore
set_option linter.unusedVariables false
set_option linter.unusedSimpArgs false
attribute [local go_sem] max2_int min2_int max_two min_two max_three min_three
theorem four_box {w w1 : World} {o1 o2 o3 o4 : Obj} (hb : Below ((((w.alloc o1).alloc o2).alloc o3).alloc o4).heap.size ((((w.alloc o1).alloc o2).alloc o3).alloc o4) w1) : w1.heap[w.heap.size]? = some o1 ∧ w1.heap[w.heap.size + 1]? = some o2 ∧ w1.heap[w.heap.size + 2]? = some o3 ∧ w1.heap[w.heap.size + 3]? = some o4 := by
  obtain ⟨h1, h2, h3⟩ := three_box (w := w) (o1 := o1) (o2 := o2) (o3 := o3) (Below.refl _ (((w.alloc o1).alloc o2).alloc o3))
  have e3 : (((w.alloc o1).alloc o2).alloc o3).heap.size = w.heap.size + 3 := by rw [World.size_alloc, World.size_alloc, World.size_alloc]
  have e4 : ((((w.alloc o1).alloc o2).alloc o3).alloc o4).heap.size = w.heap.size + 4 := by rw [World.size_alloc, e3]
  have hk : ∀ k, k < w.heap.size + 3 → w1.heap[k]? = (((w.alloc o1).alloc o2).alloc o3).heap[k]? := fun k hk => (hb.block _ (by omega)).trans (Below.heap_alloc _ _ _ (by omega))
  refine ⟨(hk _ (by omega)).trans h1, (hk _ (by omega)).trans h2, (hk _ (by omega)).trans h3, (hb.block _ (by omega)).trans ?_⟩
  rw [← e3]
  exact heap_new _ _
theorem four_below (w : World) (o1 o2 o3 o4 : Obj) : Below w.heap.size w ((((w.alloc o1).alloc o2).alloc o3).alloc o4) :=
  ((((Below.refl _ _).alloc (Nat.le_refl _) _).alloc (by simp) _).alloc (by simp; omega) _).alloc (by simp; omega) _
theorem join_start {w w1 : World} {v va vb c0 c1 c2 : Value} {vs : List Value} {us : List (List Value)} {x : List (List (List Int))}
    (hb : Below ((((w.alloc (.cells #[c0, c1, c2] 26)).alloc (.cells #[va] 39)).alloc (.cells #[vb] 39)).alloc (.cells #[.slice none 0 0] 39)).heap.size ((((w.alloc (.cells #[c0, c1, c2] 26)).alloc (.cells #[va] 39)).alloc (.cells #[vb] 39)).alloc (.cells #[.slice none 0 0] 39)) w1)
    (hT : T3 w1 ((((w.alloc (.cells #[c0, c1, c2] 26)).alloc (.cells #[va] 39)).alloc (.cells #[vb] 39)).alloc (.cells #[.slice none 0 0] 39)).heap.size v vs us x) :
    Jn w (w1.alloc (.cells #[v] 39)) v x [(w.heap.size, #[c0, c1, c2], 26), (w.heap.size + 1, #[va], 39), (w.heap.size + 2, #[vb], 39), (w.heap.size + 3, #[.slice none 0 0], 39), (w1.heap.size, #[v], 39)] := by
  obtain ⟨k1, k2, k3, k4⟩ := four_box hb
  have h0 := four_below w (.cells #[c0, c1, c2] 26) (.cells #[va] 39) (.cells #[vb] 39) (.cells #[.slice none 0 0] 39)
  have h1 := h0.trans (hb.mono h0.size)
  refine ⟨⟨_, _, (hT.lower h0.size).below ((Below.refl _ _).alloc (Nat.le_refl _) _), h1.alloc h1.size _⟩, fun p hp => ?_⟩
  simp only [List.mem_cons, List.not_mem_nil, or_false] at hp
  rcases hp with rfl | rfl | rfl | rfl | rfl
  · exact ⟨blk_alloc k1 _, (by decide : (26 : Nat) ≠ 43 ∧ (26 : Nat) ≠ 22 ∧ (26 : Nat) ≠ 3)⟩
  · exact ⟨blk_alloc k2 _, (by decide : (39 : Nat) ≠ 43 ∧ (39 : Nat) ≠ 22 ∧ (39 : Nat) ≠ 3)⟩
  · exact ⟨blk_alloc k3 _, (by decide : (39 : Nat) ≠ 43 ∧ (39 : Nat) ≠ 22 ∧ (39 : Nat) ≠ 3)⟩
  · exact ⟨blk_alloc k4 _, (by decide : (39 : Nat) ≠ 43 ∧ (39 : Nat) ≠ 22 ∧ (39 : Nat) ≠ 3)⟩
  · exact ⟨heap_new w1 _, (by decide : (39 : Nat) ≠ 43 ∧ (39 : Nat) ≠ 22 ∧ (39 : Nat) ≠ 3)⟩
set_option maxHeartbeats 4000000 in
theorem rjoin_calls {S W L : Nat} (h : CacheOk S W L) (A B : Option Addr) (c c' : Nat) (a b : List (List (List Int))) (w : World) (ha : Fit S W a) (hb : Fit S W b) (hra : C3 w A a) (hca : a.length ≤ c) (hrb : C3 w B b) (hcb : b.length ≤ c') :
    Calls Try.prog 31 #[.agg #[.int .i64 S, .int .i64 W, .int .i64 L], .agg #[.slice A a.length c], .agg #[.slice B b.length c']] w (New3S w (joinM S W a b)) := by
  have hW1 := h.w1; have hW4 := h.w4; have hS8 := h.s8
  have htop := Aside0.mk (rtop_calls h ((((w.alloc (.cells #[.int .i64 S, .int .i64 W, .int .i64 L] 26)).alloc (.cells #[.slice A a.length c] 39)).alloc (.cells #[.slice B b.length c'] 39)).alloc (.cells #[.slice none 0 0] 39)))
  have HB0 := Aside0.mk (four_below w (.cells #[.int .i64 S, .int .i64 W, .int .i64 L] 26) (.cells #[.slice A a.length c] 39) (.cells #[.slice B b.length c'] 39) (.cells #[.slice none 0 0] 39))
  have HA := Aside0.mk hra
  have HBb := Aside0.mk hrb
  have HFA := Aside0.mk ha
  have HFB := Aside0.mk hb
  have hal := Aside0.mk ha.len
  have hbl := Aside0.mk hb.len
  have hal9 : a.length < 9 := by rw [ha.len]; omega
  have hbl9 : b.length < 9 := by rw [hb.len]; omega
  clear hra hrb ha hb h
  go_enter Try.func31, Try.ntmps31
  go_wp2_with (first | (go_at_call 47; refine htop.out.mono ?_; rintro e w1 ⟨v1, vs1, us1, rfl, hT, hb⟩; obtain ⟨A1, c1, rfl, _, _⟩ := hT.reads; have HJ := Aside0.mk (join_start hb hT); obtain ⟨k1, k2, k3, k4⟩ := four_box hb; obtain ⟨q2, f2⟩ := cz1' (blk_alloc k2 (.cells #[.slice A1 (top S W).length c1] 39)); clear k1 k2 k3 k4 hb hT f2))
  obtain ⟨LL, hLL⟩ : ∃ LL : List (Nat × Array Value × Nat), LL = [(w.heap.size, #[.int .i64 S, .int .i64 W, .int .i64 L], 26), (w.heap.size + 1, #[.slice A a.length c], 39), (w.heap.size + 2, #[.slice B b.length c'], 39), (w.heap.size + 3, #[.slice none 0 0], 39), (w1.heap.size, #[.slice A1 (top S W).length c1], 39)] := ⟨_, rfl⟩
  rw [← hLL] at HJ
  have M2 := Aside0.mk (show (w.heap.size + 1, #[Value.slice A a.length c], 39) ∈ LL by rw [hLL]; simp)
  have M3 := Aside0.mk (show (w.heap.size + 2, #[Value.slice B b.length c'], 39) ∈ LL by rw [hLL]; simp)
  have M4 := Aside0.mk (show (w.heap.size + 3, #[Value.slice none 0 0], 39) ∈ LL by rw [hLL]; simp)
  have M5 := Aside0.mk (show (w1.heap.size, #[Value.slice A1 (top S W).length c1], 39) ∈ LL by rw [hLL]; simp)
  have HTL := Aside0.mk (show (top S W).length = S by simp [top])
  clear hLL q2 htop
  generalize w1.heap.size = bo at *
  generalize (top S W).length = tl at *
  rw [← joinN_zero S W a b] at HJ
  go_loopw [20] (fun v20 wr => ∃ s : Nat, s ≤ a.length ∧ v20 = .int .i64 s ∧ Aside0 (Jn w wr (.slice A1 tl c1) (joinN S W a b s) LL)) (fun v20 _ => a.length - (RowKit.intOf v20).toNat)
  case atStart => exact ⟨0, Nat.zero_le _, rfl, HJ⟩
  case round =>
    clear HJ
    obtain ⟨s, hs, rfl, HJ⟩ := hrel
    by_cases hlt : s < a.length
    · have hsS : s < S := by rw [← hal.out]; exact hlt
      obtain ⟨ad, A0, c0, rfl, hcell0, hc0, hl0⟩ := C3.get HA.out hlt
      obtain ⟨bd, B0, d0, rfl, hcellb, hd0, hlb⟩ := C3.get HBb.out (show s < b.length by rw [hbl.out]; exact hsS)
      obtain ⟨hlw, hgd⟩ := HFA.out.at_ hlt
      obtain ⟨hlwb, hgdb⟩ := HFB.out.at_ (show s < b.length by rw [hbl.out]; exact hsS)
      have hbw := HJ.out.bel
      obtain ⟨q2, f2⟩ := cz1' (HJ.out.at_ _ _ _ M2.out)
      have hcell := pw_cell_below hbw hcell0
      have HCB := Aside0.mk hcellb
      have HLa := Aside0.mk hl0
      have HLb := Aside0.mk hlb
      have HGa := Aside0.mk hgd
      have HGb := Aside0.mk hgdb
      have HNs : Aside0 ((joinN S W a b s).set s (joinS W a[s] (b[s]'(by rw [hbl.out]; exact hsS))) = joinN S W a b (s + 1)) := ⟨by have := joinN_set a b hsS (W := W); rwa [getD_lt hlt, getD_lt (show s < b.length by rw [hbl.out]; exact hsS)] at this⟩
      have HJ1 : Aside0 (Jn w wr (.slice A1 tl c1) ((joinN S W a b s).set s (jnN W a[s] (b[s]'(by rw [hbl.out]; exact hsS)) 0)) LL) := ⟨by
        have e : (joinN S W a b s).set s (jnN W a[s] (b[s]'(by rw [hbl.out]; exact hsS)) 0) = joinN S W a b s := by
          have h1 := joinN_at (W := W) a b hsS
          rw [jnN, ← h1, getD_lt (by rw [joinN_length]; exact hsS)]
          exact List.set_getElem_self _
        rw [e]
        exact HJ.out⟩
      have HJl : Aside0 ((joinN S W a b s).length = S) := ⟨joinN_length S W a b s⟩
      obtain ⟨g1, hg1⟩ : ∃ g1, A1 = some ⟨g1, 0, none⟩ := by
        obtain ⟨vs, uss, hT, hB⟩ := HJ.out.und
        rcases hT.open_ with ⟨_, _, h0⟩ | ⟨g1, cap, cur, h1, _⟩
        · have := congrArg List.length h0
          rw [joinN_length] at this
          simp at this
          omega
        · injection h1 with h1
          exact ⟨g1, h1⟩
      subst hg1
      have hsb : s < b.length := by rw [hbl.out]; exact hsS
      have hstl : s < tl := by rw [HTL.out]; exact hsS
      have HWa := Aside0.mk hlw
      have HWb := Aside0.mk hlwb
      have hra9 : a[s].length < 5 := by omega
      clear hl0 hlb hgd hgdb hbw hcellb hcell0 HJ f2 hlw hlwb
      generalize a[s] = ra at *
      generalize b[s]'(by rw [hbl.out]; exact hsS) = rb at *
      generalize joinN S W a b s = J at *
      obtain ⟨wo, rfl⟩ : ∃ wo : World, wo = wr := ⟨_, rfl⟩
      go_wp2
      go_loopw [29] (fun v29 wr => ∃ i : Nat, i ≤ ra.length ∧ v29 = .int .i64 i ∧ Aside0 (Jn w wr (.slice (some ⟨g1, 0, none⟩) tl c1) (J.set s (jnN W ra rb i)) LL)) (fun v29 _ => ra.length - (RowKit.intOf v29).toNat)
      case atStart => exact ⟨0, Nat.zero_le _, rfl, HJ1⟩
      case round =>
        clear HJ1 hcell q2
        obtain ⟨i, hi, rfl, HJ⟩ := hrel
        by_cases hil : i < ra.length
        · obtain ⟨ad1, A1, c2, rfl, hcell1w, hc1, hl1⟩ := C2.get HLa.out hil
          have hcell1 := pw_cell_below HJ.out.bel hcell1w
          have hli : ra.getD i [] = ra[i] := getD_lt hil
          have HN : Aside0 (jnN W ra rb (i + 1) = jn rb i (ra[i].take ra[i].length) (jnN W ra rb i)) := ⟨by rw [jnN, List.take_length, hli]⟩
          have hll : ra[i].length < 1073741825 := by have := (HGa.out _ (List.getElem_mem hil)).2; omega
          have HJ1 : Aside0 (Jn w wr (.slice (some ⟨g1, 0, none⟩) tl c1) (J.set s (jn rb i (ra[i].take 0) (jnN W ra rb i))) LL) := ⟨HJ.out⟩
          have HOL : Aside0 ((jnN W ra rb i).length = W) := ⟨jnN_length _ _ _ _⟩
          have HGo : Aside0 (Good (jnN W ra rb i) 4294967296) := ⟨(jnN_good _ _ _ _).mono (by have := cnt_le HGa.out i; have h4 : i * 1073741824 ≤ 4 * 1073741824 := Nat.mul_le_mul_right _ (by omega); omega)⟩
          have HL1 := Aside0.mk hl1
          clear hli hl1 HJ hcell1w
          generalize ra[i] = l at *
          generalize jnN W ra rb i = o at *
          obtain ⟨wo2, rfl⟩ : ∃ wo2 : World, wo2 = wr := ⟨_, rfl⟩
          go_wp2
          go_loopw [36] (fun v36 wr => ∃ k : Nat, k ≤ l.length ∧ v36 = .int .i64 k ∧ Aside0 (Jn w wr (.slice (some ⟨g1, 0, none⟩) tl c1) (J.set s (jn rb i (l.take k) o)) LL)) (fun v36 _ => l.length - (RowKit.intOf v36).toNat)
          case atStart => exact ⟨0, Nat.zero_le _, rfl, HJ1⟩
          case round =>
            clear HJ1 hcell1
            obtain ⟨k, hk, rfl, HJ⟩ := hrel
            by_cases hkl : k < l.length
            · have hbw := HJ.out.bel
              obtain ⟨ad2, rfl, hcell2⟩ := C1.get (Kd.C_below HL1.out hbw) hkl
              obtain ⟨q3, f3⟩ := cz1' (HJ.out.at_ _ _ _ M3.out)
              have hcb := pw_cell_below hbw HCB.out
              have hpl := Aside0.mk (rplace_calls B0 d0 rb l[k] wr (Kd.C_below HLb.out hbw) hd0 (by rw [HWb.out]; omega) (fun l' hl' => by have := (HGb.out l' hl').2; omega))
              have hmt := jn_take rb i l o hkl
              have hol : (jn rb i (l.take k) o).length = W := by rw [jn_length, HOL.out]
              have hfa := find_age (s := rb) (x := l[k])
              clear hbw f3
              rcases hfa with ⟨hf1, hf2⟩ | ⟨hf1, hf2⟩
              · have HM : Aside0 (jn rb i (l.take (k + 1)) o = jn rb i (l.take k) o) := ⟨by rw [hmt, jn1, if_neg (by omega)]⟩
                have g1' : decide ((0 : Int) ≤ find rb l[k]) = false := decide_eq_false (by omega)
                clear hmt hol hf1 hf2
                generalize find rb l[k] = f at *
                generalize l[k] = y at *
                go_wp2_with (first | (go_at_call 76; refine hpl.out.mono ?_; rintro e w5 ⟨rfl, q, rfl⟩))
                go_roundw
                case rel => exact ⟨k + 1, hkl, by go_num, ⟨by rw [HM.out]; exact HJ.out.below (pw_below_drewN (Below.refl _ _) q)⟩⟩
                case measure => simp [RowKit.intOf]; omega
              · have hag : age rb l[k] < rb.length := by unfold find at hf1 hf2; split at hf2 <;> omega
                have hmw : max i (age rb l[k]) < W := by rw [← HWb.out]; have := HWa.out; have := HWb.out; omega
                have hbl2 : max i (age rb l[k]) < (jn rb i (l.take k) o).length := by rw [hol]; exact hmw
                have HM : Aside0 (jn rb i (l.take (k + 1)) o = (jn rb i (l.take k) o).set (max i (age rb l[k])) (ins ((jn rb i (l.take k) o).getD (max i (age rb l[k])) []) l[k])) := ⟨by rw [hmt, jn1, if_pos hag, putAt, if_pos hbl2]⟩
                have hrow : (J.set s (jn rb i (l.take k) o)).getD s [] = jn rb i (l.take k) o := getD_set_eq _ _ _ (by rw [HJl.out]; exact hsS)
                have hsj : s < (J.set s (jn rb i (l.take k) o)).length := by rw [List.length_set, HJl.out]; exact hsS
                obtain ⟨gs, cs, hch, hgsg, hgsL, hgL⟩ := HJ.out.head hsj (by rw [hrow, hol]; omega)
                rw [hrow, hol] at hch
                obtain ⟨⟨u4, A4, m4, c4, hcu, rfl, hm4, hc4, hl4⟩, hfu⟩ := HJ.out.und.cell2 hsj hch (by rw [hrow]; exact hbl2)
                rw [hrow] at hm4 hl4
                have hgd := (HGo.out.jn rb i (l.take k)).at_ (max i (age rb l[k]))
                have hlk : (l.take k).length ≤ l.length := by rw [List.length_take]; omega
                obtain ⟨q5, f5⟩ := cz1' (HJ.out.at_ _ _ _ M5.out)
                have hn5 : gs ≠ bo := hgsL _ M5.out
                have g1' : decide ((0 : Int) ≤ find rb l[k]) = true := decide_eq_true hf2
                subst hm4
                have hput := Aside0.mk (fun q => rput_calls A4 c4 _ l[k] (wr.drewN q).drew hl4 hc4 hgd.1 (by omega))
                rw [hf1] at hpl g1'
                have hmx : (if i < age rb l[k] then ((age rb l[k] : Nat) : Int) else (i : Int)) = ((max i (age rb l[k]) : Nat) : Int) := by split <;> omega
                have HPR : Aside0 (∀ w5 u, Below wr.heap.size wr w5 → T1 w5 wr.heap.size u (ins ((jn rb i (l.take k) o).getD (max i (age rb l[k])) []) l[k]) → Jn w (w5.setCell ⟨gs, max i (age rb l[k]), none⟩ u) (.slice (some ⟨g1, 0, none⟩) tl c1) (J.set s (jn rb i (l.take (k + 1)) o)) LL) := ⟨fun w5 u hb5 hT5 => by
                  have := HJ.out.putRow hsj hch (by rw [hrow]; exact hbl2) hgsL hb5 hT5
                  rw [hrow, set_twice, ← HM.out] at this
                  exact this⟩
                clear hmt hol hf1 hf2 f5 hgd hlk hl4 hrow hbl2 hag HM
                generalize hrw : (jn rb i (l.take k) o).getD (max i (age rb l[k])) [] = row at *
                generalize max i (age rb l[k]) = mi at *
                generalize age rb l[k] = ag at *
                generalize l[k] = y at *
                clear hrw
                go_upto_region 14 with (first | (go_at_call 76; refine hpl.out.mono ?_; rintro e w5 ⟨rfl, q, rfl⟩))
                clear q3 hcb hmx hcell2 hpl
                have HJ' := Aside0.mk (HJ.out.below (pw_below_drewN (Below.refl wr.heap.size wr) q))
                have q5' : (wr.drewN q).cell? ⟨bo, 0, none⟩ = some (.slice (some ⟨g1, 0, none⟩) tl c1) := q5
                have hch' : (wr.drewN q).cell? ⟨g1, s, none⟩ = some (.slice (some ⟨gs, 0, none⟩) W cs) := hch
                have hcu' : (wr.drewN q).cell? ⟨gs, mi, none⟩ = some (.slice A4 row.length c4) := hcu
                have hfu' : (wr.drewN q).frozen? ⟨gs, mi, none⟩ = false := hfu
                go_region_with (go_at_call 77; refine (hput.out q).mono ?_; rintro e w' ⟨v', rfl, hT1, hB1⟩; obtain ⟨Av, cv, rfl, _, _⟩ := hT1.reads; have hcu2 := pw_cell_below (w := (wr.drewN q).drew) hB1 hcu'; have hfu2 := frozen_below (w := (wr.drewN q).drew) hB1 hcu' hfu'; have hq2 := pw_cell_below (w := (wr.drewN q).drew) hB1 q5'; have hc2 := pw_cell_below (w := (wr.drewN q).drew) hB1 hch')
                all_goals
                  have HJ2 := Aside0.mk (HPR.out w' _ ⟨hB1.os, hB1.tape, hB1.output, hB1.size, hB1.block⟩ hT1)
                  clear hT1 hB1 hcu2 hfu2 hq2 hc2 hcu' hfu' q5' hch' HJ HJ' HPR q5 hch hcu hfu
                  go_wp2
                  go_roundw
                  case rel => exact ⟨k + 1, hkl, by go_num, HJ2⟩
                  case measure => simp [RowKit.intOf]; omega
            · obtain rfl : k = l.length := by omega
              have HJ3 : Aside0 (Jn w wr (.slice (some ⟨g1, 0, none⟩) tl c1) (J.set s (jnN W ra rb (i + 1))) LL) := ⟨by rw [HN.out]; exact HJ.out⟩
              clear HJ
              go_wp2
              go_roundw
              case rel => exact ⟨i + 1, hil, by go_num, HJ3⟩
              case measure => simp [RowKit.intOf]; omega
        · obtain rfl : i = ra.length := by omega
          have HJ3 : Aside0 (Jn w wr (.slice (some ⟨g1, 0, none⟩) tl c1) (joinN S W a b (s + 1)) LL) := ⟨by rw [← HNs.out]; exact HJ.out⟩
          clear HJ
          go_wp2
          go_roundw
          case rel => exact ⟨s + 1, hlt, by go_num, HJ3⟩
          case measure => simp [RowKit.intOf]; omega
    · obtain rfl : s = a.length := by omega
      obtain ⟨q4, f4⟩ := cz1' (HJ.out.at_ _ _ _ M4.out)
      obtain ⟨q5, f5⟩ := cz1' (HJ.out.at_ _ _ _ M5.out)
      clear f5
      go_wp2
      refine bodyPost_ret (results_cell rfl _ _ (w.heap.size + 3) 39 #[.slice A1 tl c1] (0, 0) _ rfl (blk_put (cs := #[.slice none 0 0]) (HJ.out.at_ _ _ _ M4.out) 0 _ rfl) Try.underlying39 rfl (by kernel_rfl)) rfl ?_
      obtain ⟨vs2, us2, hT, hB⟩ := HJ.out.und
      exact ⟨_, vs2, us2, rfl, by rw [joinM, ← hal.out]; rw [hal.out] at hT ⊢; exact hT.setFar (HJ.out.at_ _ _ _ M4.out) (by decide) _, hB.setCell (by show w.heap.size ≤ w.heap.size + 1 + 1 + 1; omega) _⟩
end Go.Proofs.Ytkgocbmnjlfkoaa.M
end
section
namespace Go.Proofs.Ytkgocbmnjlfkoaa.M
open Go.RowKit Go.Proofs.Ytkgocbmnjlfkoaa.X Go.Proofs.YtkgocbmnjlfkoaaW.PrintWords Go.Proofs.YtkgocbmnjlfkoaaW.PrintLast Go.Proofs.YtkgocbmnjlfkoaaW.PrintMore
set_option linter.unusedVariables false
set_option linter.unusedSimpArgs false
def ofR (x : List Int) (W a : Nat) : List (List Int) := (List.range W).map fun t => if t < a ∧ 0 ≤ x.getD t 0 then [x.getD t 0] else []
def ofS (W : Nat) (x : List Int) : List (List Int) := ofR x W W
def ofN (S W : Nat) (l : List (List Int)) (s : Nat) : List (List (List Int)) := (List.range S).map fun t => if t < s then ofS W (l.getD t []) else List.replicate W []
def ofM (S W : Nat) (l : List (List Int)) : List (List (List Int)) := ofN S W l S
theorem ofR_length (x : List Int) (W a : Nat) : (ofR x W a).length = W := by simp [ofR]
theorem ofR_zero (x : List Int) (W : Nat) : ofR x W 0 = List.replicate W [] := by
  apply List.ext_getElem
  · simp [ofR]
  · intro i h1 h2
    simp [ofR]
theorem ofR_yes {x : List Int} {W a : Nat} (ha : a < W) (h : 0 ≤ x.getD a 0) : (ofR x W a).set a [x.getD a 0] = ofR x W (a + 1) := by
  apply List.ext_getElem
  · simp [ofR]
  · intro i h1 h2
    rw [List.getElem_set]
    by_cases e : a = i
    · subst e
      simp [ofR]
      rw [List.getD_eq_getElem?_getD] at h
      exact h
    · rw [if_neg e]
      simp only [ofR, List.getElem_map, List.getElem_range]
      by_cases h3 : i < a
      · simp only [h3, true_and, show i < a + 1 by omega]
      · simp only [h3, false_and, show ¬ i < a + 1 by omega]
theorem ofR_no {x : List Int} {W a : Nat} (h : ¬ 0 ≤ x.getD a 0) : ofR x W a = ofR x W (a + 1) := by
  apply List.ext_getElem
  · simp [ofR]
  · intro i h1 h2
    simp only [ofR, List.getElem_map, List.getElem_range]
    by_cases e : a = i
    · subst e
      simp
      rw [List.getD_eq_getElem?_getD] at h
      omega
    · by_cases h3 : i < a
      · simp only [h3, true_and, show i < a + 1 by omega]
      · simp only [h3, false_and, show ¬ i < a + 1 by omega]
theorem ofN_length (S W : Nat) (l : List (List Int)) (s : Nat) : (ofN S W l s).length = S := by simp [ofN]
theorem ofN_zero (S W : Nat) (l : List (List Int)) : ofN S W l 0 = top S W := by
  apply List.ext_getElem
  · simp [ofN, top]
  · intro i h1 h2
    simp [ofN, top]
theorem ofN_at {S W : Nat} (l : List (List Int)) {s : Nat} (h : s < S) : (ofN S W l s).set s (ofR (l.getD s []) W 0) = ofN S W l s := by
  apply List.ext_getElem
  · simp [ofN]
  · intro i h1 h2
    rw [List.getElem_set]
    by_cases e : s = i
    · subst e
      rw [if_pos rfl, ofR_zero]
      simp [ofN]
    · rw [if_neg e]
theorem ofN_set {S W : Nat} (l : List (List Int)) {s : Nat} (h : s < S) : (ofN S W l s).set s (ofS W (l.getD s [])) = ofN S W l (s + 1) := by
  apply List.ext_getElem
  · simp [ofN]
  · intro i h1 h2
    rw [List.getElem_set]
    by_cases e : s = i
    · subst e
      simp [ofN]
    · rw [if_neg e]
      simp only [ofN, List.getElem_map, List.getElem_range]
      by_cases h3 : i < s
      · rw [if_pos h3, if_pos (by omega)]
      · rw [if_neg h3, if_neg (by omega)]
theorem T1.one (w : World) (b : Nat) (y : Int) (hb : b ≤ w.heap.size) : T1 (w.alloc (.cells #[.int .i64 y] 3)) b (.slice (some ⟨w.heap.size, 0, none⟩) 1 1) [y] :=
  T1.mk' (xs := [y]) rfl hb (heap_new w _) (Nat.le_refl _) (by unfold maxLen; omega) rfl (by simp [nums])
theorem of_start {w w1 : World} {v va c0 c1 c2 : Value} {vs : List Value} {us : List (List Value)} {x : List (List (List Int))}
    (hb : Below (((w.alloc (.cells #[c0, c1, c2] 26)).alloc (.cells #[va] 54)).alloc (.cells #[.slice none 0 0] 39)).heap.size (((w.alloc (.cells #[c0, c1, c2] 26)).alloc (.cells #[va] 54)).alloc (.cells #[.slice none 0 0] 39)) w1)
    (hT : T3 w1 (((w.alloc (.cells #[c0, c1, c2] 26)).alloc (.cells #[va] 54)).alloc (.cells #[.slice none 0 0] 39)).heap.size v vs us x) :
    Jn w (w1.alloc (.cells #[v] 39)) v x [(w.heap.size, #[c0, c1, c2], 26), (w.heap.size + 1, #[va], 54), (w.heap.size + 2, #[.slice none 0 0], 39), (w1.heap.size, #[v], 39)] := by
  obtain ⟨k1, k2, k3⟩ := three_box hb
  have h0 : Below w.heap.size w (((w.alloc (.cells #[c0, c1, c2] 26)).alloc (.cells #[va] 54)).alloc (.cells #[.slice none 0 0] 39)) := (((Below.refl _ _).alloc (Nat.le_refl _) _).alloc (by simp) _).alloc (by simp; omega) _
  have h1 := h0.trans (hb.mono h0.size)
  refine ⟨⟨_, _, (hT.lower h0.size).below ((Below.refl _ _).alloc (Nat.le_refl _) _), h1.alloc h1.size _⟩, fun p hp => ?_⟩
  simp only [List.mem_cons, List.not_mem_nil, or_false] at hp
  rcases hp with rfl | rfl | rfl | rfl
  · exact ⟨blk_alloc k1 _, (by decide : (26 : Nat) ≠ 43 ∧ (26 : Nat) ≠ 22 ∧ (26 : Nat) ≠ 3)⟩
  · exact ⟨blk_alloc k2 _, (by decide : (54 : Nat) ≠ 43 ∧ (54 : Nat) ≠ 22 ∧ (54 : Nat) ≠ 3)⟩
  · exact ⟨blk_alloc k3 _, (by decide : (39 : Nat) ≠ 43 ∧ (39 : Nat) ≠ 22 ∧ (39 : Nat) ≠ 3)⟩
  · exact ⟨heap_new w1 _, (by decide : (39 : Nat) ≠ 43 ∧ (39 : Nat) ≠ 22 ∧ (39 : Nat) ≠ 3)⟩
set_option maxHeartbeats 4000000 in
theorem rof_calls {S W L : Nat} (h : CacheOk S W L) (A : Option Addr) (c : Nat) (l : List (List Int)) (w : World) (hl : l.length = S) (hlw : ∀ x ∈ l, x.length = W) (hr : C2 w A l) (hc : l.length ≤ c) :
    Calls Try.prog 48 #[.agg #[.int .i64 S, .int .i64 W, .int .i64 L], .agg #[.slice A l.length c]] w (New3S w (ofM S W l)) := by
  have hW1 := h.w1; have hW4 := h.w4; have hS8 := h.s8
  have htop := Aside0.mk (rtop_calls h (((w.alloc (.cells #[.int .i64 S, .int .i64 W, .int .i64 L] 26)).alloc (.cells #[.slice A l.length c] 54)).alloc (.cells #[.slice none 0 0] 39)))
  have HB0 : Aside0 (Below w.heap.size w (((w.alloc (.cells #[.int .i64 S, .int .i64 W, .int .i64 L] 26)).alloc (.cells #[.slice A l.length c] 54)).alloc (.cells #[.slice none 0 0] 39))) := ⟨(((Below.refl _ _).alloc (Nat.le_refl _) _).alloc (by simp) _).alloc (by simp; omega) _⟩
  have HA := Aside0.mk hr
  have HLW := Aside0.mk hlw
  have HLS := Aside0.mk hl
  have hl9 : l.length < 9 := by rw [hl]; omega
  clear hr hlw hl h
  go_enter Try.func48, Try.ntmps48
  go_wp2_with (first | (go_at_call 47; refine htop.out.mono ?_; rintro e w1 ⟨v1, vs1, us1, rfl, hT, hb⟩; obtain ⟨A1, c1, rfl, _, _⟩ := hT.reads; have HJ := Aside0.mk (of_start hb hT); obtain ⟨k1, k2, k3⟩ := three_box hb; obtain ⟨q2, f2⟩ := cz1' (blk_alloc k2 (.cells #[.slice A1 (top S W).length c1] 39)); clear k1 k2 k3 hb hT f2))
  obtain ⟨LL, hLL⟩ : ∃ LL : List (Nat × Array Value × Nat), LL = [(w.heap.size, #[.int .i64 S, .int .i64 W, .int .i64 L], 26), (w.heap.size + 1, #[.slice A l.length c], 54), (w.heap.size + 2, #[.slice none 0 0], 39), (w1.heap.size, #[.slice A1 (top S W).length c1], 39)] := ⟨_, rfl⟩
  rw [← hLL] at HJ
  have M4 := Aside0.mk (show (w.heap.size + 2, #[Value.slice none 0 0], 39) ∈ LL by rw [hLL]; simp)
  have M5 := Aside0.mk (show (w1.heap.size, #[Value.slice A1 (top S W).length c1], 39) ∈ LL by rw [hLL]; simp)
  have HTL := Aside0.mk (show (top S W).length = S by simp [top])
  clear hLL q2 htop
  generalize w1.heap.size = bo at *
  generalize (top S W).length = tl at *
  rw [← ofN_zero S W l] at HJ
  go_loopw [15] (fun v15 wr => ∃ s : Nat, s ≤ l.length ∧ v15 = .int .i64 s ∧ Aside0 (Jn w wr (.slice A1 tl c1) (ofN S W l s) LL)) (fun v15 _ => l.length - (RowKit.intOf v15).toNat)
  case atStart => exact ⟨0, Nat.zero_le _, rfl, HJ⟩
  case round =>
    clear HJ
    obtain ⟨s, hs, rfl, HJ⟩ := hrel
    by_cases hlt : s < l.length
    · have hsS : s < S := by rw [← HLS.out]; exact hlt
      obtain ⟨ad, A0, c0, rfl, hcell0, hc0, hl0⟩ := C2.get HA.out hlt
      have hxl := HLW.out _ (List.getElem_mem hlt)
      have hcell := pw_cell_below HJ.out.bel hcell0
      have HLx := Aside0.mk hl0
      have HNs : Aside0 ((ofN S W l s).set s (ofR l[s] W W) = ofN S W l (s + 1)) := ⟨by have := ofN_set (W := W) l hsS; rwa [getD_lt hlt, ofS] at this⟩
      have HJ1 : Aside0 (Jn w wr (.slice A1 tl c1) ((ofN S W l s).set s (ofR l[s] W 0)) LL) := ⟨by have := ofN_at (W := W) l hsS; rw [getD_lt hlt] at this; rw [this]; exact HJ.out⟩
      have HJl : Aside0 ((ofN S W l s).length = S) := ⟨ofN_length S W l s⟩
      obtain ⟨g1, hg1⟩ : ∃ g1, A1 = some ⟨g1, 0, none⟩ := by
        obtain ⟨vs, uss, hT, hB⟩ := HJ.out.und
        rcases hT.open_ with ⟨_, _, h0⟩ | ⟨g1, cap, cur, h1, _⟩
        · have := congrArg List.length h0
          rw [ofN_length] at this
          simp at this
          omega
        · injection h1 with h1
          exact ⟨g1, h1⟩
      subst hg1
      have hstl : s < tl := by rw [HTL.out]; exact hsS
      have HXL := Aside0.mk hxl
      have hx9 : l[s].length < 5 := by omega
      clear hl0 hcell0 HJ hxl
      generalize l[s] = x at *
      generalize ofN S W l s = J at *
      obtain ⟨wo, rfl⟩ : ∃ wo : World, wo = wr := ⟨_, rfl⟩
      go_wp2
      go_loopw [22] (fun v22 wr => ∃ a : Nat, a ≤ x.length ∧ v22 = .int .i64 a ∧ Aside0 (Jn w wr (.slice (some ⟨g1, 0, none⟩) tl c1) (J.set s (ofR x W a)) LL)) (fun v22 _ => x.length - (RowKit.intOf v22).toNat)
      case atStart => exact ⟨0, Nat.zero_le _, rfl, HJ1⟩
      case round =>
        clear HJ1 hcell
        obtain ⟨a, ha, rfl, HJ⟩ := hrel
        by_cases hal : a < x.length
        · have haW : a < W := by rw [← HXL.out]; exact hal
          obtain ⟨ad2, rfl, hcell2⟩ := C1.get (Kd.C_below HLx.out HJ.out.bel) hal
          have hxa : x.getD a 0 = x[a] := getD_lt hal
          by_cases hpos : 0 ≤ x[a]
          · have g1' : decide ((0 : Int) ≤ x[a]) = true := decide_eq_true hpos
            have HM : Aside0 ((ofR x W a).set a [x[a]] = ofR x W (a + 1)) := ⟨by have := ofR_yes haW (x := x) (by rw [hxa]; exact hpos); rwa [hxa] at this⟩
            have hrow : (J.set s (ofR x W a)).getD s [] = ofR x W a := getD_set_eq _ _ _ (by rw [HJl.out]; exact hsS)
            have hsj : s < (J.set s (ofR x W a)).length := by rw [List.length_set, HJl.out]; exact hsS
            obtain ⟨gs, cs, hch, hgsg, hgsL, hgL⟩ := HJ.out.head hsj (by rw [hrow, ofR_length]; omega)
            rw [hrow, ofR_length] at hch
            obtain ⟨⟨u4, A4, m4, c4, hcu, rfl, _⟩, hfu⟩ := HJ.out.und.cell2 hsj hch (by rw [hrow, ofR_length]; exact haW)
            obtain ⟨q5, f5⟩ := cz1' (HJ.out.at_ _ _ _ M5.out)
            have hgl : gs < wr.heap.size := World.block_lt_of_cell? wr _ hcu
            have hgl1 : g1 < wr.heap.size := World.block_lt_of_cell? wr _ hch
            have hgl2 : bo < wr.heap.size := World.block_lt_of_cell? wr _ q5
            have HPR : Aside0 (Jn w ((wr.alloc (.cells #[.int .i64 x[a]] 3)).setCell ⟨gs, a, none⟩ (.slice (some ⟨wr.heap.size, 0, none⟩) 1 1)) (.slice (some ⟨g1, 0, none⟩) tl c1) (J.set s (ofR x W (a + 1))) LL) := ⟨by
              have := HJ.out.putRow hsj hch (by rw [hrow, ofR_length]; exact haW) hgsL ((Below.refl _ _).alloc (Nat.le_refl _) _) (T1.one wr _ x[a] (Nat.le_refl _))
              rw [hrow, set_twice, HM.out] at this
              exact this⟩
            rw [World.setCell_alloc_past _ _ _ _ hgl] at HPR
            clear hrow HM hpos f5 HJ hxa
            generalize x[a] = y at *
            go_wp2
            go_roundw
            case rel => exact ⟨a + 1, hal, by go_num, HPR⟩
            case measure => simp [RowKit.intOf]; omega
          · have g1' : decide ((0 : Int) ≤ x[a]) = false := decide_eq_false hpos
            have HM : Aside0 (ofR x W a = ofR x W (a + 1)) := ⟨ofR_no (by rw [hxa]; exact hpos)⟩
            clear hpos hxa
            generalize x[a] = y at *
            go_wp2
            go_roundw
            case rel => exact ⟨a + 1, hal, by go_num, ⟨by rw [← HM.out]; exact HJ.out⟩⟩
            case measure => simp [RowKit.intOf]; omega
        · obtain rfl : a = x.length := by omega
          have HJ3 : Aside0 (Jn w wr (.slice (some ⟨g1, 0, none⟩) tl c1) (ofN S W l (s + 1)) LL) := ⟨by rw [← HNs.out]; have := HJ.out; rw [HXL.out] at this; exact this⟩
          clear HJ
          go_wp2
          go_roundw
          case rel => exact ⟨s + 1, hlt, by go_num, HJ3⟩
          case measure => simp [RowKit.intOf]; omega
    · obtain rfl : s = l.length := by omega
      obtain ⟨q4, f4⟩ := cz1' (HJ.out.at_ _ _ _ M4.out)
      obtain ⟨q5, f5⟩ := cz1' (HJ.out.at_ _ _ _ M5.out)
      clear f5
      go_wp2
      refine bodyPost_ret (results_cell rfl _ _ (w.heap.size + 2) 39 #[.slice A1 tl c1] (0, 0) _ rfl (blk_put (cs := #[.slice none 0 0]) (HJ.out.at_ _ _ _ M4.out) 0 _ rfl) Try.underlying39 rfl (by kernel_rfl)) rfl ?_
      obtain ⟨vs2, us2, hT, hB⟩ := HJ.out.und
      exact ⟨_, vs2, us2, rfl, by rw [ofM]; rw [HLS.out] at hT; exact hT.setFar (HJ.out.at_ _ _ _ M4.out) (by decide) _, hB.setCell (by show w.heap.size ≤ w.heap.size + 1 + 1; omega) _⟩
end Go.Proofs.Ytkgocbmnjlfkoaa.M
end
section
namespace Go.Proofs.Ytkgocbmnjlfkoaa.M
open Go.RowKit
set_option linter.unusedVariables false
set_option linter.unusedSimpArgs false
structure VS (S s W : Nat) (r : List (List Int)) : Prop where
  len : r.length = W
  asc : ∀ i, (r.getD i []).Pairwise (· < ·)
  rng : ∀ i, ∀ y ∈ r.getD i [], 0 ≤ y ∧ y ≤ 1048576 ∧ y % S = s
  uniq : ∀ i j, i ≠ j → ∀ y, y ∈ r.getD i [] → y ∉ r.getD j []
theorem getD_nil_of_le {r : List (List Int)} {i : Nat} (h : r.length ≤ i) : r.getD i [] = [] := by rw [List.getD_eq_getElem?_getD, List.getElem?_eq_none h]; rfl
theorem mem_lt {r : List (List Int)} {i : Nat} {y : Int} (h : y ∈ r.getD i []) : i < r.length := by
  by_cases hi : i < r.length
  · exact hi
  · rw [getD_nil_of_le (by omega)] at h
    cases h
theorem age_mem {r : List (List Int)} {y : Int} (h : age r y < r.length) : y ∈ r.getD (age r y) [] := by
  rw [getD_lt h]
  have := List.findIdx_getElem (p := fun l => decide (y ∈ l)) (xs := r) (w := h)
  exact of_decide_eq_true this
theorem age_first {r : List (List Int)} {y : Int} {i : Nat} (h : y ∈ r.getD i []) : age r y ≤ i := by
  have hi := mem_lt h
  rw [getD_lt hi] at h
  exact Nat.le_of_not_lt fun h2 => by
    have := List.not_of_lt_findIdx (p := fun l => decide (y ∈ l)) (xs := r) h2
    simp at this
    exact this h
section
variable {S s W : Nat} {r r' : List (List Int)}
theorem VS.age_of (h : VS S s W r) {y : Int} {i : Nat} (hy : y ∈ r.getD i []) : age r y = i := by
  have h1 := age_first hy
  by_cases e : age r y = i
  · exact e
  · have h2 := age_mem (r := r) (y := y) (by have := mem_lt hy; omega)
    exact absurd hy (h.uniq _ _ e y h2)
theorem VS.mem_iff (h : VS S s W r) (y : Int) (i : Nat) : y ∈ r.getD i [] ↔ i < W ∧ age r y = i := by
  constructor
  · intro hy
    exact ⟨by rw [← h.len]; exact mem_lt hy, h.age_of hy⟩
  · rintro ⟨h1, rfl⟩
    exact age_mem (by rw [h.len]; exact h1)
theorem VS.age_le (h : VS S s W r) (y : Int) : age r y ≤ W := by rw [← h.len]; exact M.age_le r y
end
theorem age_eq {r : List (List Int)} {y : Int} {a W : Nat} (hl : r.length = W) (ha : a ≤ W) (h1 : a < W → y ∈ r.getD a []) (h2 : ∀ i, y ∈ r.getD i [] → a ≤ i ∧ a < W) : age r y = a := by
  by_cases h : age r y < r.length
  · have h3 := h2 _ (age_mem h)
    have h4 := age_first (h1 h3.2)
    omega
  · have h5 := age_le r y
    by_cases e : a < W
    · have h4 := age_first (h1 e)
      omega
    · omega
theorem asc_short : ∀ (l : List Int) (b m : Int), l.Pairwise (· < ·) → (∀ y ∈ l, b ≤ y ∧ y ≤ m) → b ≤ m + 1 → (l.length : Int) ≤ m + 1 - b
  | [], b, m, _, _, hb => by simp; omega
  | x :: l, b, m, hl, h, hb => by
    have hx := h x List.mem_cons_self
    have := asc_short l (x + 1) m hl.of_cons (fun y hy => by
      have h1 : x < y := List.rel_of_pairwise_cons hl hy
      have h2 := h y (List.mem_cons_of_mem _ hy)
      omega) (by omega)
    simp only [List.length_cons]
    omega
theorem VS.good {S s W : Nat} {r : List (List Int)} (h : VS S s W r) : Good r 1048577 := fun l hl => by
  obtain ⟨i, hi, rfl⟩ := List.getElem_of_mem hl
  have h1 := h.asc i
  have h2 := h.rng i
  rw [getD_lt hi] at h1 h2
  refine ⟨h1.imp (fun h => Int.le_of_lt h), ?_⟩
  have := asc_short r[i] 0 1048576 h1 (fun y hy => ⟨(h2 y hy).1, (h2 y hy).2.1⟩) (by omega)
  omega
theorem mem_putAt (o : List (List Int)) (b : Nat) (x y : Int) (a : Nat) : y ∈ (putAt o b x).getD a [] ↔ (a = b ∧ b < o.length ∧ y = x) ∨ y ∈ o.getD a [] := by
  unfold putAt
  by_cases h : b < o.length
  · rw [if_pos h, getD_set _ _ _ _ h]
    by_cases e : b = a
    · subst e
      rw [if_pos rfl, mem_ins]
      simp [h]
    · rw [if_neg e]
      constructor
      · exact fun h => .inr h
      · rintro (⟨e', _⟩ | h)
        · exact absurd e'.symm e
        · exact h
  · rw [if_neg h]
    constructor
    · exact fun h => .inr h
    · rintro (⟨_, h', _⟩ | h)
      · exact absurd h' h
      · exact h
theorem ins_strict {l : List Int} {x : Int} (h : l.Pairwise (· < ·)) (hx : x ∉ l) : (ins l x).Pairwise (· < ·) := by
  have ha : Asc l := h.imp (fun h => Int.le_of_lt h)
  unfold ins insAt
  rw [List.pairwise_append, List.pairwise_cons]
  refine ⟨h.sublist (List.take_sublist _ _), ⟨fun y hy => ?_, h.sublist (List.drop_sublist _ _)⟩, fun y hy z hz => ?_⟩
  · have h1 := pos_drop ha y hy
    have h2 : y ≠ x := fun e => hx (e ▸ List.mem_of_mem_drop hy)
    omega
  · have h1 := pos_take ha y hy
    rcases List.mem_cons.1 hz with rfl | hz
    · omega
    · have := pos_drop ha z hz
      omega
def Str (o : List (List Int)) : Prop := ∀ i, (o.getD i []).Pairwise (· < ·)
theorem Str.putAt {o : List (List Int)} (h : Str o) {b : Nat} {x : Int} (hx : x ∉ o.getD b []) : Str (putAt o b x) := fun i => by
  unfold M.putAt
  split
  · rename_i hb
    rw [getD_set _ _ _ _ hb]
    split
    · exact ins_strict (h b) hx
    · exact h i
  · exact h i
theorem getD_replicate_nil (n i : Nat) : (List.replicate n ([] : List Int)).getD i [] = [] := by
  rw [List.getD_eq_getElem?_getD, List.getElem?_replicate]
  split <;> rfl
theorem str_rep (n : Nat) : Str (List.replicate n []) := fun i => by rw [getD_replicate_nil]; exact List.Pairwise.nil
end Go.Proofs.Ytkgocbmnjlfkoaa.M
end
section
namespace Go.Proofs.Ytkgocbmnjlfkoaa.M
open Go.RowKit
set_option linter.unusedVariables false
set_option linter.unusedSimpArgs false
def dst (P : Nat → Bool) (i : Nat) : Nat := if P i then i + 1 else i
theorem mem_mv1 (P : Nat → Bool) (x : Int) (i : Nat) (o : List (List Int)) (z y : Int) (a : Nat) : y ∈ (mv1 P x i o z).getD a [] ↔ y ∈ o.getD a [] ∨ (y = z ∧ y ≠ x ∧ a = dst P i ∧ a < o.length) := by
  unfold mv1
  by_cases h : z = x
  · rw [if_pos h]
    constructor
    · exact fun h => .inl h
    · rintro (h1 | ⟨rfl, h2, _⟩)
      · exact h1
      · exact absurd h h2
  · rw [if_neg h, mem_putAt]
    show (a = dst P i ∧ dst P i < o.length ∧ y = z) ∨ _ ↔ _
    constructor
    · rintro (⟨rfl, h2, rfl⟩ | h1)
      · exact .inr ⟨rfl, h, rfl, h2⟩
      · exact .inl h1
    · rintro (h1 | ⟨rfl, h2, rfl, h4⟩)
      · exact .inr h1
      · exact .inl ⟨rfl, h4, rfl⟩
theorem mem_mv (P : Nat → Bool) (x : Int) (i : Nat) (l : List Int) (y : Int) (a : Nat) : ∀ o : List (List Int), y ∈ (mv P x i l o).getD a [] ↔ y ∈ o.getD a [] ∨ (y ∈ l ∧ y ≠ x ∧ a = dst P i ∧ a < o.length) := by
  unfold mv
  induction l with
  | nil => intro o; simp
  | cons z l ih =>
    intro o
    rw [List.foldl_cons, ih, mem_mv1, mv1_length]
    constructor
    · rintro ((h | ⟨h1, h2, h3, h4⟩) | ⟨h1, h2, h3, h4⟩)
      · exact .inl h
      · exact .inr ⟨by rw [h1]; exact List.mem_cons_self, h2, h3, h4⟩
      · exact .inr ⟨List.mem_cons_of_mem _ h1, h2, h3, h4⟩
    · rintro (h | ⟨h1, h2, h3, h4⟩)
      · exact .inl (.inl h)
      · rcases List.mem_cons.1 h1 with h1 | h1
        · exact .inl (.inr ⟨h1, h2, h3, h4⟩)
        · exact .inr ⟨h1, h2, h3, h4⟩
theorem str_mv (P : Nat → Bool) (x : Int) (i : Nat) (l : List Int) (hl : l.Pairwise (· < ·)) : ∀ o : List (List Int), Str o → (∀ y ∈ l, y ∉ o.getD (dst P i) []) → Str (mv P x i l o) := by
  unfold mv
  induction l with
  | nil => intro o h _; exact h
  | cons z l ih =>
    intro o h hn
    rw [List.foldl_cons]
    refine ih hl.of_cons _ ?_ fun y hy => ?_
    · unfold mv1
      split
      · exact h
      · exact h.putAt (hn z List.mem_cons_self)
    · rw [mem_mv1]
      rintro (h1 | ⟨h1, _⟩)
      · exact hn y (List.mem_cons_of_mem _ hy) h1
      · have : z < y := List.rel_of_pairwise_cons hl hy
        omega
theorem mem_outN (P : Nat → Bool) (x : Int) (r : List (List Int)) (y : Int) (a : Nat) (i : Nat) : y ∈ (outN P x r i).getD a [] ↔ ∃ j, j < i ∧ y ∈ r.getD j [] ∧ y ≠ x ∧ a = dst P j ∧ a < r.length := by
  induction i with
  | zero =>
    rw [outN, getD_replicate_nil]
    simp
  | succ i ih =>
    rw [outN, mem_mv, ih, outN_length]
    constructor
    · rintro (⟨j, h1, h2⟩ | ⟨h1, h2, h3, h4⟩)
      · exact ⟨j, by omega, h2⟩
      · exact ⟨i, by omega, h1, h2, h3, h4⟩
    · rintro ⟨j, h1, h2⟩
      by_cases e : j = i
      · subst e
        exact .inr h2
      · exact .inl ⟨j, by omega, h2⟩
section
variable {S s W : Nat} {r : List (List Int)}
theorem str_outN (P : Nat → Bool) (x : Int) (h : VS S s W r) (i : Nat) : Str (outN P x r i) := by
  induction i with
  | zero => exact str_rep _
  | succ i ih =>
    rw [outN]
    refine str_mv P x i _ (h.asc i) _ ih fun y hy hm => ?_
    obtain ⟨j, h1, h2, _⟩ := (mem_outN _ _ _ _ _ _).1 hm
    exact h.uniq j i (by omega) y h2 hy
theorem mem_useF (P : Nat → Bool) (x : Int) (r : List (List Int)) (y : Int) (a : Nat) : y ∈ (useF P r x).getD a [] ↔ (a = 0 ∧ 0 < r.length ∧ y = x) ∨ ∃ j, y ∈ r.getD j [] ∧ y ≠ x ∧ a = dst P j ∧ a < r.length := by
  unfold useF
  rw [mem_putAt, mem_outN, outN_length]
  constructor
  · rintro (h | ⟨j, h1, h2⟩)
    · exact .inl h
    · exact .inr ⟨j, h2⟩
  · rintro (h | ⟨j, h2⟩)
    · exact .inl h
    · exact .inr ⟨j, mem_lt h2.1, h2⟩
theorem VS.use (h : VS S s W r) (P : Nat → Bool) {x : Int} (h0 : 0 ≤ x) (h1 : x ≤ 1048576) (hx : x % S = s) : VS S s W (useF P r x) := by
  refine ⟨by rw [useF_length, h.len], ?_, ?_, ?_⟩
  · unfold useF
    refine (str_outN P x h _).putAt fun hm => ?_
    obtain ⟨j, _, _, h2, _⟩ := (mem_outN _ _ _ _ _ _).1 hm
    exact h2 rfl
  · intro i y hy
    rcases (mem_useF _ _ _ _ _).1 hy with ⟨_, _, rfl⟩ | ⟨j, h2, _⟩
    · exact ⟨h0, h1, hx⟩
    · exact h.rng j y h2
  · intro i j hij y hy hy2
    rcases (mem_useF _ _ _ _ _).1 hy with ⟨h2, _, rfl⟩ | ⟨k, h2, h3, h4, _⟩
    · rcases (mem_useF _ _ _ _ _).1 hy2 with ⟨h5, _⟩ | ⟨k, _, h5, _⟩
      · omega
      · exact h5 rfl
    · rcases (mem_useF _ _ _ _ _).1 hy2 with ⟨_, _, h5⟩ | ⟨k2, h5, _, h6, _⟩
      · exact h3 h5
      · have : k = k2 := by rw [← h.age_of h2, ← h.age_of h5]
        subst this
        omega
def ageU (P : Nat → Bool) (W : Nat) (x y : Int) (a : Nat) : Nat := if y = x then 0 else if a < W then min (dst P a) W else W
theorem VS.age_use (h : VS S s W r) (P : Nat → Bool) (x y : Int) (hW : 0 < W) : age (useF P r x) y = ageU P W x y (age r y) := by
  have hd : ∀ a, a ≤ dst P a := fun a => by unfold dst; split <;> omega
  refine age_eq (W := W) (by rw [useF_length, h.len]) ?_ ?_ ?_
  · unfold ageU
    split
    · omega
    · split <;> omega
  · unfold ageU
    intro ha
    rw [mem_useF, h.len]
    by_cases e : y = x
    · rw [if_pos e]
      exact .inl ⟨rfl, hW, e⟩
    · rw [if_neg e] at ha ⊢
      by_cases e2 : age r y < W
      · rw [if_pos e2] at ha ⊢
        exact .inr ⟨age r y, (h.mem_iff y _).2 ⟨e2, rfl⟩, e, by omega, ha⟩
      · rw [if_neg e2] at ha
        omega
  · intro i hi
    rw [mem_useF, h.len] at hi
    unfold ageU
    rcases hi with ⟨h1, _, h3⟩ | ⟨j, h1, h2, h3, h4⟩
    · rw [if_pos h3]
      omega
    · have h5 := h.age_of h1
      have h6 := mem_lt h1
      rw [h.len] at h6
      rw [if_neg h2, if_pos (by omega), h5]
      omega
end
section
variable {S s W : Nat} {ra rb : List (List Int)}
theorem mem_jn1 (sb : List (List Int)) (i : Nat) (o : List (List Int)) (z y : Int) (a : Nat) : y ∈ (jn1 sb i o z).getD a [] ↔ y ∈ o.getD a [] ∨ (y = z ∧ age sb y < sb.length ∧ a = max i (age sb y) ∧ a < o.length) := by
  unfold jn1
  by_cases h : age sb z < sb.length
  · rw [if_pos h, mem_putAt]
    constructor
    · rintro (⟨rfl, h2, rfl⟩ | h1)
      · exact .inr ⟨rfl, h, rfl, h2⟩
      · exact .inl h1
    · rintro (h1 | ⟨rfl, h2, rfl, h4⟩)
      · exact .inr h1
      · exact .inl ⟨rfl, h4, rfl⟩
  · rw [if_neg h]
    constructor
    · exact fun h => .inl h
    · rintro (h1 | ⟨rfl, h2, _⟩)
      · exact h1
      · exact absurd h2 h
theorem mem_jn (sb : List (List Int)) (i : Nat) (l : List Int) (y : Int) (a : Nat) : ∀ o : List (List Int), y ∈ (jn sb i l o).getD a [] ↔ y ∈ o.getD a [] ∨ (y ∈ l ∧ age sb y < sb.length ∧ a = max i (age sb y) ∧ a < o.length) := by
  unfold jn
  induction l with
  | nil => intro o; simp
  | cons z l ih =>
    intro o
    rw [List.foldl_cons, ih, mem_jn1, jn1_length]
    constructor
    · rintro ((h | ⟨h1, h2, h3, h4⟩) | ⟨h1, h2, h3, h4⟩)
      · exact .inl h
      · exact .inr ⟨by rw [h1]; exact List.mem_cons_self, h2, h3, h4⟩
      · exact .inr ⟨List.mem_cons_of_mem _ h1, h2, h3, h4⟩
    · rintro (h | ⟨h1, h2, h3, h4⟩)
      · exact .inl (.inl h)
      · rcases List.mem_cons.1 h1 with h1 | h1
        · exact .inl (.inr ⟨h1, h2, h3, h4⟩)
        · exact .inr ⟨h1, h2, h3, h4⟩
theorem str_jn (sb : List (List Int)) (i : Nat) (l : List Int) (hl : l.Pairwise (· < ·)) : ∀ o : List (List Int), Str o → (∀ y ∈ l, ∀ a, y ∉ o.getD a []) → Str (jn sb i l o) := by
  unfold jn
  induction l with
  | nil => intro o h _; exact h
  | cons z l ih =>
    intro o h hn
    rw [List.foldl_cons]
    refine ih hl.of_cons _ ?_ fun y hy a => ?_
    · unfold jn1
      split
      · exact h.putAt (hn z List.mem_cons_self _)
      · exact h
    · rw [mem_jn1]
      rintro (h1 | ⟨h1, _⟩)
      · exact hn y (List.mem_cons_of_mem _ hy) a h1
      · have : z < y := List.rel_of_pairwise_cons hl hy
        omega
theorem mem_jnN (W : Nat) (ra rb : List (List Int)) (y : Int) (a : Nat) (i : Nat) : y ∈ (jnN W ra rb i).getD a [] ↔ ∃ j, j < i ∧ y ∈ ra.getD j [] ∧ age rb y < rb.length ∧ a = max j (age rb y) ∧ a < W := by
  induction i with
  | zero =>
    rw [jnN, getD_replicate_nil]
    simp
  | succ i ih =>
    rw [jnN, mem_jn, ih, jnN_length]
    constructor
    · rintro (⟨j, h1, h2⟩ | ⟨h1, h2, h3, h4⟩)
      · exact ⟨j, by omega, h2⟩
      · exact ⟨i, by omega, h1, h2, h3, h4⟩
    · rintro ⟨j, h1, h2⟩
      by_cases e : j = i
      · subst e
        exact .inr h2
      · exact .inl ⟨j, by omega, h2⟩
theorem str_jnN (h : VS S s W ra) (rb : List (List Int)) (i : Nat) : Str (jnN W ra rb i) := by
  induction i with
  | zero => exact str_rep _
  | succ i ih =>
    rw [jnN]
    refine str_jn rb i _ (h.asc i) _ ih fun y hy a hm => ?_
    obtain ⟨j, h1, h2, _⟩ := (mem_jnN _ _ _ _ _ _).1 hm
    exact h.uniq j i (by omega) y h2 hy
theorem mem_joinS (ha : VS S s W ra) (y : Int) (a : Nat) : y ∈ (joinS W ra rb).getD a [] ↔ ∃ j, y ∈ ra.getD j [] ∧ age rb y < rb.length ∧ a = max j (age rb y) ∧ a < W := by
  unfold joinS
  rw [mem_jnN]
  constructor
  · rintro ⟨j, _, h⟩
    exact ⟨j, h⟩
  · rintro ⟨j, h⟩
    exact ⟨j, mem_lt h.1, h⟩
theorem VS.join (ha : VS S s W ra) (rb : List (List Int)) : VS S s W (joinS W ra rb) := by
  refine ⟨jnN_length _ _ _ _, str_jnN ha rb _, ?_, ?_⟩
  · intro i y hy
    obtain ⟨j, h1, _⟩ := (mem_joinS ha y i).1 hy
    exact ha.rng j y h1
  · intro i j hij y hy hy2
    obtain ⟨k, h1, _, h2, _⟩ := (mem_joinS ha y i).1 hy
    obtain ⟨k2, h3, _, h4, _⟩ := (mem_joinS ha y j).1 hy2
    have : k = k2 := by rw [← ha.age_of h1, ← ha.age_of h3]
    subst this
    omega
end
structure Val (S W : Nat) (x : List (List (List Int))) : Prop where
  len : x.length = S
  el : ∀ s, s < S → VS S s W (x.getD s [])
theorem Val.fit {S W : Nat} {x : List (List (List Int))} (h : Val S W x) : Fit S W x := ⟨h.len, fun r hr => by
  obtain ⟨i, hi, rfl⟩ := List.getElem_of_mem hr
  have := h.el i (by rw [← h.len]; exact hi)
  rw [getD_lt hi] at this
  exact ⟨this.len, this.good.mono (by omega)⟩⟩
theorem VS.empty (S s W : Nat) : VS S s W (List.replicate W []) := by
  refine ⟨by simp, str_rep W, ?_, ?_⟩
  · intro i y hy
    rw [getD_replicate_nil] at hy
    cases hy
  · intro i j _ y hy
    rw [getD_replicate_nil] at hy
    cases hy
theorem Val.top (S W : Nat) : Val S W (top S W) := ⟨by simp [M.top], fun s hs => by
  unfold M.top
  rw [getD_replicate hs]
  exact VS.empty S s W⟩
theorem Val.touch {S W : Nat} {x : List (List (List Int))} (h : Val S W x) {n : Nat} (hn : n ≤ 1048576) : Val S W (touchM S W x n) := by
  unfold touchM
  by_cases hs : S = 0
  · rw [if_pos hs]; exact h
  · rw [if_neg hs]
    have hm := Nat.mod_lt n (Nat.pos_of_ne_zero hs)
    refine ⟨by rw [List.length_set, h.len], fun s hsS => ?_⟩
    rw [getD_set _ _ _ _ (by rw [h.len]; exact hm)]
    by_cases e : n % S = s
    · rw [if_pos e]
      subst e
      exact (h.el _ hm).use _ (by omega) (by omega) (Int.natCast_emod n S).symm
    · rw [if_neg e]
      exact h.el s hsS
theorem joinM_at {S W : Nat} (a b : List (List (List Int))) {s : Nat} (hs : s < S) : (joinM S W a b).getD s [] = joinS W (a.getD s []) (b.getD s []) := by
  unfold joinM
  rw [getD_lt (by rw [joinN_length]; exact hs)]
  simp [joinN, hs]
theorem Val.join {S W : Nat} {a : List (List (List Int))} (ha : Val S W a) (b : List (List (List Int))) : Val S W (joinM S W a b) := ⟨joinN_length _ _ _ _ _, fun s hs => by
  rw [joinM_at a b hs]
  exact (ha.el s hs).join _⟩
end Go.Proofs.Ytkgocbmnjlfkoaa.M
end
section
namespace Go.Proofs.Ytkgocbmnjlfkoaa.M
open Go
set_option linter.unusedVariables false
set_option linter.unusedSimpArgs false
def HeldTill (P : Program) (md : Region.Mode) (ops : Array Oper) (Q : Exit → Act → World → Prop) (S : World → Prop) (F : Nat → Bool) : Nat → Array Bool → Act → World → Prop
  | 0, listed, a, w => Region.ready md ops listed = [] ∧ Q .normal a w
  | n + 1, listed, a, w => (Region.ready md ops listed = [] → Q .normal a w) ∧
      ∀ j ∈ Region.ready md ops listed, wpOp P ops Q j (fun a' w' => (F j = true → S w') ∧ HeldTill P md ops Q S F n (listed.setIfInBounds j true) a' w') a w
section
variable {P : Program} {md : Region.Mode} {ops : Array Oper} {Q : Exit → Act → World → Prop} {S : World → Prop} {F : Nat → Bool}
theorem HeldTill.any : ∀ (n : Nat) {listed : Array Bool} {a : Act} {w : World}, HeldTill P md ops Q S F n listed a w → wpAny P md ops Q n listed a w
  | 0, _, _, _, h => h
  | n + 1, _, _, _, h => ⟨h.1, fun j hj => wpOp_mono (fun _ _ k => HeldTill.any n k.2) (h.2 j hj)⟩
theorem HeldTill.first {i : Nat} {oi : Oper} {v : Value} (hi : ops[i]? = some oi) (hsel : ∀ (j : Nat) (o : Oper) cs b, ops[j]? = some o → o.op ≠ .select cs b) (hQ : ∀ c a w, Q (.panic c) (a.put oi.dst v) w → Q (.panic c) a w)
    (hF : ∀ j oj, ops[j]? = some oj → F j = false → ∃ e ∈ oj.after, Region.binds md e = true ∧ e.on = i) :
    ∀ (n : Nat) (listed : Array Bool) (a : Act) (w : World), (∀ j oj, ops[j]? = some oj → j ≠ i → listed.getD j true = false → (∀ e ∈ oj.after, Region.binds md e = true → e.on ≠ i) → oi.apart ops oj = true) →
      i ∈ Region.ready md ops listed → YieldsIf P ops S oi v a → S w → HeldTill P md ops Q S F n (listed.setIfInBounds i true) (a.put oi.dst v) w → HeldTill P md ops Q S F (n + 1) listed a w
  | n, listed, a, w, hfree, hr, hy, hS, H => by
    have hne : Region.ready md ops listed ≠ [] := fun e => by rw [e] at hr; cases hr
    refine ⟨fun e => absurd e hne, fun j hj => ?_⟩
    by_cases e : j = i
    · subst e
      exact hy.wpOp hi hS ⟨fun _ => hS, H⟩
    · cases n with
      | zero =>
        have h1 := ready_mono hj e
        rw [H.1] at h1
        cases h1
      | succ n =>
        obtain ⟨hun, oj, hoj, haft⟩ := mem_ready.1 hj
        have hw : ∀ d ∈ oj.after, Region.binds md d = true → d.on ≠ i := fun d hd hb hd2 => by
          have h1 := haft d hd hb
          have h0 := (mem_ready.1 hr).1
          rw [hd2] at h1
          rcases Nat.lt_or_ge i listed.size with h2 | h2
          · simp [h2] at h0 h1
            rw [h0] at h1
            cases h1
          · simp [Array.getElem?_eq_none h2] at h1
        have hFj : F j = true := by
          cases hf : F j with
          | true => rfl
          | false =>
            obtain ⟨d, hd, hb, hd2⟩ := hF j oj hoj hf
            exact absurd hd2 (hw d hd hb)
        have h2 := wpOp_putIf hoj (hfree j oj hoj e hun hw) (fun cs b => hsel i oi cs b hi) (fun cs b => hsel j oj cs b hoj) hQ hy (H.2 j (ready_mono hj e))
        refine wpOp_mono (fun a' w' h3 => ⟨fun _ => h3.2.1 hFj, HeldTill.first hi hsel hQ hF n (listed.setIfInBounds j true) a' w' (fun k ok hk hki hk2 hk3 => hfree k ok hk hki ?_ hk3) (ready_mono hr (Ne.symm e)) h3.1 (h3.2.1 hFj) ?_⟩) h2
        · by_cases hjk : j = k
          · subst hjk
            exact hun
          · rw [getD_set_ne true hjk] at hk2
            exact hk2
        · rw [Array.setIfInBounds_comm _ _ e]
          exact h3.2.2
end
end Go.Proofs.Ytkgocbmnjlfkoaa.M
end
section
namespace Go.Proofs.Ytkgocbmnjlfkoaa.M
open Go
set_option linter.unusedVariables false
set_option linter.unusedSimpArgs false
section
variable {P : Program} {md : Region.Mode} {ops : Array Oper} {Q : Exit → Act → World → Prop} {S : World → Prop} {F : Nat → Bool}
def waitsB (md : Region.Mode) (ops : Array Oper) (F : Nat → Bool) (i : Nat) : Bool :=
  (List.range ops.size).all fun j => F j || ((ops[j]?).map fun o => o.after.any fun e => Region.binds md e && e.on == i).getD true
theorem waitsB_spec {i : Nat} (h : waitsB md ops F i = true) : ∀ j oj, ops[j]? = some oj → F j = false → ∃ e ∈ oj.after, Region.binds md e = true ∧ e.on = i := fun j oj hj hf => by
  have hl : j < ops.size := (Array.getElem?_eq_some_iff.1 hj).1
  have h1 := (List.all_eq_true.1 h) j (List.mem_range.2 hl)
  rw [hf, hj] at h1
  simp only [Bool.false_or, Option.map_some, Option.getD_some] at h1
  obtain ⟨e, he, h2⟩ := Array.any_eq_true'.1 h1
  rw [Bool.and_eq_true] at h2
  exact ⟨e, he, h2.1, by simpa using h2.2⟩
theorem HeldTill.take {i : Nat} {oi : Oper} {v : Value} {n : Nat} {listed : Array Bool} {a : Act} {w : World} (hi : ops[i]? = some oi) (hs : Region.noSelect ops = true) (hf : Region.free md ops listed i = true) (hr : (Region.ready md ops listed).contains i = true) (hF : waitsB md ops F i = true)
    (hQ : ∀ c a w, Q (.panic c) (a.put oi.dst v) w → Q (.panic c) a w) (hy : YieldsIf P ops S oi v a) (hS : S w) (h : HeldTill P md ops Q S F n (listed.setIfInBounds i true) (a.put oi.dst v) w) : HeldTill P md ops Q S F (n + 1) listed a w :=
  HeldTill.first hi (Region.noSelect_spec hs) hQ (waitsB_spec hF) n listed a w (Region.free_spec hi hf) (by simpa using hr) hy hS h
def after (Q : Exit → Act → World → Prop) (K : Act → World → Prop) : Exit → Act → World → Prop
  | .normal, a, w => K a w
  | e, a, w => Q e a w
theorem wp_after {o : Oper} {a : Act} {w : World} {K : Act → World → Prop} (h : o.wp P a w K (after Q K)) : o.wp P a w K Q := by
  unfold Oper.wp at *
  generalize (execOp a.eval o).run P w = r at *
  cases r with
  | ok n w' =>
    cases n <;> simp only [Oper.upon] at h ⊢ <;> first
      | exact h
      | (refine Calls.mono h fun e w'' he => ?_; cases e <;> exact he)
      | (refine Rows.mono h fun u w'' he => ?_; exact he)
  | halt x w' =>
    cases x <;> simp only [Oper.upon] at h ⊢ <;> exact h
theorem HeldTill.next {j : Nat} {o : Oper} {n : Nat} {listed : Array Bool} {a : Act} {w : World} (hr : Region.ready md ops listed = [j]) (hj : ops[j]? = some o)
    (h : wpList P ops (after Q (fun a' w' => (F j = true → S w') ∧ HeldTill P md ops Q S F n (listed.setIfInBounds j true) a' w')) [o] a w) : HeldTill P md ops Q S F (n + 1) listed a w := by
  refine ⟨fun e => (by rw [hr] at e; exact absurd e (by simp)), fun i hi => ?_⟩
  rw [hr, List.mem_singleton] at hi
  subst hi
  unfold wpOp
  rw [hj]
  simp only
  unfold wpList at h
  split
  · rename_i hw
    rw [if_pos hw] at h
    rcases h with h | h
    · exact .inl (wp_after h)
    · exact .inr h
  · rename_i hw
    rw [if_neg hw] at h
    exact h
theorem HeldTill.begin_ {id : Nat} {a : Act} {w : World} (hm : P.follows .mixedOrders = true) (h : HeldTill P .any ops Q S F ops.size (Array.replicate ops.size false) a w.drew) : (Code.region id ops true).wp P Q a w :=
  wp_region_any hm (HeldTill.any _ h)
end
end Go.Proofs.Ytkgocbmnjlfkoaa.M
end
section
namespace Go.Proofs.Ytkgocbmnjlfkoaa.M
open Go.RowKit Go.Proofs.Ytkgocbmnjlfkoaa.X Go.Proofs.YtkgocbmnjlfkoaaW.PrintWords Go.Proofs.YtkgocbmnjlfkoaaW.PrintLast Go.Proofs.YtkgocbmnjlfkoaaW.PrintMore
set_option linter.unusedVariables false
set_option linter.unusedSimpArgs false
def eitherM (S W : Nat) (x : List (List (List Int))) : List Int → List (List (List Int))
  | [] => x
  | y :: ys => ys.foldl (fun o z => joinM S W o (touchM S W x z.toNat)) (touchM S W x y.toNat)
def LinesOk (l : List Int) : Prop := ∀ y ∈ l, 0 ≤ y ∧ y ≤ 1048576
theorem Val.fold {S W : Nat} {x : List (List (List Int))} : ∀ (ys : List Int) {o : List (List (List Int))}, Val S W o → Val S W (ys.foldl (fun o z => joinM S W o (touchM S W x z.toNat)) o)
  | [], o, h => h
  | z :: ys, o, h => Val.fold ys (h.join _)
theorem Val.either {S W : Nat} {x : List (List (List Int))} (h : Val S W x) {l : List Int} (hl : LinesOk l) : Val S W (eitherM S W x l) := by
  cases l with
  | nil => exact h
  | cons y ys =>
    have := hl y List.mem_cons_self
    exact Val.fold ys (h.touch (by omega))
theorem either_take (S W : Nat) (x : List (List (List Int))) (y : Int) (ys : List Int) {k : Nat} (hk : k < ys.length) : eitherM S W x (y :: ys.take (k + 1)) = joinM S W (eitherM S W x (y :: ys.take k)) (touchM S W x (ys[k]).toNat) := by
  simp only [eitherM]
  rw [List.take_succ_eq_append_getElem hk, List.foldl_append, List.foldl_cons, List.foldl_nil]
structure EJ (w wr : World) (bo : Nat) (v mv c0 c1 c2 : Value) (X : List (List (List Int))) : Prop where
  sets : ∃ vs uss, T3 wr w.heap.size v vs uss X
  below : Below w.heap.size w wr
  c : wr.heap[w.heap.size]? = some (.cells #[c0, c1, c2] 26 (0, 0))
  m : wr.heap[w.heap.size + 1]? = some (.cells #[mv] 39 (0, 0))
  r : wr.heap[w.heap.size + 2]? = some (.cells #[.slice none 0 0] 39 (0, 0))
  o : wr.heap[bo]? = some (.cells #[v] 39 (0, 0))
  ob : w.heap.size + 2 < bo
theorem EJ.next {w wr w2 : World} {bo : Nat} {v v' mv c0 c1 c2 : Value} {X X' : List (List (List Int))} {vs : List Value} {us : List (List Value)} (h : EJ w wr bo v mv c0 c1 c2 X) (hb : Below wr.heap.size wr w2) (hT : T3 w2 wr.heap.size v' vs us X') :
    EJ w (w2.setCell ⟨bo, 0, none⟩ v') bo v' mv c0 c1 c2 X' := by
  have hob := h.ob
  have hk : ∀ {k : Nat} {o : Obj}, wr.heap[k]? = some o → w2.heap[k]? = some o := fun {k o} e => (hb.block k (by
    rcases Nat.lt_or_ge k wr.heap.size with h1 | h1
    · exact h1
    · rw [Array.getElem?_eq_none h1] at e; cases e)).trans e
  exact ⟨⟨vs, us, (hT.lower h.below.size).setFar (hk h.o) (by decide) _⟩, (h.below.trans (hb.mono h.below.size)).setCell (by show w.heap.size ≤ bo; omega) _,
    blk_farm (hk h.c) (by omega), blk_farm (hk h.m) (by omega), blk_farm (hk h.r) (by omega), blk_put (hk h.o) 0 _ rfl, hob⟩
theorem EJ.start1 {w W0 w1 : World} {v mv c0 c1 c2 : Value} {X : List (List (List Int))} {vs : List Value} {us : List (List Value)}
    (h0 : Below w.heap.size w W0) (hz : w.heap.size + 3 ≤ W0.heap.size)
    (hc : W0.heap[w.heap.size]? = some (.cells #[c0, c1, c2] 26) ∧ W0.heap[w.heap.size + 1]? = some (.cells #[mv] 39) ∧ W0.heap[w.heap.size + 2]? = some (.cells #[.slice none 0 0] 39))
    (hb : Below W0.heap.size W0 w1) (hT : T3 w1 W0.heap.size v vs us X) : EJ w (w1.alloc (.cells #[v] 39)) w1.heap.size v mv c0 c1 c2 X := by
  have hs := hb.size
  have hk : ∀ {k : Nat} {o : Obj}, k < W0.heap.size → W0.heap[k]? = some o → w1.heap[k]? = some o := fun hk e => (hb.block _ hk).trans e
  have h1 := h0.trans (hb.mono h0.size)
  exact ⟨⟨vs, us, (hT.lower h0.size).below ((Below.refl _ _).alloc (Nat.le_refl _) _)⟩, h1.alloc h1.size _, blk_alloc (hk (by omega) hc.1) _, blk_alloc (hk (by omega) hc.2.1) _, blk_alloc (hk (by omega) hc.2.2) _, heap_new _ _, by omega⟩
theorem EJ.start2 {w W0 w1 : World} {v mv c0 c1 c2 : Value} {X : List (List (List Int))} {vs : List Value} {us : List (List Value)}
    (h0 : Below w.heap.size w W0) (hz : w.heap.size + 3 ≤ W0.heap.size)
    (hc : W0.heap[w.heap.size]? = some (.cells #[c0, c1, c2] 26) ∧ W0.heap[w.heap.size + 1]? = some (.cells #[mv] 39) ∧ W0.heap[w.heap.size + 2]? = some (.cells #[.slice none 0 0] 39))
    (hb : Below (W0.alloc (.cells #[.slice none 0 0] 39)).heap.size (W0.alloc (.cells #[.slice none 0 0] 39)) w1) (hT : T3 w1 (W0.alloc (.cells #[.slice none 0 0] 39)).heap.size v vs us X) : EJ w (w1.setCell ⟨W0.heap.size, 0, none⟩ v) W0.heap.size v mv c0 c1 c2 X := by
  have hz0 : W0.heap.size < (W0.alloc (.cells #[.slice none 0 0] 39)).heap.size := by rw [World.size_alloc]; omega
  have hb' : Below W0.heap.size W0 w1 := (Below.refl _ W0 |>.alloc (Nat.le_refl _) _).trans (hb.mono (by omega))
  have hs := hb'.size
  have hk : ∀ {k : Nat} {o : Obj}, k < W0.heap.size → W0.heap[k]? = some o → w1.heap[k]? = some o := fun hk e => (hb'.block _ hk).trans e
  have h1 := h0.trans (hb'.mono h0.size)
  have ho := box_after hb
  exact ⟨⟨vs, us, (hT.lower (by omega)).setFar ho (by decide) _⟩, h1.setCell (by show w.heap.size ≤ W0.heap.size; omega) _, blk_farm (hk (by omega) hc.1) (by omega), blk_farm (hk (by omega) hc.2.1) (by omega), blk_farm (hk (by omega) hc.2.2) (by omega), blk_put ho 0 _ rfl, by omega⟩
set_option maxHeartbeats 4000000 in
theorem reither_calls {S W L : Nat} (h : CacheOk S W L) (A B : Option Addr) (c c' : Nat) (x : List (List (List Int))) (l : List Int) (w : World) (hx : Val S W x) (hl : LinesOk l) (hr : C3 w A x) (hc : x.length ≤ c) (hrl : C1 w B l) (hcl : l.length ≤ c') (hll : l.length < 1099511627776) :
    Calls Try.prog 46 #[.agg #[.int .i64 S, .int .i64 W, .int .i64 L], .agg #[.slice A x.length c], .slice B l.length c'] w (New3S w (eitherM S W x l)) := by
  have hW1 := h.w1; have hW4 := h.w4; have hS8 := h.s8
  have HB0 : Aside0 (Below w.heap.size w (((w.alloc (.cells #[.int .i64 S, .int .i64 W, .int .i64 L] 26)).alloc (.cells #[.slice A x.length c] 39)).alloc (.cells #[.slice none 0 0] 39))) := ⟨(((Below.refl _ _).alloc (Nat.le_refl _) _).alloc (by simp) _).alloc (by simp; omega) _⟩
  have HK := Aside0.mk (three_box (w := w) (o1 := .cells #[.int .i64 S, .int .i64 W, .int .i64 L] 26) (o2 := .cells #[.slice A x.length c] 39) (o3 := .cells #[.slice none 0 0] 39) (Below.refl _ _))
  have hcopy := Aside0.mk (fun W1 (hb : Below w.heap.size w W1) => rcopy_calls A c x W1 (Kd.C_below hr hb) hc (hx.fit.short hS8 hW4))
  have htouch := Aside0.mk (fun n W1 (hb : Below w.heap.size w W1) => rtouch_calls h A c x n W1 hx.fit (Kd.C_below hr hb) hc)
  have hjoin := Aside0.mk (fun (B1 B2 : Option Addr) (c1 c2 : Nat) (a b : List (List (List Int))) W1 (ha : Val S W a) (hb : Val S W b) (h1 : C3 W1 B1 a) (h2 : a.length ≤ c1) (h3 : C3 W1 B2 b) (h4 : b.length ≤ c2) => rjoin_calls h B1 B2 c1 c2 a b W1 ha.fit hb.fit h1 h2 h3 h4)
  have HR := Aside0.mk hr
  have HX := Aside0.mk hx
  have HLo := Aside0.mk hl
  cases l with
  | nil =>
    clear hr hx h hl hjoin htouch hrl
    have hz : decide ((([] : List Int).length : Int) = 0) = true := rfl
    go_enter Try.func46, Try.ntmps46
    go_wp2_with (first | (go_at_call 23; refine (hcopy.out _ HB0.out).mono ?_; rintro e w1 ⟨v1, vs1, us1, rfl, hT, hb⟩; obtain ⟨A1, c1, rfl, _, _⟩ := hT.reads; have HT1 := Aside0.mk (hT.lower (b' := w.heap.size) HB0.out.size); have HB1 := Aside0.mk (HB0.out.trans (hb.mono HB0.out.size)); obtain ⟨k1, k2, k3⟩ := three_box hb; have K3 := Aside0.mk k3; obtain ⟨q4, f4⟩ := cz1' k3; clear k1 k2 k3 hb hT))
    refine bodyPost_ret (results_cell rfl _ _ (w.heap.size + 2) 39 #[.slice A1 x.length c1] (0, 0) _ rfl (blk_put (cs := #[.slice none 0 0]) K3.out 0 _ rfl) Try.underlying39 rfl (by kernel_rfl)) rfl ?_
    exact ⟨_, vs1, us1, rfl, HT1.out.setFar K3.out (by decide) _, HB1.out.setCell (by show w.heap.size ≤ w.heap.size + 1 + 1; omega) _⟩
  | cons y ys =>
    obtain ⟨bd, rfl, hcy⟩ := C1.get hrl (i := 0) (by simp)
    have htl : C1 w (if c' = 1 then some bd else (some bd : Option Addr).map (·.add (1 * 1))) ys := Kd.C_drop (m := 1) hrl (by simp) hcl
    have hy := hl y List.mem_cons_self
    obtain ⟨n, rfl⟩ : ∃ n : Nat, y = (n : Int) := ⟨y.toNat, by omega⟩
    have HT := Aside0.mk (htouch.out n)
    have HYS := Aside0.mk (show LinesOk ys from fun z hz => hl z (List.mem_cons_of_mem _ hz))
    have hlen : ((n : Int) :: ys).length = ys.length + 1 := rfl
    obtain ⟨k1, k2, k3⟩ := HK.out
    obtain ⟨q0, q1, q2, f0, f1, f2⟩ := cz3 k1
    obtain ⟨q3, f3⟩ := cz1' k2
    have HTL := Aside0.mk htl
    have hyl : ys.length < 1099511627776 := by simp at hll; omega
    have hcl2 : ys.length + 1 ≤ c' := hcl
    have hcy2 : w.cell? bd = some (.int .i64 n) := by rw [Addr.add_zero'] at hcy; exact hcy
    have hbdl := World.block_lt_of_cell? w _ hcy2
    have g0 : ((ys.length : Int) + 1 == 0) = false := beq_eq_false_iff_ne.2 (by omega)
    rw [hlen]
    have HV : Aside0 (∀ i, Val S W (eitherM S W x (n :: ys.take i))) := ⟨fun i => HX.out.either (fun z hz => HLo.out z (by
      rcases List.mem_cons.1 hz with h1 | h1
      · rw [h1]; exact List.mem_cons_self
      · exact List.mem_cons_of_mem _ (List.mem_of_mem_take h1)))⟩
    have HN : Aside0 (∀ i (h : i < ys.length), eitherM S W x (n :: ys.take (i + 1)) = joinM S W (eitherM S W x (n :: ys.take i)) (touchM S W x (ys[i]).toNat)) := ⟨fun i h => either_take S W x n ys h⟩
    have HE00 : Aside0 (eitherM S W x (n :: ys.take 0) = touchM S W x n) := ⟨rfl⟩
    have hfin : eitherM S W x ((n : Int) :: ys) = eitherM S W x (n :: ys.take ys.length) := by rw [List.take_length]
    rw [hfin]
    clear hfin
    obtain ⟨EE, hEE⟩ : ∃ EE : Nat → List (List (List Int)), ∀ i, eitherM S W x ((n : Int) :: ys.take i) = EE i := ⟨_, fun _ => rfl⟩
    simp only [hEE] at HV HN HE00
    rw [hEE]
    clear hEE
    clear hcopy htl f0 f1 f2 f3 k1 k2 k3 hr hx h hl hrl hcy hy hll hcl hlen
    go_enter Try.func46, Try.ntmps46
    go_upto_region 3 with (fail)
    have HSZ : Aside0 (w.heap.size + 3 ≤ (((w.alloc (.cells #[.int .i64 S, .int .i64 W, .int .i64 L] 26)).alloc (.cells #[.slice A x.length c] 39)).alloc (.cells #[.slice none 0 0] 39)).heap.size) := ⟨by rw [World.size_alloc, World.size_alloc, World.size_alloc]; omega⟩
    have hcy3 := pw_cell_below HB0.out hcy2
    generalize ((w.alloc (.cells #[.int .i64 S, .int .i64 W, .int .i64 L] 26)).alloc (.cells #[.slice A x.length c] 39)).alloc (.cells #[.slice none 0 0] 39) = W0 at *
    have hz := HSZ.out
    have z1 : w.heap.size < W0.heap.size := by omega
    have z2 : w.heap.size + 1 < W0.heap.size := by omega
    have z3 : w.heap.size + 1 + 1 < W0.heap.size := by omega
    have hcy4 : (W0.alloc (.cells #[.slice none 0 0] 39)).cell? bd = some (.int .i64 n) := pw_cell_below ((Below.refl _ _).alloc (Nat.le_refl _) _) hcy3
    have HXX : ∃ XX, XX = touchM S W x n := ⟨_, rfl⟩
    go_cut [7] from 17 to 22 (fun v7 wx => ∃ bo A1 c1, v7 = .pointer (some ⟨bo, 0, none⟩) ∧ Aside0 (EJ w wx bo (.slice A1 (touchM S W x n).length c1) (.slice A x.length c) (.int .i64 S) (.int .i64 W) (.int .i64 L) (touchM S W x n)))
    case first =>
      have q0a : (W0.alloc (.cells #[.slice none 0 0] 39)).cell? ⟨w.heap.size, 0, none⟩ = some (.int .i64 S) := pw_cell_below ((Below.refl _ _).alloc (Nat.le_refl _) _) q0
      have q1a : (W0.alloc (.cells #[.slice none 0 0] 39)).cell? ⟨w.heap.size, 1, none⟩ = some (.int .i64 W) := pw_cell_below ((Below.refl _ _).alloc (Nat.le_refl _) _) q1
      have q2a : (W0.alloc (.cells #[.slice none 0 0] 39)).cell? ⟨w.heap.size, 2, none⟩ = some (.int .i64 L) := pw_cell_below ((Below.refl _ _).alloc (Nat.le_refl _) _) q2
      have q3a : (W0.alloc (.cells #[.slice none 0 0] 39)).cell? ⟨w.heap.size + 1, 0, none⟩ = some (.slice A x.length c) := pw_cell_below ((Below.refl _ _).alloc (Nat.le_refl _) _) q3
      have q4a : (W0.alloc (.cells #[.slice none 0 0] 39)).cell? bd = some (.int .i64 n) := pw_cell_below ((Below.refl _ _).alloc (Nat.le_refl _) _) hcy3
      have n0 : w.heap.size ≠ W0.heap.size := by omega
      have n1 : w.heap.size + 1 ≠ W0.heap.size := by omega
      have n2 : bd.block ≠ W0.heap.size := by omega
      go_region_held3 (fun w' => w'.cell? ⟨w.heap.size, 0, none⟩ = some (.int .i64 S) ∧ w'.cell? ⟨w.heap.size, 1, none⟩ = some (.int .i64 W) ∧ w'.cell? ⟨w.heap.size, 2, none⟩ = some (.int .i64 L) ∧ w'.cell? ⟨w.heap.size + 1, 0, none⟩ = some (.slice A x.length c) ∧ w'.cell? bd = some (.int .i64 n))
        (first | exact ⟨q0, q1, q2, q3, hcy3⟩ | exact ⟨q0a, q1a, q2a, q3a, q4a⟩ | exact ⟨q0b, q1b, q2b, q3b, q4b⟩ | exact ⟨pw_cell_below ((Below.refl _ w1).alloc (Nat.le_refl _) _) q0b, pw_cell_below ((Below.refl _ w1).alloc (Nat.le_refl _) _) q1b, pw_cell_below ((Below.refl _ w1).alloc (Nat.le_refl _) _) q2b, pw_cell_below ((Below.refl _ w1).alloc (Nat.le_refl _) _) q3b, pw_cell_below ((Below.refl _ w1).alloc (Nat.le_refl _) _) q4b⟩ | exact ⟨(cell_far (show (⟨w.heap.size, 0, none⟩ : Addr).block ≠ (⟨W0.heap.size, 0, none⟩ : Addr).block from n0) _).trans q0b, (cell_far (show (⟨w.heap.size, 1, none⟩ : Addr).block ≠ (⟨W0.heap.size, 0, none⟩ : Addr).block from n0) _).trans q1b, (cell_far (show (⟨w.heap.size, 2, none⟩ : Addr).block ≠ (⟨W0.heap.size, 0, none⟩ : Addr).block from n0) _).trans q2b, (cell_far (show (⟨w.heap.size + 1, 0, none⟩ : Addr).block ≠ (⟨W0.heap.size, 0, none⟩ : Addr).block from n1) _).trans q3b, (cell_far (show (bd : Addr).block ≠ (⟨W0.heap.size, 0, none⟩ : Addr).block from n2) _).trans q4b⟩ | go_keep)
        (first | (go_at_call 44; refine (HT.out _ (by first | exact HB0.out.drew | exact (HB0.out.alloc HB0.out.size _).drew)).mono ?_; rintro e w1 ⟨v1, vs1, us1, rfl, hT1, hb1⟩; obtain ⟨A1, c1, rfl, _, _⟩ := hT1.reads; (try (have kb := (hb1.block W0.heap.size (by show W0.heap.size < (W0.alloc _).heap.size; rw [World.size_alloc]; omega)).trans (heap_new W0 (.cells #[.slice none 0 0] 39)); obtain ⟨kb1, kb2⟩ := cz1' kb)); have q0b : w1.cell? ⟨w.heap.size, 0, none⟩ = some (.int .i64 S) := (by first | exact pw_cell_below (w := W0.drew) hb1 q0 | exact pw_cell_below (w := (W0.alloc (.cells #[.slice none 0 0] 39)).drew) hb1 q0a); have q1b : w1.cell? ⟨w.heap.size, 1, none⟩ = some (.int .i64 W) := (by first | exact pw_cell_below (w := W0.drew) hb1 q1 | exact pw_cell_below (w := (W0.alloc (.cells #[.slice none 0 0] 39)).drew) hb1 q1a); have q2b : w1.cell? ⟨w.heap.size, 2, none⟩ = some (.int .i64 L) := (by first | exact pw_cell_below (w := W0.drew) hb1 q2 | exact pw_cell_below (w := (W0.alloc (.cells #[.slice none 0 0] 39)).drew) hb1 q2a); have q3b : w1.cell? ⟨w.heap.size + 1, 0, none⟩ = some (.slice A x.length c) := (by first | exact pw_cell_below (w := W0.drew) hb1 q3 | exact pw_cell_below (w := (W0.alloc (.cells #[.slice none 0 0] 39)).drew) hb1 q3a); have q4b : w1.cell? bd = some (.int .i64 n) := (by first | exact pw_cell_below (w := W0.drew) hb1 hcy3 | exact pw_cell_below (w := (W0.alloc (.cells #[.slice none 0 0] 39)).drew) hb1 q4a)))
      all_goals
        go_wp2_with fail
        go_meet
        case rel =>
          first
          | exact ⟨_, _, _, rfl, ⟨EJ.start1 HB0.out hz HK.out ⟨hb1.os, hb1.tape, hb1.output, hb1.size, hb1.block⟩ hT1⟩⟩
          | exact ⟨_, _, _, rfl, ⟨EJ.start2 HB0.out hz HK.out ⟨hb1.os, hb1.tape, hb1.output, hb1.size, hb1.block⟩ hT1⟩⟩
    case rest =>
      obtain ⟨bo, A1, c1, rfl, HE⟩ := hcut
      clear HK q0 q1 q2 q3 hcy3 hcy4 z1 z2 z3 hz HSZ HB0 hbdl
      have HE1 := HE.out
      rw [← HE00.out] at HE1
      have HE0 := Aside0.mk HE1
      clear HE HE1 HE00
      go_upto_region 4 with (fail)
      go_cut [24, 25, 26] from 17 to 26 (fun v24 v25 v26 wx => ∃ T k, v24 = .slice T ys.length k ∧ v25 = .int .i64 ys.length ∧ v26 = .int .i64 0 ∧ wc = wx ∧ Aside0 (C1 w T ys))
      case first =>
        by_cases hc1 : c' = 1
        · subst hc1
          obtain rfl : ys = [] := List.eq_nil_of_length_eq_zero (by omega)
          have H := HTL.out
          rw [if_pos rfl] at H
          have HH := Aside0.mk H
          clear H HTL
          go_wp2_with fail
          go_meet
          exact ⟨_, _, rfl, rfl, rfl, rfl, HH⟩
        · have H := HTL.out
          rw [if_neg hc1] at H
          have HH := Aside0.mk H
          clear H HTL
          go_wp2_with fail
          go_meet
          exact ⟨_, _, rfl, rfl, rfl, rfl, HH⟩
      case rest =>
        obtain ⟨T, k, rfl, rfl, rfl, rfl, HTY⟩ := hcut
        clear HTL hcy2
        go_wp2_with (fail)
        go_loopw [26] (fun v26 wr => ∃ i : Nat, i ≤ ys.length ∧ v26 = .int .i64 i ∧ ∃ A1 c1, Aside0 (EJ w wr bo (.slice A1 (EE i).length c1) (.slice A x.length c) (.int .i64 S) (.int .i64 W) (.int .i64 L) (EE i))) (fun v26 _ => ys.length - (RowKit.intOf v26).toNat)
        case atStart => exact ⟨0, Nat.zero_le _, rfl, _, _, HE0⟩
        case round =>
          clear HE0
          obtain ⟨i, hi, rfl, A1, c1, HE⟩ := hrel
          by_cases hlt : i < ys.length
          · obtain ⟨ad, rfl, hcell⟩ := C1.get (Kd.C_below HTY.out HE.out.below) hlt
            obtain ⟨m, hm⟩ : ∃ m : Nat, ys[i] = (m : Int) := ⟨ys[i].toNat, by have := HYS.out _ (List.getElem_mem hlt); omega⟩
            have HNi := HN.out i hlt
            rw [hm] at hcell HNi
            have HNi2 : Aside0 (EE (i + 1) = joinM S W (EE i) (touchM S W x m)) := ⟨HNi⟩
            have HVi := Aside0.mk (HV.out i)
            have HVm : Aside0 (Val S W (touchM S W x m)) := ⟨HX.out.touch (by have := HYS.out _ (List.getElem_mem hlt); omega)⟩
            obtain ⟨q0, q1, q2, f0, f1, f2⟩ := cz3 HE.out.c
            obtain ⟨q3, f3⟩ := cz1' HE.out.m
            obtain ⟨q5, f5⟩ := cz1' HE.out.o
            obtain ⟨hcl1, HCE⟩ : (EE i).length ≤ c1 ∧ Aside0 (C3 wr A1 (EE i)) := by
              obtain ⟨vs, us, hT⟩ := HE.out.sets
              obtain ⟨A2, c2, e1, h1, h2⟩ := hT.reads
              injection e1 with e1 e2 e3
              subst e1; subst e3
              exact ⟨h1, ⟨h2⟩⟩
            clear HNi hm f0 f1 f2 f3 HN HV HT
            generalize EE i = X at *
            go_upto_region 7 with (fail)
            have hob := HE.out.ob
            have hn0 : w.heap.size ≠ bo := by omega
            have hn1 : w.heap.size + 1 ≠ bo := by omega
            refine HeldTill.begin_ (S := fun w' => w'.cell? ⟨w.heap.size, 0, none⟩ = some (.int .i64 S) ∧ w'.cell? ⟨w.heap.size, 1, none⟩ = some (.int .i64 W) ∧ w'.cell? ⟨w.heap.size, 2, none⟩ = some (.int .i64 L) ∧ w'.cell? ⟨w.heap.size + 1, 0, none⟩ = some (.slice A x.length c) ∧ w'.cell? ⟨bo, 0, none⟩ = some (.slice A1 X.length c1)) (F := fun j => j != 7) (by kernel_rfl) ?_
            have hS0 : (fun w' => w'.cell? ⟨w.heap.size, 0, none⟩ = some (.int .i64 S) ∧ w'.cell? ⟨w.heap.size, 1, none⟩ = some (.int .i64 W) ∧ w'.cell? ⟨w.heap.size, 2, none⟩ = some (.int .i64 L) ∧ w'.cell? ⟨w.heap.size + 1, 0, none⟩ = some (.slice A x.length c) ∧ w'.cell? ⟨bo, 0, none⟩ = some (.slice A1 X.length c1)) wr.drew := ⟨q0, q1, q2, q3, q5⟩
            refine HeldTill.take (i := 0) (n := 7) (v := ?_) rfl (by kernel_rfl) (by kernel_rfl) (by kernel_rfl) (by kernel_rfl) (fun _ _ _ h => h) (Or.inl ⟨by rfl, ?_⟩) hS0 ?_
            rotate_left
            · intro w hSw; (try dsimp only at hSw); go_simp; (try with_reducible rfl)
            simp only [Act.put, List.setIfInBounds_toArray, List.set_cons_zero, List.set_cons_succ, List.getElem_toArray, List.getElem_cons_zero, List.getElem_cons_succ]
            refine HeldTill.take (i := 1) (n := 6) (v := ?_) rfl (by kernel_rfl) (by kernel_rfl) (by kernel_rfl) (by kernel_rfl) (fun _ _ _ h => h) (Or.inl ⟨by rfl, ?_⟩) hS0 ?_
            rotate_left
            · intro w hSw; (try dsimp only at hSw); go_simp; (try with_reducible rfl)
            simp only [Act.put, List.setIfInBounds_toArray, List.set_cons_zero, List.set_cons_succ, List.getElem_toArray, List.getElem_cons_zero, List.getElem_cons_succ]
            refine HeldTill.take (i := 2) (n := 5) (v := ?_) rfl (by kernel_rfl) (by kernel_rfl) (by kernel_rfl) (by kernel_rfl) (fun _ _ _ h => h) (Or.inl ⟨by rfl, ?_⟩) hS0 ?_
            rotate_left
            · intro w hSw; (try dsimp only at hSw); go_simp; (try with_reducible rfl)
            simp only [Act.put, List.setIfInBounds_toArray, List.set_cons_zero, List.set_cons_succ, List.getElem_toArray, List.getElem_cons_zero, List.getElem_cons_succ]
            refine HeldTill.take (i := 3) (n := 4) (v := ?_) rfl (by kernel_rfl) (by kernel_rfl) (by kernel_rfl) (by kernel_rfl) (fun _ _ _ h => h) (Or.inl ⟨by rfl, ?_⟩) hS0 ?_
            rotate_left
            · intro w hSw; (try dsimp only at hSw); go_simp; (try with_reducible rfl)
            simp only [Act.put, List.setIfInBounds_toArray, List.set_cons_zero, List.set_cons_succ, List.getElem_toArray, List.getElem_cons_zero, List.getElem_cons_succ]
            refine HeldTill.take (i := 4) (n := 3) (v := ?_) rfl (by kernel_rfl) (by kernel_rfl) (by kernel_rfl) (by kernel_rfl) (fun _ _ _ h => h) (Or.inl ⟨by rfl, ?_⟩) hS0 ?_
            rotate_left
            · intro w hSw; (try dsimp only at hSw); go_simp; (try with_reducible rfl)
            simp only [Act.put, List.setIfInBounds_toArray, List.set_cons_zero, List.set_cons_succ, List.getElem_toArray, List.getElem_cons_zero, List.getElem_cons_succ]
            refine HeldTill.next (j := 5) (n := 2) (by kernel_rfl) rfl ?_
            go_wp2_with (go_at_call 44; refine (htouch.out m _ HE.out.below.drew).mono ?_; rintro e w1 ⟨v1, vs1, us1, rfl, hT1, hb1⟩; obtain ⟨A2, c2, rfl, hc2, hr2⟩ := hT1.reads; have q0b := pw_cell_below (w := wr.drew) hb1 q0; have q1b := pw_cell_below (w := wr.drew) hb1 q1; have q2b := pw_cell_below (w := wr.drew) hb1 q2; have q3b := pw_cell_below (w := wr.drew) hb1 q3; have q5b := pw_cell_below (w := wr.drew) hb1 q5; have f5b := frozen_below (w := wr.drew) hb1 q5 f5; have HC2 := Aside0.mk hr2; have HC1 := Aside0.mk (Kd.C_below (w := wr) HCE.out ⟨hb1.os, hb1.tape, hb1.output, hb1.size, hb1.block⟩); have HB1 := Aside0.mk (Below.mk (B := wr.heap.size) (w := wr) (w' := w1) hb1.os hb1.tape hb1.output hb1.size hb1.block); clear hr2 hT1 hb1)
            refine ⟨fun _ => ⟨q0b, q1b, q2b, q3b, q5b⟩, ?_⟩
            refine HeldTill.next (j := 6) (n := 1) (by kernel_rfl) rfl ?_
            go_wp2_with (go_at_call 31; refine (hjoin.out A1 A2 c1 c2 X (touchM S W x m) w1 HVi.out HVm.out HC1.out hcl1 HC2.out hc2).mono ?_; rintro e w2 ⟨v2, vs2, us2, rfl, hT2, hb2⟩; obtain ⟨A3, c3, rfl, _, _⟩ := hT2.reads; have q5c := pw_cell_below hb2 q5b; have f5c := frozen_below hb2 q5b f5b; have HB2 := Aside0.mk hb2; have HT2 := Aside0.mk hT2; have q0c := pw_cell_below hb2 q0b; have q1c := pw_cell_below hb2 q1b; have q2c := pw_cell_below hb2 q2b; have q3c := pw_cell_below hb2 q3b; clear hb2 hT2)
            refine ⟨fun _ => ⟨q0c, q1c, q2c, q3c, q5c⟩, ?_⟩
            refine HeldTill.next (j := 7) (n := 0) (by kernel_rfl) rfl ?_
            go_wp2
            refine ⟨fun h => absurd h (by decide), (by kernel_rfl), ?_⟩
            all_goals
              have HE2 := HE.out.next (HB1.out.trans (HB2.out.mono HB1.out.size)) (HT2.out.lower HB1.out.size)
              have HE3 : Aside0 (∃ A1 c1, Aside0 (EJ w (w2.setCell ⟨bo, 0, none⟩ (.slice A3 (joinM S W X (touchM S W x m)).length c3)) bo (.slice A1 (EE (i + 1)).length c1) (.slice A x.length c) (.int .i64 S) (.int .i64 W) (.int .i64 L) (EE (i + 1)))) := ⟨A3, c3, ⟨by rw [HNi2.out]; exact HE2⟩⟩
              clear HE2 HNi2
              go_wp2
              go_roundw
              case rel => exact ⟨i + 1, hlt, by go_num, HE3.out⟩
              case measure => simp [RowKit.intOf]; omega
          · obtain rfl : i = ys.length := by omega
            obtain ⟨q5, f5⟩ := cz1' HE.out.o
            obtain ⟨q4, f4⟩ := cz1' HE.out.r
            clear f5
            go_wp2
            refine bodyPost_ret (results_cell rfl _ _ (w.heap.size + 2) 39 #[.slice A1 (EE ys.length).length c1] (0, 0) _ rfl (blk_put (cs := #[.slice none 0 0]) HE.out.r 0 _ rfl) Try.underlying39 rfl (by kernel_rfl)) rfl ?_
            obtain ⟨vs, us, hT⟩ := HE.out.sets
            exact ⟨_, vs, us, rfl, hT.setFar HE.out.r (by decide) _, HE.out.below.setCell (by show w.heap.size ≤ w.heap.size + 1 + 1; omega) _⟩
end Go.Proofs.Ytkgocbmnjlfkoaa.M
end
section
namespace Go.Proofs.Ytkgocbmnjlfkoaa.M
open Go.RowKit Go.Proofs.Ytkgocbmnjlfkoaa.X Go.Proofs.YtkgocbmnjlfkoaaW.PrintWords Go.Proofs.YtkgocbmnjlfkoaaW.PrintLast Go.Proofs.YtkgocbmnjlfkoaaW.PrintMore
set_option linter.unusedVariables false
set_option linter.unusedSimpArgs false
set_option maxHeartbeats 1000000 in
theorem mtop_calls {S W L : Nat} (h : CacheOk S W L) (w : World) : Calls Try.prog 35 #[.agg #[.int .i64 S, .int .i64 W, .int .i64 L]] w (New3S w (top S W)) := by
  have HB0 : Aside0 (Below w.heap.size w ((w.alloc (.cells #[.int .i64 S, .int .i64 W, .int .i64 L] 26)).alloc (.cells #[.slice none 0 0] 39))) := ⟨((Below.refl _ _).alloc (Nat.le_refl _) _).alloc (by simp) _⟩
  have htop := Aside0.mk (top_calls h ((w.alloc (.cells #[.int .i64 S, .int .i64 W, .int .i64 L] 26)).alloc (.cells #[.slice none 0 0] 39)))
  clear h
  go_enter Try.func35, Try.ntmps35
  go_wp2_with (first | (go_at_call 65; refine htop.out.mono ?_; rintro e w1 ⟨v1, vs1, us1, rfl, hT, hb⟩; obtain ⟨A1, c1, rfl, _, _⟩ := hT.reads; have HT1 := Aside0.mk (hT.lower (b' := w.heap.size) HB0.out.size); have HB1 := Aside0.mk (HB0.out.trans (hb.mono HB0.out.size)); obtain ⟨k1, k2⟩ := two_box hb; have K3 := Aside0.mk k2; obtain ⟨q4, f4⟩ := cz1' k2; clear k1 k2 hb hT))
  refine bodyPost_ret (results_cell rfl _ _ (w.heap.size + 1) 39 #[.slice A1 (top S W).length c1] (0, 0) _ rfl (blk_put (cs := #[.slice none 0 0]) K3.out 0 _ rfl) Try.underlying39 rfl (by kernel_rfl)) rfl ?_
  exact ⟨_, vs1, us1, rfl, HT1.out.setFar K3.out (by decide) _, HB1.out.setCell (by show w.heap.size ≤ w.heap.size + 1; omega) _⟩
end Go.Proofs.Ytkgocbmnjlfkoaa.M
end
section
namespace Go.Proofs.Ytkgocbmnjlfkoaa.M
open Go.RowKit Go.Proofs.Ytkgocbmnjlfkoaa.X Go.Proofs.YtkgocbmnjlfkoaaW.PrintWords Go.Proofs.YtkgocbmnjlfkoaaW.PrintLast Go.Proofs.YtkgocbmnjlfkoaaW.PrintMore
set_option linter.unusedVariables false
set_option linter.unusedSimpArgs false
attribute [local go_sem] max2_int min2_int max_two min_two max_three min_three
theorem Jn.putCall {w wr : World} {g n cap i a N : Nat} {X : List (List (List Int))} {L : List (Nat × Array Value × Nat)} {y : Int} {u : Value} (h : Jn w wr (.slice (some ⟨g, 0, none⟩) n cap) X L) (hi : i < X.length)
    (hu : wr.cell? ⟨g, i, none⟩ = some u) (hg : Good (X.getD i []) N) (hN : N < 17592186044416) (hs : (X.getD i []).length < 1152921504606846976) :
    Calls Try.prog 78 #[u, .int .i64 a, .int .i64 y] wr (fun e w' => e = .returned (.tuple #[]) ∧ Jn w w' (.slice (some ⟨g, 0, none⟩) n cap) (X.set i (putAt (X.getD i []) a y)) L) := by
  obtain ⟨vs, uss, hT, hB⟩ := h.und
  obtain ⟨h5, h6⟩ := hT.cell hi
  rw [hu] at h5
  injection h5 with h5
  have h2 := hT.el i hi
  rw [← h5] at h2
  refine (put_calls wr w.heap.size u _ _ a N y h2 hg hN hB.size hs).mono ?_
  rintro e w' ⟨rfl, vs', k1, k2, k3, k4⟩
  refine ⟨rfl, ⟨vs, uss.set i vs', hT.upd hi (by rw [← h5]; exact k1) (by rw [← h5]; exact k3) (by
    rw [← h5]
    rintro k (hk | ⟨j, hj, hk⟩)
    · exact .inl (.inl hk)
    · exact k4 j (by omega) k hk), hB.trans (k3.below hB.size (fun k hk => (h2.lt hk).1))⟩, fun p hp => ?_⟩
  obtain ⟨b1, b2⟩ := h.box p hp
  refine ⟨(k3.block _ (blk_lt b1) (fun hk => ?_)).trans b1, b2⟩
  obtain ⟨c1, e1, h0, h1⟩ := In2.typed h2 hk
  rw [b1] at h1
  injection h1 with h1
  injection h1 with _ h1
  rcases h0 with rfl | rfl
  · exact b2.2.1 h1
  · exact b2.2.2 h1
set_option maxHeartbeats 4000000 in
theorem mjoin_calls {S W L : Nat} (h : CacheOk S W L) (A B : Option Addr) (c c' : Nat) (a b : List (List (List Int))) (w : World) (ha : Fit S W a) (hb : Fit S W b) (hra : C3 w A a) (hca : a.length ≤ c) (hrb : C3 w B b) (hcb : b.length ≤ c') :
    Calls Try.prog 34 #[.agg #[.int .i64 S, .int .i64 W, .int .i64 L], .agg #[.slice A a.length c], .agg #[.slice B b.length c']] w (New3S w (joinM S W a b)) := by
  have hW1 := h.w1; have hW4 := h.w4; have hS8 := h.s8
  have htop := Aside0.mk (mtop_calls h ((((w.alloc (.cells #[.int .i64 S, .int .i64 W, .int .i64 L] 26)).alloc (.cells #[.slice A a.length c] 39)).alloc (.cells #[.slice B b.length c'] 39)).alloc (.cells #[.slice none 0 0] 39)))
  have HB0 := Aside0.mk (four_below w (.cells #[.int .i64 S, .int .i64 W, .int .i64 L] 26) (.cells #[.slice A a.length c] 39) (.cells #[.slice B b.length c'] 39) (.cells #[.slice none 0 0] 39))
  have HA := Aside0.mk hra
  have HBb := Aside0.mk hrb
  have HFA := Aside0.mk ha
  have HFB := Aside0.mk hb
  have hal := Aside0.mk ha.len
  have hbl := Aside0.mk hb.len
  have hal9 : a.length < 9 := by rw [ha.len]; omega
  have hbl9 : b.length < 9 := by rw [hb.len]; omega
  have hmn1 : ¬ a.length < (top S W).length := by rw [ha.len]; simp [top]
  have hmn2 : ¬ b.length < (top S W).length := by rw [hb.len]; simp [top]
  clear hra hrb ha hb h
  go_enter Try.func34, Try.ntmps34
  go_wp2_with (first | (go_at_call 35; refine htop.out.mono ?_; rintro e w1 ⟨v1, vs1, us1, rfl, hT, hb⟩; obtain ⟨A1, c1, rfl, _, _⟩ := hT.reads; have HJ := Aside0.mk (join_start hb hT); obtain ⟨k1, k2, k3, k4⟩ := four_box hb; obtain ⟨q2, f2⟩ := cz1' (blk_alloc k2 (.cells #[.slice A1 (top S W).length c1] 39)); obtain ⟨q3, f3⟩ := cz1' (blk_alloc k3 (.cells #[.slice A1 (top S W).length c1] 39)); clear k1 k2 k3 k4 hb hT f2 f3))
  obtain ⟨LL, hLL⟩ : ∃ LL : List (Nat × Array Value × Nat), LL = [(w.heap.size, #[.int .i64 S, .int .i64 W, .int .i64 L], 26), (w.heap.size + 1, #[.slice A a.length c], 39), (w.heap.size + 2, #[.slice B b.length c'], 39), (w.heap.size + 3, #[.slice none 0 0], 39), (w1.heap.size, #[.slice A1 (top S W).length c1], 39)] := ⟨_, rfl⟩
  rw [← hLL] at HJ
  have M2 := Aside0.mk (show (w.heap.size + 1, #[Value.slice A a.length c], 39) ∈ LL by rw [hLL]; simp)
  have M3 := Aside0.mk (show (w.heap.size + 2, #[Value.slice B b.length c'], 39) ∈ LL by rw [hLL]; simp)
  have M4 := Aside0.mk (show (w.heap.size + 3, #[Value.slice none 0 0], 39) ∈ LL by rw [hLL]; simp)
  have M5 := Aside0.mk (show (w1.heap.size, #[Value.slice A1 (top S W).length c1], 39) ∈ LL by rw [hLL]; simp)
  have HTL := Aside0.mk (show (top S W).length = S by simp [top])
  clear hLL q2 q3 htop hmn1 hmn2
  generalize w1.heap.size = bo at *
  generalize (top S W).length = tl at *
  rw [← joinN_zero S W a b] at HJ
  go_loopw [25] (fun v25 wr => ∃ s : Nat, s ≤ a.length ∧ v25 = .int .i64 s ∧ Aside0 (Jn w wr (.slice A1 tl c1) (joinN S W a b s) LL)) (fun v25 _ => a.length - (RowKit.intOf v25).toNat)
  case atStart => exact ⟨0, Nat.zero_le _, rfl, HJ⟩
  case round =>
    clear HJ
    obtain ⟨s, hs, rfl, HJ⟩ := hrel
    by_cases hlt : s < a.length
    · have hsS : s < S := by rw [← hal.out]; exact hlt
      obtain ⟨ad, A0, c0, rfl, hcell0, hc0, hl0⟩ := C3.get HA.out hlt
      obtain ⟨bd, B0, d0, rfl, hcellb, hd0, hlb⟩ := C3.get HBb.out (show s < b.length by rw [hbl.out]; exact hsS)
      obtain ⟨hlw, hgd⟩ := HFA.out.at_ hlt
      obtain ⟨hlwb, hgdb⟩ := HFB.out.at_ (show s < b.length by rw [hbl.out]; exact hsS)
      have hbw := HJ.out.bel
      obtain ⟨q2, f2⟩ := cz1' (HJ.out.at_ _ _ _ M2.out)
      have hcell := pw_cell_below hbw hcell0
      have HCB := Aside0.mk hcellb
      have HCA := Aside0.mk hcell0
      have HLa := Aside0.mk hl0
      have HLb := Aside0.mk hlb
      have HGa := Aside0.mk hgd
      have HGb := Aside0.mk hgdb
      have HNs : Aside0 ((joinN S W a b s).set s (joinS W a[s] (b[s]'(by rw [hbl.out]; exact hsS))) = joinN S W a b (s + 1)) := ⟨by have := joinN_set a b hsS (W := W); rwa [getD_lt hlt, getD_lt (show s < b.length by rw [hbl.out]; exact hsS)] at this⟩
      have HJ1 : Aside0 (Jn w wr (.slice A1 tl c1) ((joinN S W a b s).set s (jnN W a[s] (b[s]'(by rw [hbl.out]; exact hsS)) 0)) LL) := ⟨by
        have e : (joinN S W a b s).set s (jnN W a[s] (b[s]'(by rw [hbl.out]; exact hsS)) 0) = joinN S W a b s := by
          have h1 := joinN_at (W := W) a b hsS
          rw [jnN, ← h1, getD_lt (by rw [joinN_length]; exact hsS)]
          exact List.set_getElem_self _
        rw [e]
        exact HJ.out⟩
      have HJl : Aside0 ((joinN S W a b s).length = S) := ⟨joinN_length S W a b s⟩
      obtain ⟨g1, hg1⟩ : ∃ g1, A1 = some ⟨g1, 0, none⟩ := by
        obtain ⟨vs, uss, hT, hB⟩ := HJ.out.und
        rcases hT.open_ with ⟨_, _, h0⟩ | ⟨g1, cap, cur, h1, _⟩
        · have := congrArg List.length h0
          rw [joinN_length] at this
          simp at this
          omega
        · injection h1 with h1
          exact ⟨g1, h1⟩
      subst hg1
      have hsb : s < b.length := by rw [hbl.out]; exact hsS
      have hstl : s < tl := by rw [HTL.out]; exact hsS
      have HWa := Aside0.mk hlw
      have HWb := Aside0.mk hlwb
      have hra9 : a[s].length < 5 := by omega
      clear hl0 hlb hgd hgdb hbw hcellb hcell0 HJ f2 hlw hlwb
      generalize a[s] = ra at *
      generalize b[s]'(by rw [hbl.out]; exact hsS) = rb at *
      generalize joinN S W a b s = J at *
      obtain ⟨wo, rfl⟩ : ∃ wo : World, wo = wr := ⟨_, rfl⟩
      go_wp2
      go_loopw [34] (fun v34 wr => ∃ i : Nat, i ≤ ra.length ∧ v34 = .int .i64 i ∧ Aside0 (Jn w wr (.slice (some ⟨g1, 0, none⟩) tl c1) (J.set s (jnN W ra rb i)) LL)) (fun v34 _ => ra.length - (RowKit.intOf v34).toNat)
      case atStart => exact ⟨0, Nat.zero_le _, rfl, HJ1⟩
      case round =>
        clear HJ1 hcell q2
        obtain ⟨i, hi, rfl, HJ⟩ := hrel
        by_cases hil : i < ra.length
        · obtain ⟨ad1, A1, c2, rfl, hcell1w, hc1, hl1⟩ := C2.get HLa.out hil
          have hcell1 := pw_cell_below HJ.out.bel hcell1w
          obtain ⟨q2, f2⟩ := cz1' (HJ.out.at_ _ _ _ M2.out)
          have hcell := pw_cell_below HJ.out.bel HCA.out
          clear f2
          have hli : ra.getD i [] = ra[i] := getD_lt hil
          have HN : Aside0 (jnN W ra rb (i + 1) = jn rb i (ra[i].take ra[i].length) (jnN W ra rb i)) := ⟨by rw [jnN, List.take_length, hli]⟩
          have hll : ra[i].length < 1073741825 := by have := (HGa.out _ (List.getElem_mem hil)).2; omega
          have HJ1 : Aside0 (Jn w wr (.slice (some ⟨g1, 0, none⟩) tl c1) (J.set s (jn rb i (ra[i].take 0) (jnN W ra rb i))) LL) := ⟨HJ.out⟩
          have HOL : Aside0 ((jnN W ra rb i).length = W) := ⟨jnN_length _ _ _ _⟩
          have HGo : Aside0 (Good (jnN W ra rb i) 4294967296) := ⟨(jnN_good _ _ _ _).mono (by have := cnt_le HGa.out i; have h4 : i * 1073741824 ≤ 4 * 1073741824 := Nat.mul_le_mul_right _ (by omega); omega)⟩
          have HL1 := Aside0.mk hl1
          clear hli hl1 HJ hcell1w
          generalize ra[i] = l at *
          generalize jnN W ra rb i = o at *
          obtain ⟨wo2, rfl⟩ : ∃ wo2 : World, wo2 = wr := ⟨_, rfl⟩
          go_wp2
          go_loopw [46] (fun v46 wr => ∃ k : Nat, k ≤ l.length ∧ v46 = .int .i64 k ∧ Aside0 (Jn w wr (.slice (some ⟨g1, 0, none⟩) tl c1) (J.set s (jn rb i (l.take k) o)) LL)) (fun v46 _ => l.length - (RowKit.intOf v46).toNat)
          case atStart => exact ⟨0, Nat.zero_le _, rfl, HJ1⟩
          case round =>
            clear HJ1 hcell1 q2 hcell
            obtain ⟨k, hk, rfl, HJ⟩ := hrel
            by_cases hkl : k < l.length
            · have hbw := HJ.out.bel
              obtain ⟨ad2, rfl, hcell2⟩ := C1.get (Kd.C_below HL1.out hbw) hkl
              obtain ⟨q3, f3⟩ := cz1' (HJ.out.at_ _ _ _ M3.out)
              have hcb := pw_cell_below hbw HCB.out
              have hfi := Aside0.mk (find_calls B0 d0 rb l[k] wr (Kd.C_below HLb.out hbw) hd0 (HGb.out.asc (by omega)) (by rw [HWb.out]; omega))
              have hmt := jn_take rb i l o hkl
              have hol : (jn rb i (l.take k) o).length = W := by rw [jn_length, HOL.out]
              have hfa := find_age (s := rb) (x := l[k])
              clear hbw f3
              rcases hfa with ⟨hf1, hf2⟩ | ⟨hf1, hf2⟩
              · have HM : Aside0 (jn rb i (l.take (k + 1)) o = jn rb i (l.take k) o) := ⟨by rw [hmt, jn1, if_neg (by omega)]⟩
                have g1' : decide ((0 : Int) ≤ find rb l[k]) = false := decide_eq_false (by omega)
                clear hmt hol hf1 hf2
                generalize find rb l[k] = f at *
                generalize l[k] = y at *
                go_wp2_with (first | (go_at_call 70; refine hfi.out.mono ?_; rintro e w5 ⟨rfl, hb5⟩; have HB5 := Aside0.mk hb5; clear hb5))
                go_roundw
                case rel => exact ⟨k + 1, hkl, by go_num, ⟨by rw [HM.out]; exact HJ.out.below HB5.out⟩⟩
                case measure => simp [RowKit.intOf]; omega
              · have hag : age rb l[k] < rb.length := by unfold find at hf1 hf2; split at hf2 <;> omega
                have HM : Aside0 (jn rb i (l.take (k + 1)) o = putAt (jn rb i (l.take k) o) (max i (age rb l[k])) l[k]) := ⟨by rw [hmt, jn1, if_pos hag]⟩
                have hrow : (J.set s (jn rb i (l.take k) o)).getD s [] = jn rb i (l.take k) o := getD_set_eq _ _ _ (by rw [HJl.out]; exact hsS)
                have hsj : s < (J.set s (jn rb i (l.take k) o)).length := by rw [List.length_set, HJl.out]; exact hsS
                obtain ⟨gs, cs, hch, hgsg, hgsL, hgL⟩ := HJ.out.head hsj (by rw [hrow, hol]; omega)
                rw [hrow, hol] at hch
                have hgd := HGo.out.jn rb i (l.take k)
                have hlk : (l.take k).length ≤ l.length := by rw [List.length_take]; omega
                have HP : Aside0 (∀ w5, Below wr.heap.size wr w5 → Calls Try.prog 78 #[.slice (some ⟨gs, 0, none⟩) W cs, .int .i64 ((max i (age rb l[k]) : Nat) : Int), .int .i64 l[k]] w5 (fun e w' => e = .returned (.tuple #[]) ∧ Jn w w' (.slice (some ⟨g1, 0, none⟩) tl c1) (J.set s (jn rb i (l.take (k + 1)) o)) LL)) := ⟨fun w5 hb5 => by
                  have := (HJ.out.below hb5).putCall (a := max i (age rb l[k])) (y := l[k]) hsj (pw_cell_below hb5 hch) (by rw [hrow]; exact hgd) (by omega) (by rw [hrow, hol]; omega)
                  rw [hrow, set_twice, ← HM.out] at this
                  exact this⟩
                obtain ⟨q5, f5⟩ := cz1' (HJ.out.at_ _ _ _ M5.out)
                have HCH := Aside0.mk hch
                have HQ5 := Aside0.mk q5
                have g1' : decide ((0 : Int) ≤ find rb l[k]) = true := decide_eq_true hf2
                rw [hf1] at hfi g1'
                have hmx : (if i < age rb l[k] then ((age rb l[k] : Nat) : Int) else (i : Int)) = ((max i (age rb l[k]) : Nat) : Int) := by split <;> omega
                clear hmt hol hf1 hf2 f5 hgd hlk hrow hag HM hch q5 hsj
                generalize max i (age rb l[k]) = mi at *
                generalize age rb l[k] = ag at *
                generalize l[k] = y at *
                go_wp2_with (first | (go_at_call 70; refine hfi.out.mono ?_; rintro e w5 ⟨rfl, hb5⟩; have HB5 := Aside0.mk hb5; have q5 := pw_cell_below hb5 HQ5.out; have hch := pw_cell_below hb5 HCH.out; clear hb5 q3 hcb hcell2) | (go_at_call 78; refine (HP.out _ HB5.out).mono ?_; rintro e w6 ⟨rfl, hj6⟩; have HJ2 := Aside0.mk hj6; clear hj6))
                go_roundw
                case rel => exact ⟨k + 1, hkl, by go_num, HJ2⟩
                case measure => simp [RowKit.intOf]; omega
            · obtain rfl : k = l.length := by omega
              have HJ3 : Aside0 (Jn w wr (.slice (some ⟨g1, 0, none⟩) tl c1) (J.set s (jnN W ra rb (i + 1))) LL) := ⟨by rw [HN.out]; exact HJ.out⟩
              clear HJ
              go_wp2
              go_roundw
              case rel => exact ⟨i + 1, hil, by go_num, HJ3⟩
              case measure => simp [RowKit.intOf]; omega
        · obtain rfl : i = ra.length := by omega
          have HJ3 : Aside0 (Jn w wr (.slice (some ⟨g1, 0, none⟩) tl c1) (joinN S W a b (s + 1)) LL) := ⟨by rw [← HNs.out]; exact HJ.out⟩
          clear HJ
          go_wp2
          go_roundw
          case rel => exact ⟨s + 1, hlt, by go_num, HJ3⟩
          case measure => simp [RowKit.intOf]; omega
    · obtain rfl : s = a.length := by omega
      obtain ⟨q4, f4⟩ := cz1' (HJ.out.at_ _ _ _ M4.out)
      obtain ⟨q5, f5⟩ := cz1' (HJ.out.at_ _ _ _ M5.out)
      clear f5
      have hstl : ¬ a.length < tl := by rw [HTL.out, hal.out]; omega
      go_wp2
      refine bodyPost_ret (results_cell rfl _ _ (w.heap.size + 3) 39 #[.slice A1 tl c1] (0, 0) _ rfl (blk_put (cs := #[.slice none 0 0]) (HJ.out.at_ _ _ _ M4.out) 0 _ rfl) Try.underlying39 rfl (by kernel_rfl)) rfl ?_
      obtain ⟨vs2, us2, hT, hB⟩ := HJ.out.und
      exact ⟨_, vs2, us2, rfl, by rw [joinM, ← hal.out]; rw [hal.out] at hT ⊢; exact hT.setFar (HJ.out.at_ _ _ _ M4.out) (by decide) _, hB.setCell (by show w.heap.size ≤ w.heap.size + 1 + 1 + 1; omega) _⟩
end Go.Proofs.Ytkgocbmnjlfkoaa.M
end
section
namespace Go.Proofs.Ytkgocbmnjlfkoaa.M
open Go.RowKit Go.Proofs.Ytkgocbmnjlfkoaa.X Go.Proofs.YtkgocbmnjlfkoaaW.PrintWords Go.Proofs.YtkgocbmnjlfkoaaW.PrintLast Go.Proofs.YtkgocbmnjlfkoaaW.PrintMore
set_option linter.unusedVariables false
set_option linter.unusedSimpArgs false
set_option maxHeartbeats 4000000 in
theorem meither_calls {S W L : Nat} (h : CacheOk S W L) (A B : Option Addr) (c c' : Nat) (x : List (List (List Int))) (l : List Int) (w : World) (hx : Val S W x) (hl : LinesOk l) (hr : C3 w A x) (hc : x.length ≤ c) (hrl : C1 w B l) (hcl : l.length ≤ c') (hll : l.length < 1099511627776) :
    Calls Try.prog 39 #[.agg #[.int .i64 S, .int .i64 W, .int .i64 L], .agg #[.slice A x.length c], .slice B l.length c'] w (New3S w (eitherM S W x l)) := by
  have hW1 := h.w1; have hW4 := h.w4; have hS8 := h.s8
  have HB0 : Aside0 (Below w.heap.size w (((w.alloc (.cells #[.int .i64 S, .int .i64 W, .int .i64 L] 26)).alloc (.cells #[.slice A x.length c] 39)).alloc (.cells #[.slice none 0 0] 39))) := ⟨(((Below.refl _ _).alloc (Nat.le_refl _) _).alloc (by simp) _).alloc (by simp; omega) _⟩
  have HK := Aside0.mk (three_box (w := w) (o1 := .cells #[.int .i64 S, .int .i64 W, .int .i64 L] 26) (o2 := .cells #[.slice A x.length c] 39) (o3 := .cells #[.slice none 0 0] 39) (Below.refl _ _))
  have hcopy := Aside0.mk (fun W1 (hb : Below w.heap.size w W1) => copy_calls A c x W1 (Kd.C_below hr hb) hc (hx.fit.short hS8 hW4))
  have htouch := Aside0.mk (fun n W1 (hb : Below w.heap.size w W1) => touch_calls h A c x n W1 hx.fit (Kd.C_below hr hb) hc)
  have hjoin := Aside0.mk (fun (B1 B2 : Option Addr) (c1 c2 : Nat) (a b : List (List (List Int))) W1 (ha : Val S W a) (hb : Val S W b) (h1 : C3 W1 B1 a) (h2 : a.length ≤ c1) (h3 : C3 W1 B2 b) (h4 : b.length ≤ c2) => mjoin_calls h B1 B2 c1 c2 a b W1 ha.fit hb.fit h1 h2 h3 h4)
  have HR := Aside0.mk hr
  have HX := Aside0.mk hx
  have HLo := Aside0.mk hl
  cases l with
  | nil =>
    clear hr hx h hl hjoin htouch hrl
    have hz : decide ((([] : List Int).length : Int) = 0) = true := rfl
    go_enter Try.func39, Try.ntmps39
    go_wp2_with (first | (go_at_call 73; refine (hcopy.out _ HB0.out).mono ?_; rintro e w1 ⟨v1, vs1, us1, rfl, hT, hb⟩; obtain ⟨A1, c1, rfl, _, _⟩ := hT.reads; have HT1 := Aside0.mk (hT.lower (b' := w.heap.size) HB0.out.size); have HB1 := Aside0.mk (HB0.out.trans (hb.mono HB0.out.size)); obtain ⟨k1, k2, k3⟩ := three_box hb; have K3 := Aside0.mk k3; obtain ⟨q4, f4⟩ := cz1' k3; clear k1 k2 k3 hb hT))
    refine bodyPost_ret (results_cell rfl _ _ (w.heap.size + 2) 39 #[.slice A1 x.length c1] (0, 0) _ rfl (blk_put (cs := #[.slice none 0 0]) K3.out 0 _ rfl) Try.underlying39 rfl (by kernel_rfl)) rfl ?_
    exact ⟨_, vs1, us1, rfl, HT1.out.setFar K3.out (by decide) _, HB1.out.setCell (by show w.heap.size ≤ w.heap.size + 1 + 1; omega) _⟩
  | cons y ys =>
    obtain ⟨bd, rfl, hcy⟩ := C1.get hrl (i := 0) (by simp)
    have htl : C1 w (if c' = 1 then some bd else (some bd : Option Addr).map (·.add (1 * 1))) ys := Kd.C_drop (m := 1) hrl (by simp) hcl
    have hy := hl y List.mem_cons_self
    obtain ⟨n, rfl⟩ : ∃ n : Nat, y = (n : Int) := ⟨y.toNat, by omega⟩
    have HT := Aside0.mk (htouch.out n)
    have HYS := Aside0.mk (show LinesOk ys from fun z hz => hl z (List.mem_cons_of_mem _ hz))
    have hlen : ((n : Int) :: ys).length = ys.length + 1 := rfl
    obtain ⟨k1, k2, k3⟩ := HK.out
    obtain ⟨q0, q1, q2, f0, f1, f2⟩ := cz3 k1
    obtain ⟨q3, f3⟩ := cz1' k2
    have HTL := Aside0.mk htl
    have hyl : ys.length < 1099511627776 := by simp at hll; omega
    have hcl2 : ys.length + 1 ≤ c' := hcl
    have hcy2 : w.cell? bd = some (.int .i64 n) := by rw [Addr.add_zero'] at hcy; exact hcy
    have hbdl := World.block_lt_of_cell? w _ hcy2
    have g0 : ((ys.length : Int) + 1 == 0) = false := beq_eq_false_iff_ne.2 (by omega)
    rw [hlen]
    have HV : Aside0 (∀ i, Val S W (eitherM S W x (n :: ys.take i))) := ⟨fun i => HX.out.either (fun z hz => HLo.out z (by
      rcases List.mem_cons.1 hz with h1 | h1
      · rw [h1]; exact List.mem_cons_self
      · exact List.mem_cons_of_mem _ (List.mem_of_mem_take h1)))⟩
    have HN : Aside0 (∀ i (h : i < ys.length), eitherM S W x (n :: ys.take (i + 1)) = joinM S W (eitherM S W x (n :: ys.take i)) (touchM S W x (ys[i]).toNat)) := ⟨fun i h => either_take S W x n ys h⟩
    have HE00 : Aside0 (eitherM S W x (n :: ys.take 0) = touchM S W x n) := ⟨rfl⟩
    have hfin : eitherM S W x ((n : Int) :: ys) = eitherM S W x (n :: ys.take ys.length) := by rw [List.take_length]
    rw [hfin]
    clear hfin
    obtain ⟨EE, hEE⟩ : ∃ EE : Nat → List (List (List Int)), ∀ i, eitherM S W x ((n : Int) :: ys.take i) = EE i := ⟨_, fun _ => rfl⟩
    simp only [hEE] at HV HN HE00
    rw [hEE]
    clear hEE
    clear hcopy htl f0 f1 f2 f3 k1 k2 k3 hr hx h hl hrl hcy hy hll hcl hlen
    go_enter Try.func39, Try.ntmps39
    go_upto_region 3 with (fail)
    have HSZ : Aside0 (w.heap.size + 3 ≤ (((w.alloc (.cells #[.int .i64 S, .int .i64 W, .int .i64 L] 26)).alloc (.cells #[.slice A x.length c] 39)).alloc (.cells #[.slice none 0 0] 39)).heap.size) := ⟨by rw [World.size_alloc, World.size_alloc, World.size_alloc]; omega⟩
    have hcy3 := pw_cell_below HB0.out hcy2
    generalize ((w.alloc (.cells #[.int .i64 S, .int .i64 W, .int .i64 L] 26)).alloc (.cells #[.slice A x.length c] 39)).alloc (.cells #[.slice none 0 0] 39) = W0 at *
    have hz := HSZ.out
    have z1 : w.heap.size < W0.heap.size := by omega
    have z2 : w.heap.size + 1 < W0.heap.size := by omega
    have z3 : w.heap.size + 1 + 1 < W0.heap.size := by omega
    have hcy4 : (W0.alloc (.cells #[.slice none 0 0] 39)).cell? bd = some (.int .i64 n) := pw_cell_below ((Below.refl _ _).alloc (Nat.le_refl _) _) hcy3
    have HXX : ∃ XX, XX = touchM S W x n := ⟨_, rfl⟩
    go_cut [7] from 17 to 22 (fun v7 wx => ∃ bo A1 c1, v7 = .pointer (some ⟨bo, 0, none⟩) ∧ Aside0 (EJ w wx bo (.slice A1 (touchM S W x n).length c1) (.slice A x.length c) (.int .i64 S) (.int .i64 W) (.int .i64 L) (touchM S W x n)))
    case first =>
      have q0a : (W0.alloc (.cells #[.slice none 0 0] 39)).cell? ⟨w.heap.size, 0, none⟩ = some (.int .i64 S) := pw_cell_below ((Below.refl _ _).alloc (Nat.le_refl _) _) q0
      have q1a : (W0.alloc (.cells #[.slice none 0 0] 39)).cell? ⟨w.heap.size, 1, none⟩ = some (.int .i64 W) := pw_cell_below ((Below.refl _ _).alloc (Nat.le_refl _) _) q1
      have q2a : (W0.alloc (.cells #[.slice none 0 0] 39)).cell? ⟨w.heap.size, 2, none⟩ = some (.int .i64 L) := pw_cell_below ((Below.refl _ _).alloc (Nat.le_refl _) _) q2
      have q3a : (W0.alloc (.cells #[.slice none 0 0] 39)).cell? ⟨w.heap.size + 1, 0, none⟩ = some (.slice A x.length c) := pw_cell_below ((Below.refl _ _).alloc (Nat.le_refl _) _) q3
      have q4a : (W0.alloc (.cells #[.slice none 0 0] 39)).cell? bd = some (.int .i64 n) := pw_cell_below ((Below.refl _ _).alloc (Nat.le_refl _) _) hcy3
      have n0 : w.heap.size ≠ W0.heap.size := by omega
      have n1 : w.heap.size + 1 ≠ W0.heap.size := by omega
      have n2 : bd.block ≠ W0.heap.size := by omega
      go_region_held3 (fun w' => w'.cell? ⟨w.heap.size, 0, none⟩ = some (.int .i64 S) ∧ w'.cell? ⟨w.heap.size, 1, none⟩ = some (.int .i64 W) ∧ w'.cell? ⟨w.heap.size, 2, none⟩ = some (.int .i64 L) ∧ w'.cell? ⟨w.heap.size + 1, 0, none⟩ = some (.slice A x.length c) ∧ w'.cell? bd = some (.int .i64 n))
        (first | exact ⟨q0, q1, q2, q3, hcy3⟩ | exact ⟨q0a, q1a, q2a, q3a, q4a⟩ | exact ⟨q0b, q1b, q2b, q3b, q4b⟩ | exact ⟨pw_cell_below ((Below.refl _ w1).alloc (Nat.le_refl _) _) q0b, pw_cell_below ((Below.refl _ w1).alloc (Nat.le_refl _) _) q1b, pw_cell_below ((Below.refl _ w1).alloc (Nat.le_refl _) _) q2b, pw_cell_below ((Below.refl _ w1).alloc (Nat.le_refl _) _) q3b, pw_cell_below ((Below.refl _ w1).alloc (Nat.le_refl _) _) q4b⟩ | exact ⟨(cell_far (show (⟨w.heap.size, 0, none⟩ : Addr).block ≠ (⟨W0.heap.size, 0, none⟩ : Addr).block from n0) _).trans q0b, (cell_far (show (⟨w.heap.size, 1, none⟩ : Addr).block ≠ (⟨W0.heap.size, 0, none⟩ : Addr).block from n0) _).trans q1b, (cell_far (show (⟨w.heap.size, 2, none⟩ : Addr).block ≠ (⟨W0.heap.size, 0, none⟩ : Addr).block from n0) _).trans q2b, (cell_far (show (⟨w.heap.size + 1, 0, none⟩ : Addr).block ≠ (⟨W0.heap.size, 0, none⟩ : Addr).block from n1) _).trans q3b, (cell_far (show (bd : Addr).block ≠ (⟨W0.heap.size, 0, none⟩ : Addr).block from n2) _).trans q4b⟩ | go_keep)
        (first | (go_at_call 29; refine (HT.out _ (by first | exact HB0.out.drew | exact (HB0.out.alloc HB0.out.size _).drew)).mono ?_; rintro e w1 ⟨v1, vs1, us1, rfl, hT1, hb1⟩; obtain ⟨A1, c1, rfl, _, _⟩ := hT1.reads; (try (have kb := (hb1.block W0.heap.size (by show W0.heap.size < (W0.alloc _).heap.size; rw [World.size_alloc]; omega)).trans (heap_new W0 (.cells #[.slice none 0 0] 39)); obtain ⟨kb1, kb2⟩ := cz1' kb)); have q0b : w1.cell? ⟨w.heap.size, 0, none⟩ = some (.int .i64 S) := (by first | exact pw_cell_below (w := W0.drew) hb1 q0 | exact pw_cell_below (w := (W0.alloc (.cells #[.slice none 0 0] 39)).drew) hb1 q0a); have q1b : w1.cell? ⟨w.heap.size, 1, none⟩ = some (.int .i64 W) := (by first | exact pw_cell_below (w := W0.drew) hb1 q1 | exact pw_cell_below (w := (W0.alloc (.cells #[.slice none 0 0] 39)).drew) hb1 q1a); have q2b : w1.cell? ⟨w.heap.size, 2, none⟩ = some (.int .i64 L) := (by first | exact pw_cell_below (w := W0.drew) hb1 q2 | exact pw_cell_below (w := (W0.alloc (.cells #[.slice none 0 0] 39)).drew) hb1 q2a); have q3b : w1.cell? ⟨w.heap.size + 1, 0, none⟩ = some (.slice A x.length c) := (by first | exact pw_cell_below (w := W0.drew) hb1 q3 | exact pw_cell_below (w := (W0.alloc (.cells #[.slice none 0 0] 39)).drew) hb1 q3a); have q4b : w1.cell? bd = some (.int .i64 n) := (by first | exact pw_cell_below (w := W0.drew) hb1 hcy3 | exact pw_cell_below (w := (W0.alloc (.cells #[.slice none 0 0] 39)).drew) hb1 q4a)))
      all_goals
        go_wp2_with fail
        go_meet
        case rel =>
          first
          | exact ⟨_, _, _, rfl, ⟨EJ.start1 HB0.out hz HK.out ⟨hb1.os, hb1.tape, hb1.output, hb1.size, hb1.block⟩ hT1⟩⟩
          | exact ⟨_, _, _, rfl, ⟨EJ.start2 HB0.out hz HK.out ⟨hb1.os, hb1.tape, hb1.output, hb1.size, hb1.block⟩ hT1⟩⟩
    case rest =>
      obtain ⟨bo, A1, c1, rfl, HE⟩ := hcut
      clear HK q0 q1 q2 q3 hcy3 hcy4 z1 z2 z3 hz HSZ HB0 hbdl
      have HE1 := HE.out
      rw [← HE00.out] at HE1
      have HE0 := Aside0.mk HE1
      clear HE HE1 HE00
      go_upto_region 4 with (fail)
      go_cut [24, 25, 26] from 17 to 26 (fun v24 v25 v26 wx => ∃ T k, v24 = .slice T ys.length k ∧ v25 = .int .i64 ys.length ∧ v26 = .int .i64 0 ∧ wc = wx ∧ Aside0 (C1 w T ys))
      case first =>
        by_cases hc1 : c' = 1
        · subst hc1
          obtain rfl : ys = [] := List.eq_nil_of_length_eq_zero (by omega)
          have H := HTL.out
          rw [if_pos rfl] at H
          have HH := Aside0.mk H
          clear H HTL
          go_wp2_with fail
          go_meet
          exact ⟨_, _, rfl, rfl, rfl, rfl, HH⟩
        · have H := HTL.out
          rw [if_neg hc1] at H
          have HH := Aside0.mk H
          clear H HTL
          go_wp2_with fail
          go_meet
          exact ⟨_, _, rfl, rfl, rfl, rfl, HH⟩
      case rest =>
        obtain ⟨T, k, rfl, rfl, rfl, rfl, HTY⟩ := hcut
        clear HTL hcy2
        go_wp2_with (fail)
        go_loopw [26] (fun v26 wr => ∃ i : Nat, i ≤ ys.length ∧ v26 = .int .i64 i ∧ ∃ A1 c1, Aside0 (EJ w wr bo (.slice A1 (EE i).length c1) (.slice A x.length c) (.int .i64 S) (.int .i64 W) (.int .i64 L) (EE i))) (fun v26 _ => ys.length - (RowKit.intOf v26).toNat)
        case atStart => exact ⟨0, Nat.zero_le _, rfl, _, _, HE0⟩
        case round =>
          clear HE0
          obtain ⟨i, hi, rfl, A1, c1, HE⟩ := hrel
          by_cases hlt : i < ys.length
          · obtain ⟨ad, rfl, hcell⟩ := C1.get (Kd.C_below HTY.out HE.out.below) hlt
            obtain ⟨m, hm⟩ : ∃ m : Nat, ys[i] = (m : Int) := ⟨ys[i].toNat, by have := HYS.out _ (List.getElem_mem hlt); omega⟩
            have HNi := HN.out i hlt
            rw [hm] at hcell HNi
            have HNi2 : Aside0 (EE (i + 1) = joinM S W (EE i) (touchM S W x m)) := ⟨HNi⟩
            have HVi := Aside0.mk (HV.out i)
            have HVm : Aside0 (Val S W (touchM S W x m)) := ⟨HX.out.touch (by have := HYS.out _ (List.getElem_mem hlt); omega)⟩
            obtain ⟨q0, q1, q2, f0, f1, f2⟩ := cz3 HE.out.c
            obtain ⟨q3, f3⟩ := cz1' HE.out.m
            obtain ⟨q5, f5⟩ := cz1' HE.out.o
            obtain ⟨hcl1, HCE⟩ : (EE i).length ≤ c1 ∧ Aside0 (C3 wr A1 (EE i)) := by
              obtain ⟨vs, us, hT⟩ := HE.out.sets
              obtain ⟨A2, c2, e1, h1, h2⟩ := hT.reads
              injection e1 with e1 e2 e3
              subst e1; subst e3
              exact ⟨h1, ⟨h2⟩⟩
            clear HNi hm f0 f1 f2 f3 HN HV HT
            generalize EE i = X at *
            go_upto_region 7 with (fail)
            have hob := HE.out.ob
            have hn0 : w.heap.size ≠ bo := by omega
            have hn1 : w.heap.size + 1 ≠ bo := by omega
            refine HeldTill.begin_ (S := fun w' => w'.cell? ⟨w.heap.size, 0, none⟩ = some (.int .i64 S) ∧ w'.cell? ⟨w.heap.size, 1, none⟩ = some (.int .i64 W) ∧ w'.cell? ⟨w.heap.size, 2, none⟩ = some (.int .i64 L) ∧ w'.cell? ⟨w.heap.size + 1, 0, none⟩ = some (.slice A x.length c) ∧ w'.cell? ⟨bo, 0, none⟩ = some (.slice A1 X.length c1)) (F := fun j => j != 7) (by kernel_rfl) ?_
            have hS0 : (fun w' => w'.cell? ⟨w.heap.size, 0, none⟩ = some (.int .i64 S) ∧ w'.cell? ⟨w.heap.size, 1, none⟩ = some (.int .i64 W) ∧ w'.cell? ⟨w.heap.size, 2, none⟩ = some (.int .i64 L) ∧ w'.cell? ⟨w.heap.size + 1, 0, none⟩ = some (.slice A x.length c) ∧ w'.cell? ⟨bo, 0, none⟩ = some (.slice A1 X.length c1)) wr.drew := ⟨q0, q1, q2, q3, q5⟩
            refine HeldTill.take (i := 0) (n := 7) (v := ?_) rfl (by kernel_rfl) (by kernel_rfl) (by kernel_rfl) (by kernel_rfl) (fun _ _ _ h => h) (Or.inl ⟨by rfl, ?_⟩) hS0 ?_
            rotate_left
            · intro w hSw; (try dsimp only at hSw); go_simp; (try with_reducible rfl)
            simp only [Act.put, List.setIfInBounds_toArray, List.set_cons_zero, List.set_cons_succ, List.getElem_toArray, List.getElem_cons_zero, List.getElem_cons_succ]
            refine HeldTill.take (i := 1) (n := 6) (v := ?_) rfl (by kernel_rfl) (by kernel_rfl) (by kernel_rfl) (by kernel_rfl) (fun _ _ _ h => h) (Or.inl ⟨by rfl, ?_⟩) hS0 ?_
            rotate_left
            · intro w hSw; (try dsimp only at hSw); go_simp; (try with_reducible rfl)
            simp only [Act.put, List.setIfInBounds_toArray, List.set_cons_zero, List.set_cons_succ, List.getElem_toArray, List.getElem_cons_zero, List.getElem_cons_succ]
            refine HeldTill.take (i := 2) (n := 5) (v := ?_) rfl (by kernel_rfl) (by kernel_rfl) (by kernel_rfl) (by kernel_rfl) (fun _ _ _ h => h) (Or.inl ⟨by rfl, ?_⟩) hS0 ?_
            rotate_left
            · intro w hSw; (try dsimp only at hSw); go_simp; (try with_reducible rfl)
            simp only [Act.put, List.setIfInBounds_toArray, List.set_cons_zero, List.set_cons_succ, List.getElem_toArray, List.getElem_cons_zero, List.getElem_cons_succ]
            refine HeldTill.take (i := 3) (n := 4) (v := ?_) rfl (by kernel_rfl) (by kernel_rfl) (by kernel_rfl) (by kernel_rfl) (fun _ _ _ h => h) (Or.inl ⟨by rfl, ?_⟩) hS0 ?_
            rotate_left
            · intro w hSw; (try dsimp only at hSw); go_simp; (try with_reducible rfl)
            simp only [Act.put, List.setIfInBounds_toArray, List.set_cons_zero, List.set_cons_succ, List.getElem_toArray, List.getElem_cons_zero, List.getElem_cons_succ]
            refine HeldTill.take (i := 4) (n := 3) (v := ?_) rfl (by kernel_rfl) (by kernel_rfl) (by kernel_rfl) (by kernel_rfl) (fun _ _ _ h => h) (Or.inl ⟨by rfl, ?_⟩) hS0 ?_
            rotate_left
            · intro w hSw; (try dsimp only at hSw); go_simp; (try with_reducible rfl)
            simp only [Act.put, List.setIfInBounds_toArray, List.set_cons_zero, List.set_cons_succ, List.getElem_toArray, List.getElem_cons_zero, List.getElem_cons_succ]
            refine HeldTill.next (j := 5) (n := 2) (by kernel_rfl) rfl ?_
            go_wp2_with (go_at_call 29; refine (htouch.out m _ HE.out.below.drew).mono ?_; rintro e w1 ⟨v1, vs1, us1, rfl, hT1, hb1⟩; obtain ⟨A2, c2, rfl, hc2, hr2⟩ := hT1.reads; have q0b := pw_cell_below (w := wr.drew) hb1 q0; have q1b := pw_cell_below (w := wr.drew) hb1 q1; have q2b := pw_cell_below (w := wr.drew) hb1 q2; have q3b := pw_cell_below (w := wr.drew) hb1 q3; have q5b := pw_cell_below (w := wr.drew) hb1 q5; have f5b := frozen_below (w := wr.drew) hb1 q5 f5; have HC2 := Aside0.mk hr2; have HC1 := Aside0.mk (Kd.C_below (w := wr) HCE.out ⟨hb1.os, hb1.tape, hb1.output, hb1.size, hb1.block⟩); have HB1 := Aside0.mk (Below.mk (B := wr.heap.size) (w := wr) (w' := w1) hb1.os hb1.tape hb1.output hb1.size hb1.block); clear hr2 hT1 hb1)
            refine ⟨fun _ => ⟨q0b, q1b, q2b, q3b, q5b⟩, ?_⟩
            refine HeldTill.next (j := 6) (n := 1) (by kernel_rfl) rfl ?_
            go_wp2_with (go_at_call 34; refine (hjoin.out A1 A2 c1 c2 X (touchM S W x m) w1 HVi.out HVm.out HC1.out hcl1 HC2.out hc2).mono ?_; rintro e w2 ⟨v2, vs2, us2, rfl, hT2, hb2⟩; obtain ⟨A3, c3, rfl, _, _⟩ := hT2.reads; have q5c := pw_cell_below hb2 q5b; have f5c := frozen_below hb2 q5b f5b; have HB2 := Aside0.mk hb2; have HT2 := Aside0.mk hT2; have q0c := pw_cell_below hb2 q0b; have q1c := pw_cell_below hb2 q1b; have q2c := pw_cell_below hb2 q2b; have q3c := pw_cell_below hb2 q3b; clear hb2 hT2)
            refine ⟨fun _ => ⟨q0c, q1c, q2c, q3c, q5c⟩, ?_⟩
            refine HeldTill.next (j := 7) (n := 0) (by kernel_rfl) rfl ?_
            go_wp2
            refine ⟨fun h => absurd h (by decide), (by kernel_rfl), ?_⟩
            all_goals
              have HE2 := HE.out.next (HB1.out.trans (HB2.out.mono HB1.out.size)) (HT2.out.lower HB1.out.size)
              have HE3 : Aside0 (∃ A1 c1, Aside0 (EJ w (w2.setCell ⟨bo, 0, none⟩ (.slice A3 (joinM S W X (touchM S W x m)).length c3)) bo (.slice A1 (EE (i + 1)).length c1) (.slice A x.length c) (.int .i64 S) (.int .i64 W) (.int .i64 L) (EE (i + 1)))) := ⟨A3, c3, ⟨by rw [HNi2.out]; exact HE2⟩⟩
              clear HE2 HNi2
              go_wp2
              go_roundw
              case rel => exact ⟨i + 1, hlt, by go_num, HE3.out⟩
              case measure => simp [RowKit.intOf]; omega
          · obtain rfl : i = ys.length := by omega
            obtain ⟨q5, f5⟩ := cz1' HE.out.o
            obtain ⟨q4, f4⟩ := cz1' HE.out.r
            clear f5
            go_wp2
            refine bodyPost_ret (results_cell rfl _ _ (w.heap.size + 2) 39 #[.slice A1 (EE ys.length).length c1] (0, 0) _ rfl (blk_put (cs := #[.slice none 0 0]) HE.out.r 0 _ rfl) Try.underlying39 rfl (by kernel_rfl)) rfl ?_
            obtain ⟨vs, us, hT⟩ := HE.out.sets
            exact ⟨_, vs, us, rfl, hT.setFar HE.out.r (by decide) _, HE.out.below.setCell (by show w.heap.size ≤ w.heap.size + 1 + 1; omega) _⟩
end Go.Proofs.Ytkgocbmnjlfkoaa.M
end
section
namespace Go.Proofs.Ytkgocbmnjlfkoaa.X
open Go.RowKit Go.Proofs.YtkgocbmnjlfkoaaW.PrintWords Go.Proofs.YtkgocbmnjlfkoaaW.PrintLast Go.Proofs.YtkgocbmnjlfkoaaW.PrintMore
attribute [local go_sem] max2_int min2_int max_two min_two max_three min_three max_four min_four
set_option linter.unusedVariables false
set_option linter.unusedSimpArgs false
def timeboundmake_Mod.f (a0 : Int) (a1 : Int) : Option (Int) := if a1 = 0 then (none) else (some (Int.tmod (wrap64 ((Int.tmod a0 a1) + a1)) a1))
set_option maxHeartbeats 80000000 in
set_option maxRecDepth 100000 in
theorem timeboundmake_Mod.calls (a0 : Int) (a1 : Int) (r : Int) (w : World) (h : timeboundmake_Mod.f a0 a1 = some r) :
   Calls Try.prog 24 #[.int .i64 a0, .int .i64 a1] w fun e w' => e = .returned (.int .i64 r) ∧ Drawn0 w w' := by
  have H : (if a1 = 0 then (none) else (some (Int.tmod (wrap64 ((Int.tmod a0 a1) + a1)) a1))) = some r := h
  clear h
  by_cases c3 : a1 = 0
  ·rw [if_pos c3] at H
   exact absurd H (by simp)
  ·rw [if_neg c3] at H
   have c3b0 : (a1 == 0) = false := beq_eq_false_iff_ne.mpr c3
   have c3b1 : (a1 != 0) = true := bne_iff_ne.mpr c3
   obtain rfl := Option.some.inj H
   go_enter Try.func24, Try.ntmps24
   go_wp2
   go_ret
   exact ⟨by first | rfl | (simp; done) | (simp [*]; done), by repeat (first | exact Drawn0.refl _ | apply Drawn0.step)⟩
def IsS72 (w0 W : World) (g : Nat) (f0 : List Int) (f1 : Int) : Prop := ∃ A0 c0, W.heap[g]? = some (.cells #[.slice A0 f0.length c0, .int .i64 f1] 72 (0, 0)) ∧ w0.heap.size ≤ g ∧ Kd.C (Kd.int .i64) w0 A0 f0.length f0
theorem IsS72.grown {w0 W : World} {g : Nat} {f0 : List Int} {f1 : Int} {W1 : World} {row : Option Nat} (h : IsS72 w0 W g f0 f1) (hw : W.grownBy W1 row) (hne : some g ≠ row) : IsS72 w0 W1 g f0 f1 := by
  obtain ⟨A0, c0, hb, hg, hr0⟩ := h
  exact ⟨A0, c0, blk_grown hb hw hne, hg, hr0⟩
theorem IsS72.kept {w0 W : World} {g : Nat} {f0 : List Int} {f1 : Int} {W1 : World} {S : Nat → Prop} (h : IsS72 w0 W g f0 f1) (hk : Kept W W1 S) (hne : ¬ S g) : IsS72 w0 W1 g f0 f1 := by
  obtain ⟨A0, c0, hb, hg, hr0⟩ := h
  exact ⟨A0, c0, blk_kept hb hk hne, hg, hr0⟩
theorem IsS72.below {w0 W : World} {g : Nat} {f0 : List Int} {f1 : Int} {W1 : World} (h : IsS72 w0 W g f0 f1) (hw : Below W.heap.size W W1) : IsS72 w0 W1 g f0 f1 := h.grown (grown_of_below hw none) (by simp)
theorem IsS72.alloc {w0 W : World} {g : Nat} {f0 : List Int} {f1 : Int} (h : IsS72 w0 W g f0 f1) (o : Obj) : IsS72 w0 (W.alloc o) g f0 f1 := h.below (below_alloc (Below.refl _ _) o)
theorem IsS72.drewN {w0 W : World} {g : Nat} {f0 : List Int} {f1 : Int} (h : IsS72 w0 W g f0 f1) (m : Nat) : IsS72 w0 (W.drewN m) g f0 f1 := h
theorem IsS72.drew {w0 W : World} {g : Nat} {f0 : List Int} {f1 : Int} (h : IsS72 w0 W g f0 f1) : IsS72 w0 W.drew g f0 f1 := h
theorem IsS72.at_ {w0 W : World} {g : Nat} {f0 : List Int} {f1 : Int} {w' : World} {m : Nat} (hq : W.drewN m = w') (h : IsS72 w0 W g f0 f1) : IsS72 w0 w' g f0 f1 := by subst hq; exact IsS72.drewN h m
theorem IsS72.apart {w0 W : World} {g : Nat} {f0 : List Int} {f1 : Int} {α : Type} {d : Kd α} {e : Nat} {base : Nat} {ok : Nat → Prop} {v : Value} {xs : List α} (h : IsS72 w0 W g f0 f1) (ho : d.R e W base ok v xs) (ht : ∀ q, q ∈ e :: d.E → q ≠ 72) : d.R e W base (fun k => ok k ∧ k ≠ g) v xs := by
  obtain ⟨A0, c0, hb, hg, hr0⟩ := h
  exact Kd.R_types ho hb ht
theorem IsS72.own_ne {w0 W : World} {g : Nat} {f0 : List Int} {f1 : Int} {α : Type} {d : Kd α} {e : Nat} {base : Nat} {ok : Nat → Prop} {v : Value} {xs : List α} (h : IsS72 w0 W g f0 f1) (ho : d.R e W base ok v xs) (ht : e ≠ 72) : some g ≠ v.ownBlock := by
  obtain ⟨A0, c0, hb, hg, hr0⟩ := h
  exact Kd.R_ne ho hb ht
theorem IsS72.lt {w0 W : World} {g : Nat} {f0 : List Int} {f1 : Int} (h : IsS72 w0 W g f0 f1) : g < W.heap.size := by
  obtain ⟨A0, c0, hb, hg, hr0⟩ := h
  exact blk_lt hb
theorem IsS72.ge {w0 W : World} {g : Nat} {f0 : List Int} {f1 : Int} (h : IsS72 w0 W g f0 f1) : w0.heap.size ≤ g := by
  obtain ⟨A0, c0, hb, hg, hr0⟩ := h
  exact hg
theorem IsS72.ne_blk {w0 W : World} {g : Nat} {f0 : List Int} {f1 : Int} {a : Nat} {cs : Array Value} {t : TypeId} {fr : Nat × Nat} (h : IsS72 w0 W g f0 f1) (hb2 : W.heap[a]? = some (.cells cs t fr)) (ht : t ≠ 72) : g ≠ a := by
  obtain ⟨A0, c0, hb, hg, hr0⟩ := h
  rintro rfl
  rw [hb] at hb2
  injection hb2 with hb2
  injection hb2 with _ ht2
  exact ht ht2.symm
theorem IsS72.far {w0 W : World} {g : Nat} {f0 : List Int} {f1 : Int} {p : Addr} (h : IsS72 w0 W g f0 f1) (hne : g ≠ p.block) (u : Value) : IsS72 w0 (W.setCell p u) g f0 f1 := by
  obtain ⟨A0, c0, hb, hg, hr0⟩ := h
  exact ⟨A0, c0, blk_far hb hne u, hg, hr0⟩
theorem cellS72_0 {W : World} {g : Nat} {A0 : Option Addr} {c0 : Nat} {f0 : List Int} {f1 : Int} (h : W.heap[g]? = some (.cells #[.slice A0 f0.length c0, .int .i64 f1] 72 (0, 0))) : W.cell? ⟨g, 0, none⟩ = some (.slice A0 f0.length c0) := (blk_cell h 0).trans rfl
theorem cellS72_1 {W : World} {g : Nat} {A0 : Option Addr} {c0 : Nat} {f0 : List Int} {f1 : Int} (h : W.heap[g]? = some (.cells #[.slice A0 f0.length c0, .int .i64 f1] 72 (0, 0))) : W.cell? ⟨g, 1, none⟩ = some (.int .i64 f1) := (blk_cell h 1).trans rfl
theorem IsS72.set_1 {w0 W : World} {g : Nat} {f0 : List Int} {f1 : Int} (h : IsS72 w0 W g f0 f1) (x : Int) : IsS72 w0 (W.setCell ⟨g, 1, none⟩ (.int .i64 x)) g f0 x := by
  obtain ⟨A0, c0, hb, hg, hr0⟩ := h
  exact ⟨A0, c0, by simpa using blk_set hb 1 (.int .i64 x), hg, hr0⟩
def timeboundmake_New.f (l0 : List Int) : Option (List Int × Int) := some (l0, 0)
set_option maxHeartbeats 80000000 in
set_option maxRecDepth 100000 in
theorem timeboundmake_New.calls (A0 : Option Addr) (c0 : Nat) (l0 : List Int) (r1 : List Int) (r2 : Int) (w0 w : World) (hB : Below w0.heap.size w0 w) (hr0 : Kd.C (Kd.int .i64) w0 A0 l0.length l0) (hc0 : l0.length ≤ c0) (h : timeboundmake_New.f l0 = some (r1, r2)) :
   Calls Try.prog 14 #[.slice A0 l0.length c0] w fun e w' => ∃ g_ : Nat, e = .returned (.pointer (some ⟨g_, 0, none⟩)) ∧ IsS72 w0 w' g_ r1 r2 ∧ Below w0.heap.size w0 w' ∧ Below w.heap.size w w' := by
  have hu72 := Try.underlying72
  have HR0 := Aside0.mk hr0
  have HC0 := Aside0.mk hc0
  clear hr0 hc0
  have HBW := Aside0.mk (Below.refl w.heap.size w)
  have HW0 := Aside0.mk hB.size
  have HB := Aside0.mk hB
  clear hB
  have H : (some (l0, 0)) = some (r1, r2) := h
  clear h
  simp only [Option.some.injEq, Prod.mk.injEq] at H
  obtain ⟨rfl, rfl⟩ := H
  go_enter Try.func14, Try.ntmps14
  go_wp2_with (first | ((with_reducible refine gate_dst (N := 5) rfl ?_); refine box_event ?hg (N := 5) ?hd (cs := #[.slice A0 l0.length c0, .int .i64 0]) (t := 72) ?hr ?_; (case hd => rfl); (case hg => rfl); (case hr => first | (go_simp; done) | (go_simp; rfl)); intro gb101 hg w2 hbox hb; have n0_ := Aside0.mk (below_step HBW.out hb); have n1_ := Aside0.mk (below_step (hB0 HB.out) hb); have n2_ := Aside0.mk (hbox); have n3_ := Aside0.mk ((by rw [hg]; exact (below_size (by repeat (first | (with_reducible first | exact HBW.out | apply below_alloc | apply pw_below_drewN | apply below_drew1) | exact HBW.out))) : w.heap.size ≤ gb101)); have n4_ := Aside0.mk ((Nat.le_trans HW0.out (by rw [hg]; exact (below_size (by repeat (first | (with_reducible first | exact HBW.out | apply below_alloc | apply pw_below_drewN | apply below_drew1) | exact HBW.out))) : w.heap.size ≤ gb101) : w0.heap.size ≤ gb101)); clear HBW HB; have HBW := n0_; have HB := n1_; have BK101 := n2_; have GW101 := n3_; have GE101 := n4_; clear n0_ n1_ n2_ n3_ n4_; clear hb hbox hg))
  go_ret
  exact ⟨_, rfl, (show IsS72 w0 _ gb101 l0 0 from ⟨_, _, by (with_reducible repeat (first | refine blk_drewN ?_ _ | refine blk_drew ?_ | refine blk_alloc ?_ _)); exact BK101.out, GE101.out, HR0.out⟩), hB1 HB.out GE101.out, by repeat (first | (with_reducible first | exact HBW.out | apply below_alloc | apply pw_below_drewN | apply below_drew1 | refine below_set ?_ GW101.out) | exact HBW.out)⟩
section
variable {P Q A B C : Prop}
theorem IsS72.k0 (q : Q) (h : Q → P := by intro q; repeat (first | (with_reducible first | exact q | apply IsS72.alloc | apply IsS72.drewN | apply IsS72.drew | apply IsS72.set_1) | exact q)) : P := h q
end
end Go.Proofs.Ytkgocbmnjlfkoaa.X
end
