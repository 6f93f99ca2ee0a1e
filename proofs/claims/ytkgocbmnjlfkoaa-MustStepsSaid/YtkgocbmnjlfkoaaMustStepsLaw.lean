/- The Must law on all functions holds of the given program for every input. -/
import Derived.Test.YtkgocbmnjlfkoaaMustStepsPart3
import Derived.Deep.CutRange
import Derived.SizedLaws
import Derived.ChangeSlices
import Derived.ChangeSame
import Derived.Deep.Slices
import Derived.Test.YtkgocbmnjlfkoaaRows
import Derived.WalkKit
import Derived.ProofKit
import Derived.OpenShut
import Derived.ShutString
import Derived.ChangeOld
import Derived.Below
section
namespace Go.Proofs.Ytkgocbmnjlfkoaa.M
open Go.RowKit Go.Proofs.Ytkgocbmnjlfkoaa.X Go.Proofs.YtkgocbmnjlfkoaaW.PrintWords Go.Proofs.YtkgocbmnjlfkoaaW.PrintLast Go.Proofs.YtkgocbmnjlfkoaaW.PrintMore
set_option linter.unusedVariables false
set_option linter.unusedSimpArgs false
theorem T1.keepD {wD w w' : World} {g : Nat} {xs : List Int} {b : Nat} {v : Value} {l : List Int} (hT : T1 w b v l) (h : Dk wD g xs w) (hk : KeepBut w w' g none) : T1 w' b v l := hT.keep fun k hi => by
  obtain ⟨c, hc⟩ := hT.typed hi
  rw [hc]
  exact h.blk hk hc (by decide)
theorem T1.setFar {w : World} {b : Nat} {v : Value} {l : List Int} (h : T1 w b v l) {k t i : Nat} {c : Array Value} (hk : w.heap[k]? = some (.cells c t (0, 0))) (ht : t ≠ 3) (u : Value) : T1 (w.setCell ⟨k, i, none⟩ u) b v l := h.keep fun j hj => by
  obtain ⟨c2, hc⟩ := h.typed hj
  refine Below.heap_setCell w ⟨k, i, none⟩ u j ?_
  show j ≠ k
  intro e
  subst e
  rw [hk] at hc
  injection hc with hc
  injection hc with _ hc _
  exact ht hc
inductive Th
  | s3 (v : Value) (X : List (List (List Int)))
  | s2 (v : Value) (l : List (List Int))
  | s1 (v : Value) (l : List Int)
def Th.ok (w : World) : Th → Prop
  | .s3 v X => ∃ b vs us, T3 w b v vs us X
  | .s2 v l => ∃ b vs, T2 w b v vs l
  | .s1 v l => ∃ b, T1 w b v l
theorem Th.below {w w' : World} {t : Th} (h : t.ok w) (hb : Below w.heap.size w w') : t.ok w' := by
  cases t with
  | s3 v X => obtain ⟨b, vs, us, hT⟩ := h; exact ⟨b, vs, us, hT.below hb⟩
  | s2 v l => obtain ⟨b, vs, hT⟩ := h; exact ⟨b, vs, hT.fr (Fr.ofBelow (S := fun _ => False) hb) (fun _ _ => id)⟩
  | s1 v l => obtain ⟨b, hT⟩ := h; exact ⟨b, hT.fr (Fr.ofBelow (S := fun _ => False) hb) (fun _ _ => id)⟩
theorem Th.keepD {wD w w' : World} {g : Nat} {xs : List Int} {t : Th} (ht : t.ok w) (h : Dk wD g xs w) (hk : KeepBut w w' g none) : t.ok w' := by
  cases t with
  | s3 v X => obtain ⟨b, vs, us, hT⟩ := ht; exact ⟨b, vs, us, hT.keepD h hk⟩
  | s2 v l => obtain ⟨b, vs, hT⟩ := ht; exact ⟨b, vs, hT.keepD h hk⟩
  | s1 v l => obtain ⟨b, hT⟩ := ht; exact ⟨b, hT.keepD h hk⟩
def BoxT (t : TypeId) : Prop := t ≠ 72 ∧ t ≠ 43 ∧ t ≠ 22 ∧ t ≠ 3
theorem Th.setFar {w : World} {k i : Nat} {c : Array Value} {ty : TypeId} {t : Th} (h : t.ok w) (hk : w.heap[k]? = some (.cells c ty (0, 0))) (ht : BoxT ty) (u : Value) : t.ok (w.setCell ⟨k, i, none⟩ u) := by
  cases t with
  | s3 v X => obtain ⟨b, vs, us, hT⟩ := h; exact ⟨b, vs, us, hT.setFar hk ⟨ht.2.1, ht.2.2.1, ht.2.2.2⟩ u⟩
  | s2 v l => obtain ⟨b, vs, hT⟩ := h; exact ⟨b, vs, hT.setFar hk ⟨ht.2.2.1, ht.2.2.2⟩ u⟩
  | s1 v l => obtain ⟨b, hT⟩ := h; exact ⟨b, hT.setFar hk ht.2.2.2 u⟩
structure LM (w wr : World) (g : Nat) (xs : List Int) (Bx : List (Nat × Array Value × TypeId)) (Tx : List Th) : Prop where
  deck : Dk w g xs wr
  bx : ∀ p ∈ Bx, wr.heap[p.1]? = some (.cells p.2.1 p.2.2 (0, 0)) ∧ BoxT p.2.2 ∧ w.heap.size ≤ p.1
  ne : Bx.Pairwise (fun p q => q.1 ≠ p.1)
  tx : ∀ t ∈ Tx, t.ok wr
section
variable {w wr w' : World} {g : Nat} {xs : List Int} {Bx : List (Nat × Array Value × TypeId)} {Tx : List Th}
theorem LM.below (h : LM w wr g xs Bx Tx) : Below w.heap.size w wr := h.deck.bel
theorem LM.step (h : LM w wr g xs Bx Tx) (hb : Below wr.heap.size wr w') : LM w w' g xs Bx Tx :=
  ⟨h.deck.below hb, fun p hp => ⟨(hb.block _ (blk_lt (h.bx p hp).1)).trans (h.bx p hp).1, (h.bx p hp).2⟩, h.ne, fun t ht => Th.below (h.tx t ht) hb⟩
theorem LM.alloc (h : LM w wr g xs Bx Tx) (o : Obj) : LM w (wr.alloc o) g xs Bx Tx := h.step ((Below.refl _ _).alloc (Nat.le_refl _) _)
theorem LM.drew (h : LM w wr g xs Bx Tx) : LM w wr.drew g xs Bx Tx := h.step (Below.refl _ _).drew
theorem LM.turn (h : LM w wr g xs Bx Tx) (hd : Dk w g xs w') (hk : KeepBut wr w' g none) : LM w w' g xs Bx Tx :=
  ⟨hd, fun p hp => ⟨h.deck.blk hk (h.bx p hp).1 (h.bx p hp).2.1.1, (h.bx p hp).2⟩, h.ne, fun t ht => Th.keepD (h.tx t ht) h.deck hk⟩
theorem LM.add (h : LM w wr g xs Bx Tx) {t : Th} (ht : t.ok wr) : LM w wr g xs Bx (t :: Tx) := ⟨h.deck, h.bx, h.ne, fun u hu => by
  rcases List.mem_cons.1 hu with rfl | hu
  · exact ht
  · exact h.tx u hu⟩
theorem LM.drop (h : LM w wr g xs Bx Tx) {Tx' : List Th} (ht : ∀ t ∈ Tx', t ∈ Tx) : LM w wr g xs Bx Tx' := ⟨h.deck, h.bx, h.ne, fun u hu => h.tx u (ht u hu)⟩
theorem LM.swap {p q : Nat × Array Value × TypeId} (h : LM w wr g xs (p :: q :: Bx) Tx) : LM w wr g xs (q :: p :: Bx) Tx := by
  have h1 := List.pairwise_cons.1 h.ne
  have h2 := List.pairwise_cons.1 h1.2
  refine ⟨h.deck, fun r hr => h.bx r ?_, ?_, h.tx⟩
  · simp only [List.mem_cons] at hr ⊢
    rcases hr with e | e | e
    · exact .inr (.inl e)
    · exact .inl e
    · exact .inr (.inr e)
  · refine List.pairwise_cons.2 ⟨fun r hr => ?_, List.pairwise_cons.2 ⟨fun r hr => h1.1 r (List.mem_cons_of_mem _ hr), h2.2⟩⟩
    rcases List.mem_cons.1 hr with rfl | hr
    · exact Ne.symm (h1.1 q List.mem_cons_self)
    · exact h2.1 r hr
theorem LM.newB (h : LM w wr g xs Bx Tx) (cs : Array Value) (t : TypeId) (ht : BoxT t) : LM w (wr.alloc (.cells cs t)) g xs ((wr.heap.size, cs, t) :: Bx) Tx := by
  have h2 := h.alloc (.cells cs t)
  refine ⟨h2.deck, fun p hp => ?_, List.pairwise_cons.2 ⟨fun p hp => Nat.ne_of_lt (blk_lt (h.bx p hp).1), h.ne⟩, h2.tx⟩
  rcases List.mem_cons.1 hp with rfl | hp
  · exact ⟨heap_new _ _, ht, h.below.size⟩
  · exact h2.bx p hp
theorem pw_set' {Bx : List (Nat × Array Value × TypeId)} {i p : Nat} {u v : Array Value × TypeId} (h : Bx.Pairwise (fun p q => q.1 ≠ p.1)) (hi : Bx[i]? = some (p, u)) : (Bx.set i (p, v)).Pairwise (fun p q => q.1 ≠ p.1) := by
  obtain ⟨hl, e⟩ := List.getElem?_eq_some_iff.1 hi
  rw [List.pairwise_iff_getElem] at h ⊢
  intro a b ha hb hab
  rw [List.length_set] at ha hb
  have := h a b ha hb hab
  rw [List.getElem_set, List.getElem_set]
  have ee : (Bx[i]).1 = p := by rw [e]
  split <;> split <;> rename_i h1 h2 <;> (try subst h1) <;> (try subst h2) <;> first | omega | (rw [ee] at this; exact this) | exact this | (rw [← ee]; exact this)
theorem LM.put (h : LM w wr g xs Bx Tx) (i : Nat) {p : Nat} {cs : Array Value} {t : TypeId} (hi : Bx[i]? = some (p, cs, t)) (o : Nat) (v : Value) : LM w (wr.setCell ⟨p, o, none⟩ v) g xs (Bx.set i (p, cs.setIfInBounds o v, t)) Tx := by
  obtain ⟨hl, e⟩ := List.getElem?_eq_some_iff.1 hi
  have hm : (p, cs, t) ∈ Bx := e ▸ List.getElem_mem hl
  obtain ⟨h1, h2, h3⟩ := h.bx _ hm
  refine ⟨h.deck.set h1 h2.1 h3 v, fun q hq => ?_, pw_set' h.ne hi, fun t ht => Th.setFar (h.tx t ht) h1 h2 v⟩
  obtain ⟨j, hj, rfl⟩ := List.getElem_of_mem hq
  rw [List.length_set] at hj
  rw [List.getElem_set]
  by_cases ej : i = j
  · subst ej
    rw [if_pos rfl]
    exact ⟨blk_put h1 o v rfl, h2, h3⟩
  · rw [if_neg ej]
    have hq2 := h.bx _ (List.getElem_mem hj)
    refine ⟨blk_farm hq2.1 ?_, hq2.2⟩
    have hp2 := List.pairwise_iff_getElem.1 h.ne
    rcases Nat.lt_or_gt_of_ne ej with h5 | h5
    · have := hp2 i j hl hj h5
      rw [e] at this
      exact this
    · have := hp2 j i hj hl h5
      rw [e] at this
      exact Ne.symm this
theorem LM.blk (h : LM w wr g xs Bx Tx) (i : Nat) {p : Nat} {cs : Array Value} {t : TypeId} (hi : Bx[i]? = some (p, cs, t)) : wr.heap[p]? = some (.cells cs t (0, 0)) := (h.bx (p, cs, t) (by obtain ⟨hl, e⟩ := List.getElem?_eq_some_iff.1 hi; exact e ▸ List.getElem_mem hl)).1
theorem LM.cell (h : LM w wr g xs Bx Tx) (i : Nat) {p : Nat} {cs : Array Value} {t : TypeId} (hi : Bx[i]? = some (p, cs, t)) (o : Nat) {v : Value} (hv : cs[o]? = some v) : wr.cell? ⟨p, o, none⟩ = some v := (blk_cell (h.blk i hi) o).trans hv
theorem LM.free (h : LM w wr g xs Bx Tx) (i : Nat) {p : Nat} {cs : Array Value} {t : TypeId} (hi : Bx[i]? = some (p, cs, t)) (o : Nat) : wr.frozen? ⟨p, o, none⟩ = false := blk_frozen (h.blk i hi) o
theorem LM.th (h : LM w wr g xs Bx Tx) (i : Nat) {t : Th} (hi : Tx[i]? = some t) : t.ok wr := h.tx t (by obtain ⟨hl, e⟩ := List.getElem?_eq_some_iff.1 hi; exact e ▸ List.getElem_mem hl)
theorem LM.rd3 (h : LM w wr g xs Bx Tx) (i : Nat) {A : Option Addr} {n k : Nat} {X : List (List (List Int))} (hi : Tx[i]? = some (.s3 (.slice A n k) X)) : n = X.length ∧ X.length ≤ k ∧ C3 wr A X := by
  obtain ⟨b, vs, us, hT⟩ := h.th i hi
  exact hT.rd
theorem LM.rd2 (h : LM w wr g xs Bx Tx) (i : Nat) {A : Option Addr} {n k : Nat} {X : List (List Int)} (hi : Tx[i]? = some (.s2 (.slice A n k) X)) : n = X.length ∧ X.length ≤ k ∧ C2 wr A X := by
  obtain ⟨b, vs, hT⟩ := h.th i hi
  exact hT.rd
theorem T1.rd {w : World} {b n c : Nat} {A : Option Addr} {x : List Int} (h : T1 w b (.slice A n c) x) : n = x.length ∧ x.length ≤ c ∧ C1 w A x := by
  obtain ⟨A2, c2, e, h1, h2⟩ := h.reads
  injection e with e1 e2 e3
  subst e1; subst e2; subst e3
  exact ⟨rfl, h1, h2⟩
theorem LM.rd1 (h : LM w wr g xs Bx Tx) (i : Nat) {A : Option Addr} {n k : Nat} {X : List Int} (hi : Tx[i]? = some (.s1 (.slice A n k) X)) : n = X.length ∧ X.length ≤ k ∧ C1 wr A X := by
  obtain ⟨b, hT⟩ := h.th i hi
  exact hT.rd
theorem LM.first (h : Dk w g xs wr) : LM w wr g xs [] [] := ⟨h, fun p hp => (by cases hp), List.Pairwise.nil, fun q hq => (by cases hq)⟩
variable {S W L : Nat}
theorem LM.next (h : LM w wr g xs Bx Tx) (n : Int) (hn : n ≤ 1048577) : Calls Try.prog 18 #[.pointer (some ⟨g, 0, none⟩), .int .i64 n] wr fun e w' => ∃ r : Nat, e = .returned (.int .i64 r) ∧ (1 ≤ n → (r : Int) < n) ∧ (n < 1 → r = 0) ∧ LM w w' g xs Bx Tx := (next_calls h.deck n hn).mono fun e w' ⟨r, h1, h2, h3, h4, h5⟩ => ⟨r, h1, h2, h3, h.turn h4 h5⟩
theorem LM.line (h : LM w wr g xs Bx Tx) : Calls Try.prog 28 #[.pointer (some ⟨g, 0, none⟩)] wr fun e w' => ∃ n : Nat, e = .returned (.int .i64 n) ∧ n ≤ 1048576 ∧ LM w w' g xs Bx Tx := (line_calls h.deck).mono fun e w' ⟨r, h1, h2, h4, h5⟩ => ⟨r, h1, h2, h.turn h4 h5⟩
theorem LM.cache (h : LM w wr g xs Bx Tx) : Calls Try.prog 15 #[.pointer (some ⟨g, 0, none⟩)] wr fun e w' => ∃ S W L : Nat, e = .returned (.agg #[.int .i64 S, .int .i64 W, .int .i64 L]) ∧ CacheOk S W L ∧ LM w w' g xs Bx Tx := (cache_calls h.deck).mono fun e w' ⟨S, W, L, h1, h2, h4, h5⟩ => ⟨S, W, L, h1, h2, h.turn h4 h5⟩
theorem LM.few (h : LM w wr g xs Bx Tx) : Calls Try.prog 38 #[.pointer (some ⟨g, 0, none⟩)] wr fun e w' => ∃ A c r, e = .returned (.slice A (r : List Int).length c) ∧ LinesOk r ∧ r.length ≤ 3 ∧ LM w w' g xs Bx (.s1 (.slice A r.length c) r :: Tx) := by
  have h0 := h
  obtain ⟨s, h1, h2, h3⟩ := h.deck
  obtain ⟨k, r, s', e1, k0, k1, k3⟩ := few_ h1
  refine (timeboundmake2_Few.calls k g xs s r s' w wr h2 h3 e1).mono ?_
  rintro e w' ⟨v, rfl, hR, i1, i2, i3⟩
  have hT := T1.ofR hR
  obtain ⟨A, c, rfl, j1, j2⟩ := hT.reads
  exact ⟨A, c, r, rfl, k0, k1, (h0.turn ⟨s', k3, i1, i2⟩ i3).add ⟨_, hT⟩⟩
theorem LM.must (hC : CacheOk S W L) (h : LM w wr g xs Bx Tx) : Calls Try.prog 22 #[.pointer (some ⟨g, 0, none⟩), .agg #[.int .i64 S, .int .i64 W, .int .i64 L]] wr fun e w' => ∃ A k X, e = .returned (.agg #[.slice A (X : List (List (List Int))).length k]) ∧ Val S W X ∧ LM w w' g xs Bx (.s3 (.slice A X.length k) X :: Tx) :=
  (must22_calls hC h.deck).mono fun e w' ⟨v, vs, us, X, he, hT, hV, hd, hk⟩ => by
    obtain ⟨A, k, rfl, _, _⟩ := hT.reads
    exact ⟨A, k, X, he, hV, (h.turn hd hk).add ⟨_, _, _, hT⟩⟩
theorem LM.contents (hC : CacheOk S W L) (h : LM w wr g xs Bx Tx) : Calls Try.prog 36 #[.pointer (some ⟨g, 0, none⟩), .agg #[.int .i64 S, .int .i64 W, .int .i64 L]] wr fun e w' => ∃ A k X, e = .returned (.agg #[.slice A (X : List (List Int)).length k]) ∧ Con S W X ∧ LM w w' g xs Bx (.s2 (.slice A X.length k) X :: Tx) :=
  (contents_calls hC h.deck).mono fun e w' ⟨v, vs, X, he, hT, hV, hd, hk⟩ => by
    obtain ⟨A, k, rfl, _, _⟩ := hT.reads
    exact ⟨A, k, X, he, hV, (h.turn hd hk).add ⟨_, _, hT⟩⟩
theorem LM.made (h : LM w wr g xs Bx Tx) {f : Nat} {args : Array Value} {X : List (List (List Int))} (hc : Calls Try.prog f args wr (New3S wr X)) : Calls Try.prog f args wr fun e w' => ∃ A k, e = .returned (.agg #[.slice A X.length k]) ∧ LM w w' g xs Bx (.s3 (.slice A X.length k) X :: Tx) :=
  hc.mono fun e w' ⟨v, vs, us, he, hT, hb⟩ => by
    obtain ⟨A, k, rfl, _, _⟩ := hT.reads
    exact ⟨A, k, he, (h.step hb).add ⟨_, _, _, hT⟩⟩
theorem LM.pure (h : LM w wr g xs Bx Tx) {f : Nat} {args : Array Value} {v : Value} (hc : Calls Try.prog f args wr fun e w' => e = .returned v ∧ Below wr.heap.size wr w') : Calls Try.prog f args wr fun e w' => e = .returned v ∧ LM w w' g xs Bx Tx :=
  hc.mono fun e w' ⟨he, hb⟩ => ⟨he, h.step hb⟩
theorem LM.touch (hC : CacheOk S W L) (h : LM w wr g xs Bx Tx) (i : Nat) {A : Option Addr} {k : Nat} {X : List (List (List Int))} (hi : Tx[i]? = some (.s3 (.slice A X.length k) X)) (hF : Fit S W X) (n : Nat) :
    Calls Try.prog 29 #[.agg #[.int .i64 S, .int .i64 W, .int .i64 L], .agg #[.slice A X.length k], .int .i64 n] wr fun e w' => ∃ A' k', e = .returned (.agg #[.slice A' (touchM S W X n).length k']) ∧ LM w w' g xs Bx (.s3 (.slice A' (touchM S W X n).length k') (touchM S W X n) :: Tx) :=
  h.made (touch_calls hC A k X n wr hF (h.rd3 i hi).2.2 (h.rd3 i hi).2.1)
theorem LM.rtouch (hC : CacheOk S W L) (h : LM w wr g xs Bx Tx) (i : Nat) {A : Option Addr} {k : Nat} {X : List (List (List Int))} (hi : Tx[i]? = some (.s3 (.slice A X.length k) X)) (hF : Fit S W X) (n : Nat) :
    Calls Try.prog 44 #[.agg #[.int .i64 S, .int .i64 W, .int .i64 L], .agg #[.slice A X.length k], .int .i64 n] wr fun e w' => ∃ A' k', e = .returned (.agg #[.slice A' (touchM S W X n).length k']) ∧ LM w w' g xs Bx (.s3 (.slice A' (touchM S W X n).length k') (touchM S W X n) :: Tx) :=
  h.made (rtouch_calls hC A k X n wr hF (h.rd3 i hi).2.2 (h.rd3 i hi).2.1)
theorem LM.join (hC : CacheOk S W L) (h : LM w wr g xs Bx Tx) (i j : Nat) {A B : Option Addr} {k m : Nat} {X Y : List (List (List Int))} (hi : Tx[i]? = some (.s3 (.slice A X.length k) X)) (hj : Tx[j]? = some (.s3 (.slice B Y.length m) Y)) (hF : Fit S W X) (hG : Fit S W Y) :
    Calls Try.prog 34 #[.agg #[.int .i64 S, .int .i64 W, .int .i64 L], .agg #[.slice A X.length k], .agg #[.slice B Y.length m]] wr fun e w' => ∃ A' k', e = .returned (.agg #[.slice A' (joinM S W X Y).length k']) ∧ LM w w' g xs Bx (.s3 (.slice A' (joinM S W X Y).length k') (joinM S W X Y) :: Tx) :=
  h.made (mjoin_calls hC A B k m X Y wr hF hG (h.rd3 i hi).2.2 (h.rd3 i hi).2.1 (h.rd3 j hj).2.2 (h.rd3 j hj).2.1)
theorem LM.rjoin (hC : CacheOk S W L) (h : LM w wr g xs Bx Tx) (i j : Nat) {A B : Option Addr} {k m : Nat} {X Y : List (List (List Int))} (hi : Tx[i]? = some (.s3 (.slice A X.length k) X)) (hj : Tx[j]? = some (.s3 (.slice B Y.length m) Y)) (hF : Fit S W X) (hG : Fit S W Y) :
    Calls Try.prog 31 #[.agg #[.int .i64 S, .int .i64 W, .int .i64 L], .agg #[.slice A X.length k], .agg #[.slice B Y.length m]] wr fun e w' => ∃ A' k', e = .returned (.agg #[.slice A' (joinM S W X Y).length k']) ∧ LM w w' g xs Bx (.s3 (.slice A' (joinM S W X Y).length k') (joinM S W X Y) :: Tx) :=
  h.made (rjoin_calls hC A B k m X Y wr hF hG (h.rd3 i hi).2.2 (h.rd3 i hi).2.1 (h.rd3 j hj).2.2 (h.rd3 j hj).2.1)
theorem LM.mtop (hC : CacheOk S W L) (h : LM w wr g xs Bx Tx) : Calls Try.prog 35 #[.agg #[.int .i64 S, .int .i64 W, .int .i64 L]] wr fun e w' => ∃ A' k', e = .returned (.agg #[.slice A' (top S W).length k']) ∧ LM w w' g xs Bx (.s3 (.slice A' (top S W).length k') (top S W) :: Tx) :=
  h.made (mtop_calls hC wr)
theorem LM.bel (hC : CacheOk S W L) (h : LM w wr g xs Bx Tx) (i j : Nat) {A B : Option Addr} {k m : Nat} {X Y : List (List (List Int))} (hi : Tx[i]? = some (.s3 (.slice A X.length k) X)) (hj : Tx[j]? = some (.s3 (.slice B Y.length m) Y)) (hF : Fit S W X) (hG : Fit S W Y) (hB : Bel X Y) :
    Calls Try.prog 32 #[.agg #[.int .i64 S, .int .i64 W, .int .i64 L], .agg #[.slice A X.length k], .agg #[.slice B Y.length m]] wr fun e w' => e = .returned (.bool true) ∧ LM w w' g xs Bx Tx :=
  h.pure (below32_calls hC A B k m X Y wr hF hG hB (h.rd3 i hi).2.2 (h.rd3 i hi).2.1 (h.rd3 j hj).2.2 (h.rd3 j hj).2.1)
theorem LM.same (h : LM w wr g xs Bx Tx) (i j : Nat) {A B : Option Addr} {k m : Nat} {X : List (List (List Int))} (hi : Tx[i]? = some (.s3 (.slice A X.length k) X)) (hj : Tx[j]? = some (.s3 (.slice B X.length m) X)) (hF : Fit S W X) (hS : S ≤ 8) (hW : W ≤ 4) :
    Calls Try.prog 33 #[.slice A X.length k, .slice B X.length m] wr fun e w' => e = .returned (.bool true) ∧ LM w w' g xs Bx Tx :=
  h.pure (same_calls hF hS hW A B k m wr (h.rd3 i hi).2.2 (h.rd3 i hi).2.1 (h.rd3 j hj).2.2 (h.rd3 j hj).2.1)
theorem LM.age (hC : CacheOk S W L) (h : LM w wr g xs Bx Tx) (i : Nat) {A : Option Addr} {k : Nat} {X : List (List (List Int))} (hi : Tx[i]? = some (.s3 (.slice A X.length k) X)) (hF : Fit S W X) (n : Nat) :
    Calls Try.prog 30 #[.agg #[.int .i64 S, .int .i64 W, .int .i64 L], .agg #[.slice A X.length k], .int .i64 n] wr fun e w' => e = .returned (.int .i64 (ageM S W X n)) ∧ LM w w' g xs Bx Tx :=
  h.pure (mage_calls hC A k X n wr hF (h.rd3 i hi).2.2 (h.rd3 i hi).2.1)
theorem LM.awake (h : LM w wr g xs Bx Tx) : Calls Try.prog 27 #[] wr fun e w' => e = .returned (.bool true) ∧ LM w w' g xs Bx Tx := h.pure (awake27_calls wr)
end
theorem field39 (A : Option Addr) (n k : Nat) (w : World) : (Instr.field 39 (.agg #[.slice A n k]) 0).run Try.prog w = .ok (.slice A n k) w := by kernel_rfl
end Go.Proofs.Ytkgocbmnjlfkoaa.M
end
section
namespace Go.Proofs.Ytkgocbmnjlfkoaa.X
open Go.RowKit Go.Proofs.YtkgocbmnjlfkoaaW.PrintWords Go.Proofs.YtkgocbmnjlfkoaaW.PrintLast Go.Proofs.YtkgocbmnjlfkoaaW.PrintMore
attribute [local go_sem] max2_int min2_int max_two min_two max_three min_three max_four min_four
set_option linter.unusedVariables false
set_option linter.unusedSimpArgs false
def timeboundref22_Copy.l0 : Nat → Int → List (List Int) → List (List Int) → Option ((List (List Int)))
  | 0, _, _, _ => none
  | k + 1, x4, x102000, x104000 => if x4 < (x102000.length : Int) then ((some (([] : List Int) : List Int)).bind fun y104 => (if 0 ≤ x4 then (if y104.length + (rd_L1 x102000 x4).length < 17592186044416 then (if x104000.length < 5864062014805 then (timeboundref22_Copy.l0 k (wrap64 (x4 + 1)) x102000 (x104000 ++ [(y104 ++ (rd_L1 x102000 x4))])) else (none)) else (none)) else (none))) else (some x104000)
def timeboundref22_Copy.f (k : Nat) (l0_0 : List (List Int)) : Option ((List (List Int))) := timeboundref22_Copy.l0 k 0 l0_0 ([] : List (List Int))
def timeboundref22_Copy.T5 : Bool × List (List Nat × List Nat) := (true, [([], []), ([0], [0]), ([], []), ([], []), ([3], [3]), ([], []), ([4, 5], [4, 5]), ([6], [6]), ([2, 7], [2, 7]), ([8], [8]), ([1, 9, 8], [1, 9]), ([0, 1, 2, 3, 4, 5, 6, 7, 8, 9, 10], []), ([11, 10, 10, 0, 1, 2, 3, 4, 5, 6, 7, 8, 9, 10], [10, 11])])
def timeboundref22_Copy.B5 : List Nat := [0, 1, 0, 0, 8, 0, 56, 120, 252, 508, 1023, 2047, 4095]
theorem timeboundref22_Copy.tab5 : rtab .any (opsOf Try.f40 5) = timeboundref22_Copy.T5 := by kernel_rfl
theorem timeboundref22_Copy.bits5 : waitsOk timeboundref22_Copy.T5.2 timeboundref22_Copy.B5 = true := by kernel_rfl
abbrev timeboundref22_Copy.b0 : Array Bool := X.bv0
abbrev timeboundref22_Copy.b1 : Array Bool := X.bv1
abbrev timeboundref22_Copy.b2 : Array Bool := X.bv2
abbrev timeboundref22_Copy.b3 : Array Bool := X.bv3
abbrev timeboundref22_Copy.b4 : Array Bool := X.bv4
abbrev timeboundref22_Copy.b5 : Array Bool := X.bv5
abbrev timeboundref22_Copy.b6 : Array Bool := X.bv6
abbrev timeboundref22_Copy.b7 : Array Bool := X.bv7
abbrev timeboundref22_Copy.b8 : Array Bool := X.bv8
abbrev timeboundref22_Copy.b9 : Array Bool := X.bv9
abbrev timeboundref22_Copy.b10 : Array Bool := X.bv10
abbrev timeboundref22_Copy.b11 : Array Bool := X.bv11
abbrev timeboundref22_Copy.b12 : Array Bool := X.bv12
abbrev timeboundref22_Copy.b13 : Array Bool := X.bv13
set_option maxHeartbeats 80000000 in
set_option maxRecDepth 100000 in
theorem timeboundref22_Copy.calls (k : Nat) (A0_0 : Option Addr) (c0_0 : Nat) (l0_0 : List (List Int)) (r : List (List Int)) (w : World) (hr0_0 : Kd.C (Kd.slice 3 (Kd.int .i64)) w A0_0 l0_0.length l0_0) (hc0_0 : l0_0.length ≤ c0_0) (h : timeboundref22_Copy.f k l0_0 = some r) :
   Calls Try.prog 40 #[.agg #[.slice A0_0 l0_0.length c0_0]] w fun e w' => ∃ v0_ : Value, e = .returned (.agg #[v0_]) ∧ Kd.S (Kd.slice 3 (Kd.int .i64)) 22 w' w.heap.size (fun _ => True) v0_ r ∧ Below w.heap.size w w' := by
  have hu54 := Try.underlying54
  have HR0_0 := Aside0.mk hr0_0
  have HC0_0 := Aside0.mk hc0_0
  clear hr0_0 hc0_0
  have HB := Aside0.mk (Below.refl w.heap.size w)
  have H : (timeboundref22_Copy.l0 k 0 l0_0 ([] : List (List Int))) = some r := h
  clear h
  have H' := Aside0.mk H
  clear H
  go_enter Try.func40, Try.ntmps40
  go_wp2_with (first | ((with_reducible refine gate_dst (N := 1) rfl ?_); refine box_event ?hg (N := 1) ?hd (cs := #[.slice A0_0 l0_0.length c0_0]) (t := 54) ?hr ?_; (case hd => rfl); (case hg => rfl); (case hr => first | (go_simp; done) | (go_simp; rfl)); intro gb101 hg w2 hbox hb; have n0_ := Aside0.mk (below_step (hB0 HB.out) hb); have n1_ := Aside0.mk (hbox); have n2_ := Aside0.mk ((by rw [hg]; exact (below_size (hB0 HB.out)) : w.heap.size ≤ gb101)); have n3_ := Aside0.mk ((by rw [hg]; exact (below_size (hB0 HB.out)) : w.heap.size ≤ gb101)); clear HB; have HB := n0_; have BK101 := n1_; have GW101 := n2_; have GE101 := n3_; clear n0_ n1_ n2_ n3_; clear hb hbox hg) | ((with_reducible refine gate_dst (N := 2) rfl ?_); refine box_event ?hg (N := 2) ?hd (cs := #[.slice none 0 0]) (t := 54) ?hr ?_; (case hd => rfl); (case hg => rfl); (case hr => first | (go_simp; done) | (go_simp; rfl)); intro gb102 hg w3 hbox hb; have n0_ := Aside0.mk (blk_below (g := gb101) (bK BK101.out) hb); have n1_ := Aside0.mk (below_step (hB1 HB.out GE101.out) hb); have n2_ := Aside0.mk (hbox); have n3_ := Aside0.mk ((by rw [hg]; exact (below_size (hB1 HB.out GE101.out)) : w.heap.size ≤ gb102)); have n4_ := Aside0.mk ((by rw [hg]; exact (below_size (hB1 HB.out GE101.out)) : w.heap.size ≤ gb102)); have n5_ := Aside0.mk ((by rw [hg]; exact Nat.ne_of_lt (blk_lt (g := gb101) (bK BK101.out)) : gb101 ≠ gb102)); have n6_ := Aside0.mk ((by rw [hg]; exact Nat.ne_of_gt (blk_lt (g := gb101) (bK BK101.out)) : gb102 ≠ gb101)); clear BK101 HB; have BK101 := n0_; have HB := n1_; have BK102 := n2_; have GW102 := n3_; have GE102 := n4_; have NB101_102 := n5_; have NB102_101 := n6_; clear n0_ n1_ n2_ n3_ n4_ n5_ n6_; clear hb hbox hg) | ((with_reducible refine gate_dst (N := 3) rfl ?_); refine box_event ?hg (N := 3) ?hd (cs := #[.slice none 0 0]) (t := 54) ?hr ?_; (case hd => rfl); (case hg => rfl); (case hr => first | (go_simp; done) | (go_simp; rfl)); intro gb103 hg w4 hbox hb; have n0_ := Aside0.mk (blk_below (g := gb101) (bK BK101.out) hb); have n1_ := Aside0.mk (blk_below (g := gb102) (bK BK102.out) hb); have n2_ := Aside0.mk (below_step (hB2 HB.out GE101.out GE102.out) hb); have n3_ := Aside0.mk (hbox); have n4_ := Aside0.mk ((by rw [hg]; exact (below_size (hB2 HB.out GE101.out GE102.out)) : w.heap.size ≤ gb103)); have n5_ := Aside0.mk ((by rw [hg]; exact (below_size (hB2 HB.out GE101.out GE102.out)) : w.heap.size ≤ gb103)); have n6_ := Aside0.mk ((by rw [hg]; exact Nat.ne_of_lt (blk_lt (g := gb101) (bK BK101.out)) : gb101 ≠ gb103)); have n7_ := Aside0.mk ((by rw [hg]; exact Nat.ne_of_gt (blk_lt (g := gb101) (bK BK101.out)) : gb103 ≠ gb101)); have n8_ := Aside0.mk ((by rw [hg]; exact Nat.ne_of_lt (blk_lt (g := gb102) (bK BK102.out)) : gb102 ≠ gb103)); have n9_ := Aside0.mk ((by rw [hg]; exact Nat.ne_of_gt (blk_lt (g := gb102) (bK BK102.out)) : gb103 ≠ gb102)); clear BK101 BK102 HB; have BK101 := n0_; have BK102 := n1_; have HB := n2_; have BK103 := n3_; have GW103 := n4_; have GE103 := n5_; have NB101_103 := n6_; have NB103_101 := n7_; have NB102_103 := n8_; have NB103_102 := n9_; clear n0_ n1_ n2_ n3_ n4_ n5_ n6_ n7_ n8_ n9_; clear hb hbox hg))
  (try simp only [Act.put, List.setIfInBounds_toArray, List.set_cons_zero, List.set_cons_succ])
  go_loopg [4] k (fun kq v4 w' => ∃ (x4_1 : Int) (x104000_1 : List (List Int)) (u104000 : Value), v4 = .int .i64 x4_1 ∧ Aside0 (timeboundref22_Copy.l0 kq x4_1 l0_0 x104000_1 = some r) ∧ Aside0 (kq ≤ k) ∧ Aside0 (Kd.S (Kd.slice 3 (Kd.int .i64)) 22 w' w.heap.size (fun _ => True) u104000 x104000_1) ∧ Aside0 (w'.heap[gb101]? = some (.cells #[(.slice A0_0 l0_0.length c0_0)] 54 (0, 0))) ∧ Aside0 (w'.heap[gb102]? = some (.cells #[(.slice none 0 0)] 54 (0, 0))) ∧ Aside0 (w'.heap[gb103]? = some (.cells #[u104000] 54 (0, 0))) ∧ Aside0 (Below w.heap.size w w'))
  case atStart => exact ⟨(0), (([] : List (List Int))), (.slice none 0 0), rS, H', ⟨Nat.le_refl _⟩, ⟨by first | exact Kd.S_nil _ _ _ _ _ | exact Kd.N_nil _ _ _ _ _ | exact Kd.V_nil _ _ _ _ _ | exact Kd.Q_nil _ _ _ _ _ | exact Kd.R_nil _ _ _ _ _⟩, ⟨bK BK101.out⟩, ⟨bK BK102.out⟩, ⟨bK BK103.out⟩, ⟨hB3 HB.out GE101.out GE102.out GE103.out⟩⟩
  case round =>
   clear H'
   obtain ⟨x4_1, x104000_1, u104000, rfl, HA, HK1, HO_104000, BK101, BK102, BK103, HB⟩ := hrel
   cases gk with
   | zero => exact absurd HA.out (by simp [timeboundref22_Copy.l0])
   | succ k1 =>
    have H := HA.out
    clear HA
    simp only [timeboundref22_Copy.l0] at H
    by_cases c5 : x4_1 < (l0_0.length : Int)
    ·rw [if_pos c5] at H
     have c5b0 : decide (x4_1 < (l0_0.length : Int)) = true := decide_eq_true c5
     clear c5
     obtain ⟨y104, hy104⟩ : ∃ y_ : List Int, y_ = (([] : List Int)) := ⟨_, rfl⟩
     replace H : (if 0 ≤ x4_1 then (if y104.length + (rd_L1 l0_0 x4_1).length < 17592186044416 then (if x104000_1.length < 5864062014805 then (timeboundref22_Copy.l0 k1 (wrap64 (x4_1 + 1)) l0_0 (x104000_1 ++ [(y104 ++ (rd_L1 l0_0 x4_1))])) else (none)) else (none)) else (none)) = some r := by first | (rw [hy104]; with_reducible exact H) | (have H2_ := (Option.bind_some _ _).symm.trans H; rw [hy104]; with_reducible exact H2_) | (have H2_ := (Option.bind_some _ _).symm.trans H; with_reducible exact H2_) | with_reducible exact H | (rw [hy104]; exact H) | exact H
     have Ny104 := Aside0.mk hy104
     clear hy104
     by_cases c6 : 0 ≤ x4_1
     ·rw [if_pos c6] at H
      have c6b0 : decide (0 ≤ x4_1) = true := decide_eq_true c6
      clear c6
      by_cases c7 : y104.length + (rd_L1 l0_0 x4_1).length < 17592186044416
      ·rw [if_pos c7] at H
       have LMc7 := Aside0.mk c7
       clear c7
       obtain ⟨y108, hy108⟩ : ∃ y_ : List Int, y_ = (y104 ++ (rd_L1 l0_0 x4_1)) := ⟨_, rfl⟩
       replace H : (if x104000_1.length < 5864062014805 then (timeboundref22_Copy.l0 k1 (wrap64 (x4_1 + 1)) l0_0 (x104000_1 ++ [y108])) else (none)) = some r := by first | (rw [hy108]; with_reducible exact H) | (have H2_ := (Option.bind_some _ _).symm.trans H; rw [hy108]; with_reducible exact H2_) | (have H2_ := (Option.bind_some _ _).symm.trans H; with_reducible exact H2_) | with_reducible exact H | (rw [hy108]; exact H) | exact H
       have Ny108 := Aside0.mk hy108
       clear hy108
       by_cases c8 : x104000_1.length < 5864062014805
       ·rw [if_pos c8] at H
        have LMc8 := Aside0.mk c8
        clear c8
        obtain ⟨y111, hy111⟩ : ∃ y_ : List (List Int), y_ = (x104000_1 ++ [y108]) := ⟨_, rfl⟩
        replace H : (timeboundref22_Copy.l0 k1 (wrap64 (x4_1 + 1)) l0_0 y111) = some r := by first | (rw [hy111]; with_reducible exact H) | (have H2_ := (Option.bind_some _ _).symm.trans H; rw [hy111]; with_reducible exact H2_) | (have H2_ := (Option.bind_some _ _).symm.trans H; with_reducible exact H2_) | with_reducible exact H | (rw [hy111]; exact H) | exact H
        have Ny111 := Aside0.mk hy111
        clear hy111
        have H' := Aside0.mk H
        clear H
        have hnb9 := NB101_102.out
        have hnc9 := NB102_101.out
        have hnb10 := NB101_103.out
        have hnc10 := NB103_101.out
        obtain ⟨hcz11_0, hfz11_0⟩ := cz1 BK101.out
        try go_wp2
        have n0_ := Aside0.mk (Kd.S_drew HO_104000.out)
        have n1_ := Aside0.mk (blk_drew BK101.out)
        have n2_ := Aside0.mk (blk_drew BK102.out)
        have n3_ := Aside0.mk (blk_drew BK103.out)
        have n4_ := Aside0.mk (below_drew1 HB.out)
        clear HO_104000
        clear BK101
        clear BK102
        clear BK103
        clear HB
        have HO_104000 := n0_
        have BK101 := n1_
        have BK102 := n2_
        have BK103 := n3_
        have HB := n4_
        clear n0_ n1_ n2_ n3_ n4_
        have p107 : 0 ≤ (x4_1 : Int) := oD
        have q107 : x4_1 < (l0_0.length : Int) := oD
        obtain ⟨ad107, A107_0, c107_0, e107, hx107_0, hl107_0, hi107_0⟩ := at_L1 HR0_0.out x4_1 p107 q107
        have hw107_0 := hx107_0
        cases e107
        replace hx107_0 := (HB.out.cell (World.block_lt_of_cell? w _ hx107_0)).trans hx107_0
        have HR107_0 := Aside0.mk hi107_0
        have HC107_0 := Aside0.mk hl107_0
        clear hi107_0 hl107_0
        replace p107 := eq_true p107
        replace q107 := eq_true q107
        refine start_ (n := 13) (S := fun w' => w'.cell? ⟨gb103, 0, none⟩ = some (u104000) ∧ w'.cell? ⟨gb101, 0, none⟩ = some (.slice (some ad107) l0_0.length c0_0) ∧ w'.cell? (ad107.add (x4_1).toNat) = some (.slice A107_0 (rd_L1 l0_0 x4_1).length c107_0)) (ds := [12]) timeboundref22_Copy.b0 (by kernel_rfl) rfl rfl ⟨(blk_cell BK103.out 0).trans rfl, (blk_cell BK101.out 0).trans rfl, ((HB.out.cell (World.block_lt_of_cell? w _ hw107_0)).trans hw107_0)⟩ (fun hHeld => ?_); refine with_tabW timeboundref22_Copy.tab5 timeboundref22_Copy.bits5 (fun HT_ HW_ => ?_)
        generalize wr.drew = w12 at HO_104000 BK101 BK102 BK103 HB HR107_0 hx107_0 hHeld ⊢
        refine pY 0 (some 12) timeboundref22_Copy.b1 ?_
        refine pY 3 (some 15) timeboundref22_Copy.b2 ?_
        refine pY 5 (some 17) timeboundref22_Copy.b3 ?_
        refine tY3 1 (some 13) timeboundref22_Copy.b4 hHeld ?_
        refine tY3 4 (some 16) timeboundref22_Copy.b5 hHeld ?_
        refine pY 6 (some 18) timeboundref22_Copy.b6 ?_
        refine tY3 7 (some 19) timeboundref22_Copy.b7 hHeld ?_
        refine one_ (i := 2) (N := some 14) timeboundref22_Copy.b8 rfl rfl (one_of HT_.out (by kernel_rfl)) (by decide) (fun K hK => ?_)
        refine Kd.R_lit_step (Kd.int .i64) _ 3 ?hg (N := 14) ?hd (xs := ([] : List Int)) (inner := []) (ok := fun _ => True) (okp := fun _ => True) ?hr ?hp (fun _ hk => hk) trivial (Below.refl _ _) (Nat.le_refl _) (by simp) ?_; (case hd => rfl); (case hg => rfl); (case hr => first | (go_simp; done) | (go_simp; rfl)); (case hp => exact (Reps.none _ _))
        intro v105 w13 ho14 hb hg_ hnew_
        clear hg_ hnew_
        (first | rw [← Ny104.out] at ho14 | (simp only [Int.reduceToNat] at ho14; rw [← Ny104.out] at ho14))
        have n0_ := Aside0.mk (Kd.S_elder' (sK HO_104000.out) (Kd.R_base ho14) hb)
        have n1_ := Aside0.mk (Kd.R_lower ho14 (below_size (hB3 HB.out GE101.out GE102.out GE103.out)))
        have n2_ := Aside0.mk (blk_below (g := gb101) (bK BK101.out) hb)
        have n3_ := Aside0.mk (blk_below (g := gb102) (bK BK102.out) hb)
        have n4_ := Aside0.mk (blk_below (g := gb103) (bK BK103.out) hb)
        have n5_ := Aside0.mk (below_step (hB3 HB.out GE101.out GE102.out GE103.out) hb)
        clear HO_104000
        clear BK101
        clear BK102
        clear BK103
        clear HB
        have HO_104000 := n0_
        have HO106 := n1_
        have BK101 := n2_
        have BK102 := n3_
        have BK103 := n4_
        have HB := n5_
        clear n0_ n1_ n2_ n3_ n4_ n5_
        clear hb ho14
        refine hK.out _ _ ⟨(blk_cell BK103.out 0).trans rfl, (blk_cell BK101.out 0).trans rfl, ((HB.out.cell (World.block_lt_of_cell? w _ hw107_0)).trans hw107_0)⟩ (fun hHeld => ?_)
        clear hK K
        refine norm_ (a' := ?_) ?_ ?_
        rotate_left
        ·show Act.put _ (some 14) _ = _
         simp only [Act.put, List.setIfInBounds_toArray, List.set_cons_zero, List.set_cons_succ, i64_w, i32_w]
         rfl
        refine one_ (i := 8) (N := some 20) timeboundref22_Copy.b9 rfl rfl (one_of HT_.out (by kernel_rfl)) (by decide) (fun K hK => ?_)
        refine Kd.R_append_rows_step (Kd.int .i64) (w0 := w) w.heap.size (by rfl) (.tmp 14) (.tmp 19) 22 3 (.int .i64 0) 8 rfl Try.underlying22 info3 rfl (by decide) (by omega) v105 y104 (rd_L1 l0_0 x4_1) _ _ _ (fun _ => True) (fun _ => False) rfl rfl ?aO ?aR (fun _ _ h => h) (fun _ h => h.elim) ?aF ?aB ?aS ?aL ?_
        (case aR => repeat (first | exact (Kd.C_below HR107_0.out HB.out) | (with_reducible refine Kd.C_alloc ?_ _) | (with_reducible refine Kd.C_drewN ?_ _) | (with_reducible refine Kd.C_drew ?_)))
        (case aB => exact (hB3 HB.out GE101.out GE102.out GE103.out))
        (case aF => exact (fun _ _ => trivial))
        (case aO => exact (rK HO106.out))
        (case aS => exact (below_size (hB3 HB.out GE101.out GE102.out GE103.out)))
        (case aL => have := LMc7.out; omega)
        intro v109 w15 ho hb hg hat
        rw [← Ny108.out] at ho
        have n0_ := Aside0.mk (Kd.S_after (ok := (fun _ => True)) (sK HO_104000.out) hg hat)
        have n1_ := Aside0.mk (blk_grown (g := gb101) (bK BK101.out) hg (Kd.R_ne HO106.out BK101.out (by decide)))
        have n2_ := Aside0.mk (blk_grown (g := gb102) (bK BK102.out) hg (Kd.R_ne HO106.out BK102.out (by decide)))
        have n3_ := Aside0.mk (blk_grown (g := gb103) (bK BK103.out) hg (Kd.R_ne HO106.out BK103.out (by decide)))
        have n4_ := Aside0.mk (hb)
        have n5_ := Aside0.mk (ho)
        clear HO_104000
        clear BK101
        clear BK102
        clear BK103
        clear HB
        clear HO106
        have HO_104000 := n0_
        have BK101 := n1_
        have BK102 := n2_
        have BK103 := n3_
        have HB := n4_
        have HO110 := n5_
        clear n0_ n1_ n2_ n3_ n4_ n5_
        clear ho hb hg hat
        obtain ⟨Ao17, co17, eo17⟩ := Kd.R_slice HO110.out
        (first | subst eo17 | (injection eo17 with f1_ f2_ f3_; have f4_ := f1_.symm; have f5_ := f3_.symm; clear f1_ f2_ f3_; subst f4_; subst f5_))
        refine hK.out _ _ ⟨(blk_cell BK103.out 0).trans rfl, (blk_cell BK101.out 0).trans rfl, ((HB.out.cell (World.block_lt_of_cell? w _ hw107_0)).trans hw107_0)⟩ (fun hHeld => ?_)
        clear hK K
        refine norm_ (a' := ?_) ?_ ?_
        rotate_left
        ·show Act.put _ (some 20) _ = _
         simp only [Act.put, List.setIfInBounds_toArray, List.set_cons_zero, List.set_cons_succ, i64_w, i32_w]
         rfl
        refine one_ (i := 9) (N := some 21) timeboundref22_Copy.b10 rfl rfl (one_of HT_.out (by kernel_rfl)) (by decide) (fun K hK => ?_)
        refine value_ (w1 := ?_) (v := ?_) (by rfl) rfl ?_ ?_
        rotate_left 2
        ·go_simp
         constructor
         ·rfl
         ·rfl
        refine hK.out _ _ ⟨(blk_cell (blk_alloc BK103.out _) 0).trans rfl, (blk_cell (blk_alloc BK101.out _) 0).trans rfl, (World.cell?_alloc_lt _ _ _ (World.block_lt_of_cell? _ _ (((HB.out.cell (World.block_lt_of_cell? w _ hw107_0)).trans hw107_0)))).trans (((HB.out.cell (World.block_lt_of_cell? w _ hw107_0)).trans hw107_0))⟩ (fun hHeld => ?_)
        clear hK K
        refine norm_ (a' := ?_) ?_ ?_
        rotate_left
        ·show Act.put _ (some 21) _ = _
         simp only [Act.put, List.setIfInBounds_toArray, List.set_cons_zero, List.set_cons_succ, i64_w, i32_w]
         rfl
        refine one_ (i := 10) (N := some 22) timeboundref22_Copy.b11 rfl rfl (one_of HT_.out (by kernel_rfl)) (by decide) (fun K hK => ?_)
        refine Kd.S_append_step (Kd.slice 3 (Kd.int .i64)) (w0 := w) w.heap.size (by rfl) (.tmp 13) (.tmp 21) 43 22 (.slice none 0 0) 24 rfl Try.underlying43 info22 rfl (by decide) (by omega) u104000 x104000_1 y108 [.slice Ao17 y108.length co17] (fun _ => True) (fun k_ => some k_ = (.slice Ao17 y108.length co17 : Value).ownBlock) rfl rfl ?aP (fun k_ hk_ => ((Kd.R_mono (ok' := fun k_ => ((fun _ => True)) k_ ∧ some k_ ≠ (u104000 : Value).ownBlock) (Kd.R_apart' (HO110.out) (Kd.S_typed HO_104000.out) (by decide)) (fun k_ hk => ⟨trivial, hk.2⟩))).1 k_ hk_.symm) ?aF ?aO ?aB ?aS ?aL ?_
        (case aP => exact Kd.M_row (Kd.R_mono (Kd.R_tight rfl (Kd.R_mono (ok' := fun k_ => ((fun _ => True)) k_ ∧ some k_ ≠ (u104000 : Value).ownBlock) (Kd.R_apart' (HO110.out) (Kd.S_typed HO_104000.out) (by decide)) (fun k_ hk => ⟨trivial, hk.2⟩))) (fun _ h_ => h_)))
        (case aB => exact (hB3 HB.out GE101.out GE102.out GE103.out))
        (case aF => exact (fun _ _ => trivial))
        (case aO => exact (by (with_reducible repeat (first | apply Kd.S_alloc | apply Kd.S_drewN | apply Kd.S_drew)); exact Kd.S_mono HO_104000.out (fun k_ hk => ⟨trivial, fun e_ => hk.2 e_⟩)))
        (case aS => exact (below_size (hB3 HB.out GE101.out GE102.out GE103.out)))
        (case aL => have := LMc8.out; omega)
        intro v112 w16 ho hb hg hat
        rw [← Ny111.out] at ho
        have n0_ := Aside0.mk (blk_grown (g := gb101) (bK BK101.out) hg (Kd.S_ne HO_104000.out BK101.out (by decide)))
        have n1_ := Aside0.mk (blk_grown (g := gb102) (bK BK102.out) hg (Kd.S_ne HO_104000.out BK102.out (by decide)))
        have n2_ := Aside0.mk (blk_grown (g := gb103) (bK BK103.out) hg (Kd.S_ne HO_104000.out BK103.out (by decide)))
        have n3_ := Aside0.mk (hb)
        have n4_ := Aside0.mk (ho)
        clear BK101
        clear BK102
        clear BK103
        clear HB
        clear HO_104000
        clear HO110
        have BK101 := n0_
        have BK102 := n1_
        have BK103 := n2_
        have HB := n3_
        have HO113 := n4_
        clear n0_ n1_ n2_ n3_ n4_
        clear ho hb hg hat
        obtain ⟨Ao18, co18, eo18⟩ := Kd.S_slice HO113.out
        (first | subst eo18 | (injection eo18 with f1_ f2_ f3_; have f4_ := f1_.symm; have f5_ := f3_.symm; clear f1_ f2_ f3_; subst f4_; subst f5_))
        refine hK.out _ _ ⟨(blk_cell BK103.out 0).trans rfl, (blk_cell BK101.out 0).trans rfl, ((HB.out.cell (World.block_lt_of_cell? w _ hw107_0)).trans hw107_0)⟩ (fun hHeld => ?_)
        clear hK K
        refine norm_ (a' := ?_) ?_ ?_
        rotate_left
        ·show Act.put _ (some 22) _ = _
         simp only [Act.put, List.setIfInBounds_toArray, List.set_cons_zero, List.set_cons_succ, i64_w, i32_w]
         rfl
        refine pY 11 (some 23) timeboundref22_Copy.b12 ?_
        refine last_ (i := 12) (N := none) timeboundref22_Copy.b13 rfl rfl (one_of HT_.out (by kernel_rfl)) (by decide) (fun K hK => ?_)
        have hs19 : w16.cell? ⟨gb103, 0, none⟩ = some (u104000) := (blk_cell BK103.out 0).trans rfl
        have hfs19 := blk_frozen BK103.out 0
        have hns19_0 := NB101_103.out
        have hns19_1 := NB102_103.out
        have hms19_0 := NB103_101.out
        have hms19_1 := NB103_102.out
        refine skip_ (w1 := ?_) (by rfl) rfl ?_ ?_
        rotate_left
        ·go_simp
         rfl
        refine hK.out _ _ ?_
        clear hK K
        refine done_ (done_of HT_.out (by kernel_rfl)) ?_
        try go_wp2
        go_roundg k1
        case measure => have := HK1.out; omega
        case rel => exact ⟨(wrap64 (x4_1 + 1)), (y111), (.slice Ao18 y111.length co18), rS, H', ⟨by have := HK1.out; omega⟩, ⟨by (with_reducible repeat (first | apply Kd.S_alloc | apply Kd.S_drewN | apply Kd.S_drew)); exact Kd.S_mono (Kd.S_far (p := ⟨gb103, 0, none⟩) (Kd.S_types HO113.out BK103.out (by decide)) (fun _ hk => hk.2) (.slice Ao18 y111.length co18)) (fun _ hk => trivial)⟩, ⟨bP1 BK101.out NB101_103.out⟩, ⟨bP1 BK102.out NB102_103.out⟩, ⟨bP0 BK103.out⟩, ⟨hB3 HB.out GE101.out GE102.out GE103.out⟩⟩
       ·rw [if_neg c8] at H
        exact absurd H (by simp)
      ·rw [if_neg c7] at H
       exact absurd H (by simp)
     ·rw [if_neg c6] at H
      exact absurd H (by simp)
    ·rw [if_neg c5] at H
     have c5b0 : decide (x4_1 < (l0_0.length : Int)) = false := decide_eq_false c5
     clear c5
     obtain rfl := Option.some.inj H
     have hnb20 := NB101_102.out
     have hnc20 := NB102_101.out
     have hnb21 := NB101_103.out
     have hnc21 := NB103_101.out
     obtain ⟨hcz22_0, hfz22_0⟩ := cz1 BK101.out
     have hnb23 := NB103_102.out
     have hnc23 := NB102_103.out
     obtain ⟨hcz24_0, hfz24_0⟩ := cz1 BK103.out
     obtain ⟨Ao25, co25, eo25⟩ := Kd.S_slice HO_104000.out
     subst eo25
     obtain ⟨hcz26_0, hfz26_0⟩ := cz1 BK102.out
     go_wp2
     refine bodyPost_ret (results_cell_row rfl _ _ gb102 54 #[.slice Ao25 x104000_1.length co25] (0, 0) _ rfl (bP0 BK102.out) Try.underlying54 rfl (by kernel_rfl)) rfl ?_
     exact ⟨_, by first | rfl | (simp [errW_none, errW_some] <;> rfl) | (simp [*, errW_none, errW_some] <;> rfl), by (with_reducible repeat (first | apply Kd.S_alloc | apply Kd.S_drewN | apply Kd.S_drew)); exact Kd.S_mono (Kd.S_far (p := ⟨gb102, 0, none⟩) (Kd.S_types HO_104000.out BK102.out (by decide)) (fun _ hk => hk.2) (.slice Ao25 x104000_1.length co25)) (fun _ hk => trivial), hB3 HB.out GE101.out GE102.out GE103.out⟩
end Go.Proofs.Ytkgocbmnjlfkoaa.X
end
section
namespace Go.Proofs.Ytkgocbmnjlfkoaa.M
open Go.RowKit Go.Proofs.Ytkgocbmnjlfkoaa.X Go.Proofs.YtkgocbmnjlfkoaaW.PrintWords Go.Proofs.YtkgocbmnjlfkoaaW.PrintLast Go.Proofs.YtkgocbmnjlfkoaaW.PrintMore
set_option linter.unusedVariables false
set_option linter.unusedSimpArgs false
def hitL (S L : Nat) (l : List (List Int)) (m : Nat) : Bool := if S = 0 then false else hitN (l.getD (m / L % S) []) ((m / L : Nat) : Int) (l.getD (m / L % S) []).length
set_option maxHeartbeats 4000000 in
theorem use41b_calls {S W L : Nat} (h : CacheOk S W L) (v : Value) (vs : List Value) (l : List (List Int)) (b m : Nat) (w : World) (hT : T2 w b v vs l) (hb : b ≤ w.heap.size) (hl : l.length = S) (hlw : ∀ x ∈ l, x.length = W) (hm : m ≤ 1073741824) (hdl : m / L ≤ 1048576) :
    Calls Try.prog 41 #[.agg #[.int .i64 S, .int .i64 W, .int .i64 L], .agg #[v], .int .i64 m] w (fun e w' => e = .returned (.bool (hitL S L l m)) ∧ T2 w' b v vs (useL S L l m) ∧ Fr (In2 v vs) w w') := by
  have hW1 := h.w1; have hW4 := h.w4; have hS8 := h.s8; have hL1 := h.l1; have hL8 := h.l8
  have HT := Aside0.mk hT
  have HB0 : Aside0 (Below w.heap.size w ((w.alloc (.cells #[.int .i64 S, .int .i64 W, .int .i64 L] 26)).alloc (.cells #[v] 54))) := ⟨((Below.refl _ _).alloc (Nat.le_refl _) _).alloc (by simp) _⟩
  by_cases hs : S = 0
  · subst hs
    have HU : Aside0 (useL 0 L l m = l) := ⟨if_pos rfl⟩
    clear hT hlw h
    have HL := Aside0.mk hl
    clear hl
    obtain ⟨A, c, rfl, _, _⟩ := HT.out.reads
    go_enter Try.func41, Try.ntmps41
    go_wp2
    go_ret
    exact ⟨rfl, by rw [HU.out]; exact HT.out.fr (S := fun _ => False) (Fr.ofBelow HB0.out) (fun _ _ h => h), Fr.ofBelow HB0.out⟩
  · obtain ⟨A, c, rfl, hc, hr⟩ := hT.reads
    have hns : m / L % S < l.length := by rw [hl]; exact Nat.mod_lt _ (Nat.pos_of_ne_zero hs)
    obtain ⟨ad, A0, c0, rfl, hcell0, hc0, hl0⟩ := C2.get hr hns
    have hlw0 := hlw _ (List.getElem_mem hns)
    have hq1 : Int.tdiv (m : Int) (L : Int) = ((m / L : Nat) : Int) := by rw [Int.tdiv_eq_ediv_of_nonneg (by omega)]; rfl
    have hq2 : (m : Int) / (L : Int) = ((m / L : Nat) : Int) := rfl
    have hq3 : ((m / L : Nat) : Int) % (S : Int) = ((m / L % S : Nat) : Int) := rfl
    have hq4 : Int.tmod ((m / L : Nat) : Int) (S : Int) = ((m / L % S : Nat) : Int) := by rw [Int.tmod_eq_emod_of_nonneg (Int.natCast_nonneg _)]; rfl
    have hcell := pw_cell_below HB0.out hcell0
    have HR0 := Aside0.mk hl0
    have HU : Aside0 (useL S L l m = l.set (m / L % S) (useC l[m / L % S] ((m / L : Nat) : Int))) := ⟨by rw [useL, if_neg hs, getD_lt hns]⟩
    have HHit : Aside0 (hitL S L l m = hitN l[m / L % S] ((m / L : Nat) : Int) l[m / L % S].length) := ⟨by rw [hitL, if_neg hs, getD_lt hns]⟩
    have HL := Aside0.mk hl
    have HLW := Aside0.mk hlw0
    have hl9 : l.length < 9 := by omega
    have hx5 : l[m / L % S].length < 5 := by omega
    have hx0 : 0 < l[m / L % S].length := by omega
    have hg1 : ((S : Int) == 0) = false := beq_eq_false_iff_ne.2 (by omega)
    obtain ⟨gs, rfl, hvs⟩ : ∃ gs, A0 = some ⟨gs, 0, none⟩ ∧ vs.getD (m / L % S) undef = .slice (some ⟨gs, 0, none⟩) l[m / L % S].length c0 := by
      have hlen := hT.len
      rcases hT.open_ with ⟨h1, _⟩ | ⟨g, cap, cur, h1, _⟩
      · cases h1
      · injection h1 with e1 e2 e3
        injection e1 with e1
        subst e1
        have h2 := (hT.cell hns).1
        have h3 : w.cell? ⟨g, m / L % S, none⟩ = some (.slice A0 l[m / L % S].length c0) := by
          rw [show (⟨g, 0, none⟩ : Addr).add (m / L % S) = ⟨g, m / L % S, none⟩ by unfold Addr.add; split <;> simp [*]] at hcell0
          exact hcell0
        rw [h3] at h2
        injection h2 with h2
        have h4 := hT.el (m / L % S) (by omega)
        rw [← h2, getD_lt hns] at h4
        rcases h4.open_ with ⟨_, h5⟩ | ⟨gs, _, _, h5, _⟩
        · rw [h5] at hx0; exact absurd hx0 (by simp)
        · injection h5 with h5 _ _
          subst h5
          exact ⟨gs, rfl, h2.symm⟩
    have hx1 := hT.el (m / L % S) (by have := hT.len; omega)
    rw [hvs, getD_lt hns] at hx1
    have HX := Aside0.mk hx1
    have HVS := Aside0.mk hvs
    clear hl hlw hlw0 hl0 hr h hT hcell0 hx1 hvs HR0
    generalize l[m / L % S] = x at *
    generalize m / L % S = s at *
    generalize m / L = n at *
    go_enter Try.func41, Try.ntmps41
    go_wp2
    go_quiet (fail)
    have HBQ : Aside0 (Below w.heap.size w (((w.alloc (.cells #[.int .i64 S, .int .i64 W, .int .i64 L] 26)).alloc (.cells #[.slice (some ad) l.length c] 54)).drewN nq)) := ⟨pw_below_drewN HB0.out nq⟩
    clear hcell HB0
    generalize ((w.alloc (.cells #[.int .i64 S, .int .i64 W, .int .i64 L] 26)).alloc (.cells #[.slice (some ad) l.length c] 54)).drewN nq = W2 at *
    have HX2 : Aside0 (T1 W2 b (.slice (some ⟨gs, 0, none⟩) x.length c0) x) := ⟨HX.out.fr (S := fun _ => False) (Fr.ofBelow HBQ.out) (fun _ _ h => h)⟩
    have hat0 : ((x.length : Int) - 1) = ((atN x n 0 : Nat) : Int) := by rw [atN]; omega
    have HAT0 := Aside0.mk hat0
    clear hat0
    go_wp2
    go_loopw [9, 10, 11] (fun v9 v10 v11 wr => ∃ i : Nat, i ≤ x.length ∧ v9 = .int .i64 (atN x n i : Nat) ∧ v10 = .bool (hitN x n i) ∧ v11 = .int .i64 i ∧ W2 = wr) (fun _ _ v11 _ => x.length - (RowKit.intOf v11).toNat)
    case atStart => exact ⟨0, Nat.zero_le _, by rw [HAT0.out], rfl, rfl, rfl⟩
    case round =>
      clear HAT0
      obtain ⟨i, hi, rfl, rfl, rfl, rfl⟩ := hrel
      by_cases hlt : i < x.length
      · obtain ⟨hcx, hfx⟩ := HX2.out.cell hlt
        clear hfx
        by_cases he : x.getD i 0 = (n : Int)
        · have HA : Aside0 (atN x n (i + 1) = i ∧ hitN x n (i + 1) = true) := ⟨by rw [atN, if_pos he], by rw [hitN, if_pos he]⟩
          have g1 : (x.getD i 0 == (n : Int)) = true := beq_iff_eq.2 he
          clear he
          generalize x.getD i 0 = y at *
          go_wp2
          go_roundw
          case rel => exact ⟨i + 1, hlt, by rw [HA.out.1], by rw [HA.out.2], by go_num, trivial⟩
          case measure => simp [RowKit.intOf]; omega
        · have HA : Aside0 (atN x n (i + 1) = atN x n i ∧ hitN x n (i + 1) = hitN x n i) := ⟨by rw [atN, if_neg he], by rw [hitN, if_neg he]⟩
          have g1 : (x.getD i 0 == (n : Int)) = false := beq_eq_false_iff_ne.2 he
          clear he
          generalize x.getD i 0 = y at *
          go_wp2
          go_roundw
          case rel => exact ⟨i + 1, hlt, by rw [HA.out.1], by rw [HA.out.2], by go_num, trivial⟩
          case measure => simp [RowKit.intOf]; omega
      · obtain rfl : i = x.length := by omega
        have hal := atN_lt (n : Int) hx0 x.length (Nat.le_refl _)
        have HS0 : Aside0 (T1 W2 b (.slice (some ⟨gs, 0, none⟩) x.length c0) (shJ x (atN x n x.length) (atN x n x.length)) ∧ Fr (fun k => k = gs) W2 W2) := ⟨by rw [shJ_start]; exact HX2.out, Fr.refl _ _⟩
        have HUC : Aside0 (useC x n = (shJ x (atN x n x.length) 0).set 0 n) := ⟨rfl⟩
        generalize atN x n x.length = a at *
        generalize hitN x n x.length = hh at *
        go_wp2
        go_loopw [12] (fun v12 wr => ∃ j : Nat, j ≤ a ∧ v12 = .int .i64 j ∧ Aside0 (T1 wr b (.slice (some ⟨gs, 0, none⟩) x.length c0) (shJ x a j) ∧ Fr (fun k => k = gs) W2 wr)) (fun v12 _ => (RowKit.intOf v12).toNat)
        case atStart => exact ⟨a, Nat.le_refl _, rfl, HS0⟩
        case round =>
          clear HS0
          obtain ⟨j, hj, rfl, HJ⟩ := hrel
          by_cases hj0 : 0 < j
          · obtain ⟨j, rfl⟩ : ∃ k, j = k + 1 := ⟨j - 1, by omega⟩
            obtain ⟨c1, f1⟩ := HJ.out.1.cell (i := j) (by rw [shJ_length]; omega)
            obtain ⟨c2, f2⟩ := HJ.out.1.cell (i := j + 1) (by rw [shJ_length]; omega)
            have HN : Aside0 (T1 (wr.setCell ⟨gs, j + 1, none⟩ (.int .i64 ((shJ x a (j + 1)).getD j 0))) b (.slice (some ⟨gs, 0, none⟩) x.length c0) (shJ x a j) ∧ Fr (fun k => k = gs) W2 (wr.setCell ⟨gs, j + 1, none⟩ (.int .i64 ((shJ x a (j + 1)).getD j 0)))) := ⟨by rw [← shJ_step hj hal]; exact HJ.out.1.set _, HJ.out.2.trans (Fr.set _ rfl)⟩
            clear HJ f1
            generalize (shJ x a (j + 1)).getD j 0 = y at *
            generalize (shJ x a (j + 1)).getD (j + 1) 0 = z at *
            go_wp2
            go_roundw
            case rel => exact ⟨j, by omega, by go_num, HN⟩
            case measure => simp [RowKit.intOf]
          · obtain rfl : j = 0 := by omega
            obtain ⟨c2, f2⟩ := HJ.out.1.cell (i := 0) (by rw [shJ_length]; omega)
            generalize (shJ x a 0).getD 0 0 = z at *
            go_wp2
            go_ret
            have h1 : T1 (wr.setCell ⟨gs, 0, none⟩ (.int .i64 n)) b (.slice (some ⟨gs, 0, none⟩) x.length c0) (useC x n) := by rw [HUC.out]; exact HJ.out.1.set _
            have h2 : Fr (fun k => k = gs) W2 (wr.setCell ⟨gs, 0, none⟩ (.int .i64 n)) := HJ.out.2.trans (Fr.set _ rfl)
            have h3 : T2 W2 b (.slice (some ad) l.length c) vs l := HT.out.fr (S := fun _ => False) (Fr.ofBelow HBQ.out) (fun _ _ h => h)
            refine ⟨by rw [HHit.out]; rfl, by rw [HU.out]; exact h3.setRow hns HVS.out h1 h2, (Fr.ofBelow HBQ.out).trans (h2.mono (fun k hk => .inr ⟨s, by rw [HT.out.len]; exact hns, ?_⟩))⟩
            rw [HVS.out, hk]
            rfl
theorem copy22_l {l : List (List Int)} (hl : l.length < 1073741824) (hx : ∀ x ∈ l, x.length < 1073741824) : ∀ j i : Nat, i + j = l.length → Ev (fun k => timeboundref22_Copy.l0 k i l (l.take i)) l
  | 0, i, hi => by
    refine Ev.step (fun k => by rw [timeboundref22_Copy.l0]) ?_
    rw [List.take_of_length_le (by omega)]
    exact evn (by omega) (evr _)
  | j + 1, i, hi => by
    have hil : i < l.length := by omega
    have h1 := hx _ (List.getElem_mem hil)
    refine Ev.step (fun k => by rw [timeboundref22_Copy.l0]) ?_
    simp only [rdL1 hil, Option.bind_some, List.nil_append]
    have hlt : (l.take i).length = i := by rw [List.length_take]; omega
    refine evp (by omega) (evp (by omega) (evp (by simp; omega) (evp (by rw [hlt]; omega) ?_)))
    rw [w64 (by omega) (by omega), ← List.take_succ_eq_append_getElem hil]
    exact copy22_l hl hx j (i + 1) (by omega)
theorem copy40_calls (A : Option Addr) (c : Nat) (l : List (List Int)) (w : World) (hr : C2 w A l) (hc : l.length ≤ c) (hl : l.length < 1073741824) (hx : ∀ x ∈ l, x.length < 1073741824) :
    Calls Try.prog 40 #[.agg #[.slice A l.length c]] w fun e w' => ∃ v vs, e = .returned (.agg #[v]) ∧ T2 w' w.heap.size v vs l ∧ Below w.heap.size w w' := by
  obtain ⟨k, hk0⟩ := copy22_l hl hx l.length 0 (by omega)
  have hk := hk0 k (Nat.le_refl _)
  refine (timeboundref22_Copy.calls k A c l l w hr hc hk).mono ?_
  rintro e w' ⟨v, rfl, hS, hb⟩
  obtain ⟨vs, hT⟩ := S_T2 hS
  exact ⟨v, vs, rfl, hT, hb⟩
end Go.Proofs.Ytkgocbmnjlfkoaa.M
end
section
namespace Go.Proofs.Ytkgocbmnjlfkoaa.M
open Go.RowKit Go.Proofs.Ytkgocbmnjlfkoaa.X Go.Proofs.YtkgocbmnjlfkoaaW.PrintWords Go.Proofs.YtkgocbmnjlfkoaaW.PrintLast Go.Proofs.YtkgocbmnjlfkoaaW.PrintMore
set_option linter.unusedVariables false
set_option linter.unusedSimpArgs false
theorem T2.store {w w0 w3 : World} {b g cap n a : Nat} {vs : List Value} {s : List (List Int)} {u : Value} {ys : List Int} (h : T2 w b (.slice (some ⟨g, 0, none⟩) n cap) vs s) (ha : a < s.length) (h0 : Below w.heap.size w w0)
    (k1 : T1 w3 b u ys) (k2 : w0.grownBy w3 (vs.getD a undef).ownBlock) (k3 : u.ownBlock = (vs.getD a undef).ownBlock ∨ ∃ k, u.ownBlock = some k ∧ w.heap.size ≤ k) :
    w3.cell? ⟨g, a, none⟩ = some (vs.getD a undef) ∧ w3.frozen? ⟨g, a, none⟩ = false ∧ PutR w b (.slice (some ⟨g, 0, none⟩) n cap) vs (s.set a ys) (.returned (.tuple #[])) (w3.setCell ⟨g, a, none⟩ u) := by
  have hlen := h.len
  obtain ⟨hcell, hfro⟩ := h.cell ha
  obtain ⟨cur, hg⟩ := own_typed h.own g rfl
  have hgw := blk_lt hg
  have f0 : Fr (In2 (.slice (some ⟨g, 0, none⟩) n cap) vs) w w0 := Fr.ofBelow h0
  have f1 : Fr (In2 (.slice (some ⟨g, 0, none⟩) n cap) vs) w w3 := f0.trans ((Fr.grown k2).mono (fun k hk => .inr ⟨a, by omega, hk⟩))
  have hsz : w.heap.size ≤ w0.heap.size := h0.size
  have hold : ∀ k, k < w.heap.size → (vs.getD a undef).ownBlock ≠ some k → w3.heap[k]? = w.heap[k]? := fun k hk hn =>
    (k2.block k (by omega) (fun e => hn e.symm)).trans (h0.block k hk)
  have hgb : w3.heap[g]? = some (.cells cur 22 (0, 0)) := (hold g hgw (fun e => h.ne (by omega) e rfl)).trans hg
  have hT : ∀ j, j < vs.length → j ≠ a → T1 w3 b (vs.getD j undef) (s.getD j []) := fun j hj hja => (h.el j hj).keep (fun k hk => hold k ((h.el j hj).lt hk).2 (fun e => by
    rcases Nat.lt_or_gt_of_ne hja with hlt | hgt
    · rcases h.apart j a hlt (by omega) with h3 | h3
      · rw [h3] at hk; cases hk
      · exact h3 (hk.trans e.symm)
    · rcases h.apart a j hgt hj with h3 | h3
      · rw [h3] at e; cases e
      · exact h3 (e.trans hk.symm)))
  have hap : ∀ j, j < vs.length → j ≠ a → u.ownBlock = none ∨ u.ownBlock ≠ (vs.getD j undef).ownBlock := fun j hj hja => by
    rcases k3 with k3 | ⟨k, k3, k4⟩
    · rw [k3]
      rcases Nat.lt_or_gt_of_ne hja with hlt | hgt
      · rcases h.apart j a hlt (by omega) with h3 | h3
        · cases hv : (vs.getD a undef).ownBlock with
          | none => exact .inl rfl
          | some k => exact .inr (by rw [h3]; simp)
        · exact .inr (Ne.symm h3)
      · exact h.apart a j hgt hj
    · refine .inr (fun e => ?_)
      have := ((h.el j hj).lt (e.symm.trans k3)).2
      omega
  have hcell3 : w3.cell? ⟨g, a, none⟩ = some (vs.getD a undef) := by
    rw [← hcell]
    exact World.cell?_of_block (w := w) (hgb.trans hg.symm)
  have hn : n = vs.length := own_len h.own
  have h2 : T2 (w3.setCell ⟨g, a, none⟩ u) b (.slice (some ⟨g, 0, none⟩) n cap) (vs.set a u) (s.set a ys) := by
    have ho : w3.ownsRow b 22 1 (.slice (some ⟨g, 0, none⟩) n cap) vs.length vs := own_move h.own (fun k hk => by
      have : g = k := by simpa [Value.ownBlock] using hk
      subst this
      exact hgb.trans hg.symm)
    have hs3 := World.ownsRow.stored (by rw [← hn] at ho; exact ho) a u
    have hgx : ∀ k, k ≠ g → (w3.setCell ⟨g, a, none⟩ u).heap[k]? = w3.heap[k]? := fun k hk => Below.heap_setCell w3 _ u k hk
    refine ⟨by rw [List.length_set, ← hn]; exact hs3.1, by simpa using hlen, ?_, ?_⟩
    · intro j hj
      rw [List.length_set] at hj
      rw [getD_set _ _ _ _ (by omega), getD_set _ _ _ _ ha]
      split
      · refine k1.keep (fun k hk => hgx k (fun e => ?_))
        obtain ⟨c1, e1⟩ := k1.typed hk
        rw [e, hgb] at e1
        injection e1 with e1
        injection e1 with _ e1
        cases e1
      · rename_i hne
        exact (hT j hj (Ne.symm hne)).keep (fun k hk => hgx k (fun e => h.ne hj hk (by rw [e]; rfl)))
    · intro j l hjl hl'
      rw [List.length_set] at hl'
      rw [getD_set _ _ _ _ (by omega), getD_set _ _ _ _ (by omega)]
      split
      · rename_i e1
        subst e1
        rw [if_neg (by omega)]
        exact hap l hl' (by omega)
      · split
        · rename_i e1 e2
          subst e2
          rcases hap j (by omega) (by omega) with h3 | h3
          · cases hv : (vs.getD j undef).ownBlock with
            | none => exact .inl rfl
            | some k => exact .inr (by rw [h3]; simp)
          · exact .inr (Ne.symm h3)
        · exact h.apart j l hjl hl'
  refine ⟨hcell3, (World.frozen?_of_block (w := w) (hgb.trans hg.symm)).trans hfro, rfl, vs.set a u, h2, List.length_set, f1.trans (Fr.set u (.inl rfl)), fun i hi k hk => ?_⟩
  rw [getD_set _ _ _ _ (by omega)] at hk
  split at hk
  · rcases k3 with k3 | ⟨k', k3, k4⟩
    · exact .inl (.inr ⟨a, by omega, k3 ▸ hk⟩)
    · rw [k3] at hk
      injection hk with hk
      exact .inr (by omega)
  · exact .inl (.inr ⟨i, hi, hk⟩)
theorem T1.snoc {w0 w3 : World} {b g' cap n : Nat} {v : Value} {xs : List Int} {y : Int} (ho : w3.ownsRow b 3 1 (.slice (some ⟨g', 0, none⟩) n cap) n (nums .i64 xs ++ [.int .i64 y])) : T1 w3 b (.slice (some ⟨g', 0, none⟩) n cap) (xs ++ [y]) := by
  have hn : n = (xs ++ [y]).length := by
    have := own_one ho
    simp [nums] at this ⊢
    omega
  unfold T1
  rw [hn] at ho
  rw [show nums .i64 (xs ++ [y]) = nums .i64 xs ++ [.int .i64 y] by simp [nums], hn]
  exact ho
theorem Jn.store {w wr w0 w3 : World} {g n cap i a gs m c : Nat} {X : List (List (List Int))} {L : List (Nat × Array Value × Nat)} {u A4 : Value} {ys : List Int} (h : Jn w wr (.slice (some ⟨g, 0, none⟩) n cap) X L) (hi : i < X.length)
    (hcell : wr.cell? ⟨g, i, none⟩ = some (.slice (some ⟨gs, 0, none⟩) m c)) (ha : a < (X.getD i []).length) (hc4 : wr.cell? ⟨gs, a, none⟩ = some A4) (h0 : Below wr.heap.size wr w0)
    (hu : T1 w3 w.heap.size u ys) (k2 : w0.grownBy w3 A4.ownBlock) (k3 : u.ownBlock = A4.ownBlock ∨ ∃ k, u.ownBlock = some k ∧ wr.heap.size ≤ k) :
    w3.frozen? ⟨gs, a, none⟩ = false ∧ w3.cell? ⟨gs, a, none⟩ = some A4 ∧ w3.cell? ⟨g, i, none⟩ = wr.cell? ⟨g, i, none⟩ ∧ Jn w (w3.setCell ⟨gs, a, none⟩ u) (.slice (some ⟨g, 0, none⟩) n cap) (X.set i ((X.getD i []).set a ys)) L := by
  obtain ⟨vs, uss, hT, hB⟩ := h.und
  obtain ⟨h5, h6⟩ := hT.cell hi
  rw [hcell] at h5
  injection h5 with h5
  have h2 := hT.el i hi
  rw [← h5] at h2
  have h7 := (h2.cell ha).1
  rw [hc4] at h7
  injection h7 with h7
  have hT1 := h2.el a (by have := h2.len; omega)
  rw [← h7] at hT1
  obtain ⟨j1, j2, _, vs', k4, k5, k6, k7⟩ := T2.store h2 ha h0 hu (by rw [← h7]; exact k2) (by rw [← h7]; exact k3)
  obtain ⟨cg, hcg⟩ := own_typed hT.own g rfl
  have hgk : w3.heap[g]? = wr.heap[g]? := (k2.block g (by have := blk_lt hcg; have := h0.size; omega) (fun e => by
    obtain ⟨c1, e1⟩ := hT1.typed e.symm
    rw [hcg] at e1
    injection e1 with e1
    injection e1 with _ e1
    cases e1)).trans (h0.block g (blk_lt hcg))
  refine ⟨j2, by rw [j1, ← h7], World.cell?_of_block hgk, ⟨vs, uss.set i vs', hT.upd hi (by rw [← h5]; exact k4) (by rw [← h5]; exact k6) (by
    rw [← h5]
    rintro k (hk | ⟨j, hj, hk⟩)
    · exact .inl (.inl hk)
    · exact k7 j (by omega) k hk), hB.trans (k6.below hB.size (fun k hk => (h2.lt hk).1))⟩, fun p hp => ?_⟩
  obtain ⟨b1, b2⟩ := h.box p hp
  refine ⟨(k6.block _ (blk_lt b1) (fun hk => ?_)).trans b1, b2⟩
  obtain ⟨c1, e1, h0, h1⟩ := In2.typed h2 hk
  rw [b1] at h1
  injection h1 with h1
  injection h1 with _ h1
  rcases h0 with rfl | rfl
  · exact b2.2.1 h1
  · exact b2.2.2 h1
theorem Jn.elem {w wr : World} {g n cap i a gs m c : Nat} {X : List (List (List Int))} {L : List (Nat × Array Value × Nat)} {A4 : Value} (h : Jn w wr (.slice (some ⟨g, 0, none⟩) n cap) X L) (hi : i < X.length)
    (hcell : wr.cell? ⟨g, i, none⟩ = some (.slice (some ⟨gs, 0, none⟩) m c)) (ha : a < (X.getD i []).length) (hc4 : wr.cell? ⟨gs, a, none⟩ = some A4) : T1 wr w.heap.size A4 ((X.getD i []).getD a []) := by
  obtain ⟨vs, uss, hT, hB⟩ := h.und
  obtain ⟨h5, h6⟩ := hT.cell hi
  rw [hcell] at h5
  injection h5 with h5
  have h2 := hT.el i hi
  rw [← h5] at h2
  have h7 := (h2.cell ha).1
  rw [hc4] at h7
  injection h7 with h7
  have hT1 := h2.el a (by have := h2.len; omega)
  rwa [← h7] at hT1
theorem aof_start {w w1 : World} {v va c0 c1 c2 : Value} {vs : List Value} {us : List (List Value)} {x : List (List (List Int))}
    (hb : Below ((w.alloc (.cells #[c0, c1, c2] 26)).alloc (.cells #[va] 54)).heap.size ((w.alloc (.cells #[c0, c1, c2] 26)).alloc (.cells #[va] 54)) w1)
    (hT : T3 w1 ((w.alloc (.cells #[c0, c1, c2] 26)).alloc (.cells #[va] 54)).heap.size v vs us x) :
    Jn w w1 v x [(w.heap.size, #[c0, c1, c2], 26), (w.heap.size + 1, #[va], 54)] := by
  obtain ⟨k1, k2⟩ := two_box hb
  have h0 : Below w.heap.size w ((w.alloc (.cells #[c0, c1, c2] 26)).alloc (.cells #[va] 54)) := ((Below.refl _ _).alloc (Nat.le_refl _) _).alloc (by simp) _
  refine ⟨⟨_, _, hT.lower h0.size, h0.trans (hb.mono h0.size)⟩, fun p hp => ?_⟩
  simp only [List.mem_cons, List.not_mem_nil, or_false] at hp
  rcases hp with rfl | rfl
  · exact ⟨k1, (by decide : (26 : Nat) ≠ 43 ∧ (26 : Nat) ≠ 22 ∧ (26 : Nat) ≠ 3)⟩
  · exact ⟨k2, (by decide : (54 : Nat) ≠ 43 ∧ (54 : Nat) ≠ 22 ∧ (54 : Nat) ≠ 3)⟩
set_option maxHeartbeats 4000000 in
theorem aof_calls {S W L : Nat} (h : CacheOk S W L) (A : Option Addr) (c : Nat) (l : List (List Int)) (w : World) (hl : l.length = S) (hlw : ∀ x ∈ l, x.length = W) (hr : C2 w A l) (hc : l.length ≤ c) :
    Calls Try.prog 80 #[.agg #[.int .i64 S, .int .i64 W, .int .i64 L], .agg #[.slice A l.length c]] w (New3 w (ofM S W l)) := by
  have hW1 := h.w1; have hW4 := h.w4; have hS8 := h.s8
  have htop := Aside0.mk (top_calls h ((w.alloc (.cells #[.int .i64 S, .int .i64 W, .int .i64 L] 26)).alloc (.cells #[.slice A l.length c] 54)))
  have HB0 : Aside0 (Below w.heap.size w ((w.alloc (.cells #[.int .i64 S, .int .i64 W, .int .i64 L] 26)).alloc (.cells #[.slice A l.length c] 54))) := ⟨((Below.refl _ _).alloc (Nat.le_refl _) _).alloc (by simp) _⟩
  have HA := Aside0.mk hr
  have HLW := Aside0.mk hlw
  have HLS := Aside0.mk hl
  have hl9 : l.length < 9 := by rw [hl]; omega
  have hts : (top S W).length < 9 := by simp [top]; omega
  clear hr hlw hl h
  go_enter Try.func80, Try.ntmps80
  go_wp2_with (first | (go_at_call 65; refine htop.out.mono ?_; rintro e w1 ⟨v1, vs1, us1, rfl, hT, hb⟩; obtain ⟨A1, c1, rfl, _, _⟩ := hT.reads; have HJ := Aside0.mk (aof_start hb hT); obtain ⟨k1, k2⟩ := two_box hb; obtain ⟨q2, f2⟩ := cz1' k2; clear k1 k2 hb hT f2))
  obtain ⟨LL, hLL⟩ : ∃ LL : List (Nat × Array Value × Nat), LL = [(w.heap.size, #[.int .i64 S, .int .i64 W, .int .i64 L], 26), (w.heap.size + 1, #[.slice A l.length c], 54)] := ⟨_, rfl⟩
  rw [← hLL] at HJ
  have HTL := Aside0.mk (show (top S W).length = S by simp [top])
  clear hLL q2 htop
  generalize (top S W).length = tl at *
  rw [← ofN_zero S W l] at HJ
  go_loopw [15] (fun v15 wr => ∃ s : Nat, s ≤ l.length ∧ v15 = .int .i64 s ∧ Aside0 (Jn w wr (.slice A1 tl c1) (ofN S W l s) LL)) (fun v15 _ => l.length - (RowKit.intOf v15).toNat)
  case atStart => exact ⟨0, Nat.zero_le _, rfl, HJ⟩
  case round =>
    clear HJ
    obtain ⟨s, hs, rfl, HJ⟩ := hrel
    by_cases hlt : s < l.length
    · have hsS : s < S := by rw [← HLS.out]; exact hlt
      obtain ⟨ad, A0, c0, rfl, hcell0, hc0, hl0⟩ := C2.get HA.out hlt
      have hxl := HLW.out _ (List.getElem_mem hlt)
      have hcell := pw_cell_below HJ.out.bel hcell0
      have HLx := Aside0.mk hl0
      have HNs : Aside0 ((ofN S W l s).set s (ofR l[s] W W) = ofN S W l (s + 1)) := ⟨by have := ofN_set (W := W) l hsS; rwa [getD_lt hlt, ofS] at this⟩
      have HJ1 : Aside0 (Jn w wr (.slice A1 tl c1) ((ofN S W l s).set s (ofR l[s] W 0)) LL) := ⟨by have := ofN_at (W := W) l hsS; rw [getD_lt hlt] at this; rw [this]; exact HJ.out⟩
      have HJl : Aside0 ((ofN S W l s).length = S) := ⟨ofN_length S W l s⟩
      obtain ⟨g1, hg1⟩ : ∃ g1, A1 = some ⟨g1, 0, none⟩ := by
        obtain ⟨vs, uss, hT, hB⟩ := HJ.out.und
        rcases hT.open_ with ⟨_, _, h0⟩ | ⟨g1, cap, cur, h1, _⟩
        · have := congrArg List.length h0
          rw [ofN_length] at this
          simp at this
          omega
        · injection h1 with h1
          exact ⟨g1, h1⟩
      subst hg1
      have hstl : s < tl := by rw [HTL.out]; exact hsS
      have HXL := Aside0.mk hxl
      have hx9 : l[s].length < 5 := by omega
      clear hl0 hcell0 HJ hxl
      generalize l[s] = x at *
      generalize ofN S W l s = J at *
      obtain ⟨wo, rfl⟩ : ∃ wo : World, wo = wr := ⟨_, rfl⟩
      go_wp2
      go_loopw [22] (fun v22 wr => ∃ a : Nat, a ≤ x.length ∧ v22 = .int .i64 a ∧ Aside0 (Jn w wr (.slice (some ⟨g1, 0, none⟩) tl c1) (J.set s (ofR x W a)) LL)) (fun v22 _ => x.length - (RowKit.intOf v22).toNat)
      case atStart => exact ⟨0, Nat.zero_le _, rfl, HJ1⟩
      case round =>
        clear HJ1 hcell
        obtain ⟨a, ha, rfl, HJ⟩ := hrel
        by_cases hal : a < x.length
        · have haW : a < W := by rw [← HXL.out]; exact hal
          obtain ⟨ad2, rfl, hcell2⟩ := C1.get (Kd.C_below HLx.out HJ.out.bel) hal
          have hxa : x.getD a 0 = x[a] := getD_lt hal
          by_cases hpos : 0 ≤ x[a]
          · have g1' : decide ((0 : Int) ≤ x[a]) = true := decide_eq_true hpos
            have g2' : decide ((s : Int) < (tl : Int)) = true := decide_eq_true (by omega)
            have g3' : decide ((a : Int) < (W : Int)) = true := decide_eq_true (by omega)
            have HM : Aside0 ((ofR x W a).set a [x[a]] = ofR x W (a + 1)) := ⟨by have := ofR_yes haW (x := x) (by rw [hxa]; exact hpos); rwa [hxa] at this⟩
            have hrow : (J.set s (ofR x W a)).getD s [] = ofR x W a := getD_set_eq _ _ _ (by rw [HJl.out]; exact hsS)
            have hsj : s < (J.set s (ofR x W a)).length := by rw [List.length_set, HJl.out]; exact hsS
            have hnil : (ofR x W a).getD a [] = [] := by
              rw [getD_lt (by rw [ofR_length]; exact haW)]
              simp [ofR]
            obtain ⟨gs, cs, hch, hgsg, hgsL, hgL⟩ := HJ.out.head hsj (by rw [hrow, ofR_length]; omega)
            rw [hrow, ofR_length] at hch
            obtain ⟨⟨u4, A4, m4, c4, hcu, rfl, hT4⟩, hfu⟩ := HJ.out.und.cell2 hsj hch (by rw [hrow, ofR_length]; exact haW)
            have hT0 := HJ.out.elem hsj hch (by rw [hrow, ofR_length]; exact haW) hcu
            rw [hrow, hnil] at hT0 hT4
            obtain rfl : m4 = 0 := hT4.1.symm
            have HOWN : Aside0 (∀ w1, Below wr.heap.size wr w1 → w1.ownsRow w.heap.size 3 1 (.slice A4 0 c4) 0 []) := ⟨fun w1 hb => hT0.keep (fun k hk => hb.block k (hT0.lt hk).2)⟩
            have HST : Aside0 (∀ w0 w3 g' cap', Below wr.heap.size wr w0 → w3.ownsRow w.heap.size 3 1 (.slice (some ⟨g', 0, none⟩) 1 cap') 1 [.int .i64 x[a]] → w0.grownBy w3 (Value.slice A4 0 c4).ownBlock → ((Value.slice A4 0 c4).ownBlock = some g' ∨ wr.heap.size ≤ g') →
                w3.frozen? ⟨gs, a, none⟩ = false ∧ w3.cell? ⟨gs, a, none⟩ = some (.slice A4 0 c4) ∧ w3.cell? ⟨g1, s, none⟩ = some (.slice (some ⟨gs, 0, none⟩) W cs) ∧ Jn w (w3.setCell ⟨gs, a, none⟩ (.slice (some ⟨g', 0, none⟩) 1 cap')) (.slice (some ⟨g1, 0, none⟩) tl c1) (J.set s (ofR x W (a + 1))) LL) := ⟨fun w0 w3 g' cap' h0 ho hg hlie => by
              have := HJ.out.store (u := .slice (some ⟨g', 0, none⟩) 1 cap') (ys := [x[a]]) hsj hch (by rw [hrow, ofR_length]; exact haW) hcu h0 (T1.snoc (v := .slice A4 0 c4) (xs := []) (w0 := w0) ho) hg (by
                rcases hlie with h1 | h1
                · exact .inl (h1 ▸ rfl)
                · exact .inr ⟨g', rfl, h1⟩)
              rw [hrow, set_twice, HM.out, hch] at this
              exact this⟩
            have HB1 : Aside0 (Below wr.heap.size wr (wr.alloc (.cells #[.int .i64 x[a]] 3)).drew) := ⟨((Below.refl _ _).alloc (Nat.le_refl _) _).drew⟩
            have HSZ : Aside0 (w.heap.size ≤ wr.heap.size) := ⟨HJ.out.bel.size⟩
            clear hrow HM hpos hfu HJ hxa hT0 hT4 hnil hgsg hgsL hgL
            generalize x[a] = y at *
            go_upto_region 9 with (fail)
            refine HeldTill.begin_ (S := fun (w' : World) => w'.cell? ⟨g1, s, none⟩ = some (.slice (some ⟨gs, 0, none⟩) W cs) ∧ w'.cell? ⟨gs, a, none⟩ = some (.slice A4 0 c4)) (F := fun j => j != 16) (by kernel_rfl) ?_
            have hSq0 : (fun (w' : World) => w'.cell? ⟨g1, s, none⟩ = some (.slice (some ⟨gs, 0, none⟩) W cs) ∧ w'.cell? ⟨gs, a, none⟩ = some (.slice A4 0 c4)) wr.drew := ⟨hch, hcu⟩
            refine HeldTill.take (i := 0) (n := 16) (v := ?_) rfl (by kernel_rfl) (by kernel_rfl) (by kernel_rfl) (by kernel_rfl) (fun _ _ _ h => h) (Or.inl ⟨by rfl, ?_⟩) hSq0 ?_
            rotate_left
            · intro w hSw; (try dsimp only at hSw); go_simp; (try with_reducible rfl)
            simp only [Act.put, List.setIfInBounds_toArray, List.set_cons_zero, List.set_cons_succ, List.getElem_toArray, List.getElem_cons_zero, List.getElem_cons_succ]
            refine HeldTill.take (i := 1) (n := 15) (v := ?_) rfl (by kernel_rfl) (by kernel_rfl) (by kernel_rfl) (by kernel_rfl) (fun _ _ _ h => h) (Or.inl ⟨by rfl, ?_⟩) hSq0 ?_
            rotate_left
            · intro w hSw; (try dsimp only at hSw); go_simp; (try with_reducible rfl)
            simp only [Act.put, List.setIfInBounds_toArray, List.set_cons_zero, List.set_cons_succ, List.getElem_toArray, List.getElem_cons_zero, List.getElem_cons_succ]
            refine HeldTill.take (i := 2) (n := 14) (v := ?_) rfl (by kernel_rfl) (by kernel_rfl) (by kernel_rfl) (by kernel_rfl) (fun _ _ _ h => h) (Or.inl ⟨by rfl, ?_⟩) hSq0 ?_
            rotate_left
            · intro w hSw; (try dsimp only at hSw); go_simp; (try with_reducible rfl)
            simp only [Act.put, List.setIfInBounds_toArray, List.set_cons_zero, List.set_cons_succ, List.getElem_toArray, List.getElem_cons_zero, List.getElem_cons_succ]
            refine HeldTill.take (i := 3) (n := 13) (v := ?_) rfl (by kernel_rfl) (by kernel_rfl) (by kernel_rfl) (by kernel_rfl) (fun _ _ _ h => h) (Or.inl ⟨by rfl, ?_⟩) hSq0 ?_
            rotate_left
            · intro w hSw; (try dsimp only at hSw); go_simp; (try with_reducible rfl)
            simp only [Act.put, List.setIfInBounds_toArray, List.set_cons_zero, List.set_cons_succ, List.getElem_toArray, List.getElem_cons_zero, List.getElem_cons_succ]
            refine HeldTill.take (i := 4) (n := 12) (v := ?_) rfl (by kernel_rfl) (by kernel_rfl) (by kernel_rfl) (by kernel_rfl) (fun _ _ _ h => h) (Or.inl ⟨by rfl, ?_⟩) hSq0 ?_
            rotate_left
            · intro w hSw; (try dsimp only at hSw); go_simp; (try with_reducible rfl)
            simp only [Act.put, List.setIfInBounds_toArray, List.set_cons_zero, List.set_cons_succ, List.getElem_toArray, List.getElem_cons_zero, List.getElem_cons_succ]
            refine HeldTill.take (i := 5) (n := 11) (v := ?_) rfl (by kernel_rfl) (by kernel_rfl) (by kernel_rfl) (by kernel_rfl) (fun _ _ _ h => h) (Or.inl ⟨by rfl, ?_⟩) hSq0 ?_
            rotate_left
            · intro w hSw; (try dsimp only at hSw); go_simp; (try with_reducible rfl)
            simp only [Act.put, List.setIfInBounds_toArray, List.set_cons_zero, List.set_cons_succ, List.getElem_toArray, List.getElem_cons_zero, List.getElem_cons_succ]
            refine HeldTill.take (i := 6) (n := 10) (v := ?_) rfl (by kernel_rfl) (by kernel_rfl) (by kernel_rfl) (by kernel_rfl) (fun _ _ _ h => h) (Or.inl ⟨by rfl, ?_⟩) hSq0 ?_
            rotate_left
            · intro w hSw; (try dsimp only at hSw); go_simp; (try with_reducible rfl)
            simp only [Act.put, List.setIfInBounds_toArray, List.set_cons_zero, List.set_cons_succ, List.getElem_toArray, List.getElem_cons_zero, List.getElem_cons_succ]
            refine HeldTill.take (i := 7) (n := 9) (v := ?_) rfl (by kernel_rfl) (by kernel_rfl) (by kernel_rfl) (by kernel_rfl) (fun _ _ _ h => h) (Or.inl ⟨by rfl, ?_⟩) hSq0 ?_
            rotate_left
            · intro w hSw; (try dsimp only at hSw); go_simp; (try with_reducible rfl)
            simp only [Act.put, List.setIfInBounds_toArray, List.set_cons_zero, List.set_cons_succ, List.getElem_toArray, List.getElem_cons_zero, List.getElem_cons_succ]
            refine HeldTill.take (i := 8) (n := 8) (v := ?_) rfl (by kernel_rfl) (by kernel_rfl) (by kernel_rfl) (by kernel_rfl) (fun _ _ _ h => h) (Or.inl ⟨by rfl, ?_⟩) hSq0 ?_
            rotate_left
            · intro w hSw; (try dsimp only at hSw); go_simp; (try with_reducible rfl)
            simp only [Act.put, List.setIfInBounds_toArray, List.set_cons_zero, List.set_cons_succ, List.getElem_toArray, List.getElem_cons_zero, List.getElem_cons_succ]
            refine HeldTill.take (i := 9) (n := 7) (v := ?_) rfl (by kernel_rfl) (by kernel_rfl) (by kernel_rfl) (by kernel_rfl) (fun _ _ _ h => h) (Or.inl ⟨by rfl, ?_⟩) hSq0 ?_
            rotate_left
            · intro w hSw; (try dsimp only at hSw); go_simp; (try with_reducible rfl)
            simp only [Act.put, List.setIfInBounds_toArray, List.set_cons_zero, List.set_cons_succ, List.getElem_toArray, List.getElem_cons_zero, List.getElem_cons_succ]
            refine HeldTill.take (i := 10) (n := 6) (v := ?_) rfl (by kernel_rfl) (by kernel_rfl) (by kernel_rfl) (by kernel_rfl) (fun _ _ _ h => h) (Or.inl ⟨by rfl, ?_⟩) hSq0 ?_
            rotate_left
            · intro w hSw; (try dsimp only at hSw); go_simp; (try with_reducible rfl)
            simp only [Act.put, List.setIfInBounds_toArray, List.set_cons_zero, List.set_cons_succ, List.getElem_toArray, List.getElem_cons_zero, List.getElem_cons_succ]
            refine HeldTill.take (i := 11) (n := 5) (v := ?_) rfl (by kernel_rfl) (by kernel_rfl) (by kernel_rfl) (by kernel_rfl) (fun _ _ _ h => h) (Or.inl ⟨by rfl, ?_⟩) hSq0 ?_
            rotate_left
            · intro w hSw; (try dsimp only at hSw); go_simp; (try with_reducible rfl)
            simp only [Act.put, List.setIfInBounds_toArray, List.set_cons_zero, List.set_cons_succ, List.getElem_toArray, List.getElem_cons_zero, List.getElem_cons_succ]
            refine HeldTill.take (i := 12) (n := 4) (v := ?_) rfl (by kernel_rfl) (by kernel_rfl) (by kernel_rfl) (by kernel_rfl) (fun _ _ _ h => h) (Or.inl ⟨by rfl, ?_⟩) hSq0 ?_
            rotate_left
            · intro w hSw; (try dsimp only at hSw); go_simp; (try with_reducible rfl)
            simp only [Act.put, List.setIfInBounds_toArray, List.set_cons_zero, List.set_cons_succ, List.getElem_toArray, List.getElem_cons_zero, List.getElem_cons_succ]
            refine HeldTill.next (j := 13) (n := 3) (by kernel_rfl) rfl ?_
            go_wp2
            have hSq1 : (fun (w' : World) => w'.cell? ⟨g1, s, none⟩ = some (.slice (some ⟨gs, 0, none⟩) W cs) ∧ w'.cell? ⟨gs, a, none⟩ = some (.slice A4 0 c4)) _ := ⟨pw_cell_below HB1.out hch, pw_cell_below HB1.out hcu⟩
            refine ⟨(by first | exact fun _ => hSq1 | exact hSq1), ?_⟩
            refine HeldTill.next (j := 14) (n := 2) (by kernel_rfl) rfl ?_
            refine app_one rfl (.tmp 55) (.tmp 57) 22 3 (.int .i64 0) 8 rfl Try.underlying22 info3 rfl w.heap.size (.slice A4 0 c4) (.int .i64 y) [] wr.heap.size rfl rfl (heap_new wr _) rfl (HOWN.out _ HB1.out) (by simp) (by simp [maxLen]) (by show w.heap.size ≤ (wr.alloc _).heap.size; rw [World.size_alloc]; have := HSZ.out; omega) ?_; intro g' cap' w2 ho hgr hlie; (try simp only [List.length_nil, Nat.zero_add, List.nil_append] at ho); (try simp only [List.length_nil, Nat.zero_add, List.nil_append]); have HQ := Aside0.mk (HST.out _ w2 g' cap' HB1.out ho hgr (by rcases hlie with h | h; exact .inl h; right; rw [h]; show wr.heap.size ≤ (wr.alloc _).heap.size; rw [World.size_alloc]; omega)); clear ho hgr hlie
            go_wp2
            have hSq2 : (fun (w' : World) => w'.cell? ⟨g1, s, none⟩ = some (.slice (some ⟨gs, 0, none⟩) W cs) ∧ w'.cell? ⟨gs, a, none⟩ = some (.slice A4 0 c4)) _ := ⟨HQ.out.2.2.1, HQ.out.2.1⟩
            refine ⟨(by first | exact fun _ => hSq2 | exact hSq2), ?_⟩
            refine HeldTill.take (i := 15) (n := 1) (v := ?_) rfl (by kernel_rfl) (by kernel_rfl) (by kernel_rfl) (by kernel_rfl) (fun _ _ _ h => h) (Or.inl ⟨by rfl, ?_⟩) hSq2 ?_
            rotate_left
            · intro w hSw; (try dsimp only at hSw); go_simp; (try with_reducible rfl)
            simp only [Act.put, List.setIfInBounds_toArray, List.set_cons_zero, List.set_cons_succ, List.getElem_toArray, List.getElem_cons_zero, List.getElem_cons_succ]
            refine HeldTill.next (j := 16) (n := 0) (by kernel_rfl) rfl ?_
            have qc := HQ.out.2.1
            have qf := HQ.out.1
            go_wp2
            first | refine ⟨fun h => absurd h (by decide), (by kernel_rfl), ?_⟩ | refine ⟨(by kernel_rfl), ?_⟩
            have HFIN := Aside0.mk HQ.out.2.2.2
            go_wp2
            go_roundw
            case rel => exact ⟨a + 1, hal, by go_num, HFIN⟩
            case measure => simp [RowKit.intOf]; omega
          · have g1' : decide ((0 : Int) ≤ x[a]) = false := decide_eq_false hpos
            have HM : Aside0 (ofR x W a = ofR x W (a + 1)) := ⟨ofR_no (by rw [hxa]; exact hpos)⟩
            clear hpos hxa
            generalize x[a] = y at *
            go_wp2
            go_roundw
            case rel => exact ⟨a + 1, hal, by go_num, ⟨by rw [← HM.out]; exact HJ.out⟩⟩
            case measure => simp [RowKit.intOf]; omega
        · obtain rfl : a = x.length := by omega
          have HJ3 : Aside0 (Jn w wr (.slice (some ⟨g1, 0, none⟩) tl c1) (ofN S W l (s + 1)) LL) := ⟨by rw [← HNs.out]; have := HJ.out; rw [HXL.out] at this; exact this⟩
          clear HJ
          go_wp2
          go_roundw
          case rel => exact ⟨s + 1, hlt, by go_num, HJ3⟩
          case measure => simp [RowKit.intOf]; omega
    · obtain rfl : s = l.length := by omega
      go_wp2
      go_ret
      obtain ⟨vs2, us2, hT, hB⟩ := HJ.out.und
      exact ⟨_, vs2, us2, rfl, by rw [ofM]; rw [HLS.out] at hT; exact hT, hB⟩
end Go.Proofs.Ytkgocbmnjlfkoaa.M
end
section
namespace Go.Proofs.Ytkgocbmnjlfkoaa.X
open Go.RowKit Go.Proofs.YtkgocbmnjlfkoaaW.PrintWords Go.Proofs.YtkgocbmnjlfkoaaW.PrintLast Go.Proofs.YtkgocbmnjlfkoaaW.PrintMore
attribute [local go_sem] max2_int min2_int max_two min_two max_three min_three max_four min_four
set_option linter.unusedVariables false
set_option linter.unusedSimpArgs false
mutual
def timeboundref24_Below.l0 : Nat → Int → Int → List (List (List Int)) → List (List (List Int)) → Option (Bool)
  | 0, _, _, _, _ => none
  | k + 1, x15, x16, x103000, x104000 => if x16 < x15 then (if 0 ≤ x16 then (if x16 < (x104000.length : Int) then (timeboundref24_Below.l1 k x16 x15 x16 (rd_L2 x104000 x16) ((rd_L2 x104000 x16).length : Int) 0 x103000 x104000) else (none)) else (none)) else (some true)
def timeboundref24_Below.l1 : Nat → Int → Int → Int → List (List Int) → Int → Int → List (List (List Int)) → List (List (List Int)) → Option (Bool)
  | 0, _, _, _, _, _, _, _, _ => none
  | k + 1, x7, x15, x16, x23, x24, x25, x103000, x104000 => if x25 < x24 then (if 0 ≤ x25 then (if x25 < (x23.length : Int) then (timeboundref24_Below.l2 k x7 x25 x15 x16 x23 x24 x25 (rd_L1 x23 x25) ((rd_L1 x23 x25).length : Int) 0 x103000 x104000) else (none)) else (none)) else (timeboundref24_Below.l0 k x15 (wrap64 (x16 + 1)) x103000 x104000)
def timeboundref24_Below.l2 : Nat → Int → Int → Int → Int → List (List Int) → Int → Int → List Int → Int → Int → List (List (List Int)) → List (List (List Int)) → Option (Bool)
  | 0, _, _, _, _, _, _, _, _, _, _, _, _ => none
  | k + 1, x7, x8, x15, x16, x23, x24, x25, x30, x31, x32, x103000, x104000 => if x32 < x31 then (if 0 ≤ x32 then (if x32 < (x30.length : Int) then (if 0 ≤ x7 then (if x7 < (x103000.length : Int) then ((timeboundref24_Place.f k (rd_L2 x103000 x7) (rd x30 x32)).bind fun t108 => (if t108 < 0 then (some false) else (if t108 > x8 then (some false) else (timeboundref24_Below.l2 k x7 x8 x15 x16 x23 x24 x25 x30 x31 (wrap64 (x32 + 1)) x103000 x104000)))) else (none)) else (none)) else (none)) else (none)) else (timeboundref24_Below.l1 k x7 x15 x16 x23 x24 (wrap64 (x25 + 1)) x103000 x104000)
end
def timeboundref24_Below.f (k : Nat) (a0_0 : Int) (a0_1 : Int) (a0_2 : Int) (l1_0 : List (List (List Int))) (l2_0 : List (List (List Int))) : Option (Bool) := timeboundref24_Below.l0 k (l2_0.length : Int) 0 l1_0 l2_0
set_option maxHeartbeats 80000000 in
set_option maxRecDepth 100000 in
theorem timeboundref24_Below.calls (k : Nat) (a0_0 : Int) (a0_1 : Int) (a0_2 : Int) (A1_0 : Option Addr) (c1_0 : Nat) (l1_0 : List (List (List Int))) (A2_0 : Option Addr) (c2_0 : Nat) (l2_0 : List (List (List Int))) (r : Bool) (w : World) (hr1_0 : Kd.C (Kd.slice 22 (Kd.slice 3 (Kd.int .i64))) w A1_0 l1_0.length l1_0) (hc1_0 : l1_0.length ≤ c1_0) (hr2_0 : Kd.C (Kd.slice 22 (Kd.slice 3 (Kd.int .i64))) w A2_0 l2_0.length l2_0) (hc2_0 : l2_0.length ≤ c2_0) (h : timeboundref24_Below.f k a0_0 a0_1 a0_2 l1_0 l2_0 = some r) :
   Calls Try.prog 45 #[.agg #[.int .i64 a0_0, .int .i64 a0_1, .int .i64 a0_2], .agg #[.slice A1_0 l1_0.length c1_0], .agg #[.slice A2_0 l2_0.length c2_0]] w fun e w' => e = .returned (.bool r) ∧ Below w.heap.size w w' := by
  have hu26 := Try.underlying26
  have hu39 := Try.underlying39
  have HR1_0 := Aside0.mk hr1_0
  have HC1_0 := Aside0.mk hc1_0
  clear hr1_0 hc1_0
  have HR2_0 := Aside0.mk hr2_0
  have HC2_0 := Aside0.mk hc2_0
  clear hr2_0 hc2_0
  have HB := Aside0.mk (Below.refl w.heap.size w)
  have H : (timeboundref24_Below.l0 k (l2_0.length : Int) 0 l1_0 l2_0) = some r := h
  clear h
  have H' := Aside0.mk H
  clear H
  go_enter Try.func45, Try.ntmps45
  go_wp2_with (first | ((with_reducible refine gate_dst (N := 3) rfl ?_); refine box_event ?hg (N := 3) ?hd (cs := #[.int .i64 a0_0, .int .i64 a0_1, .int .i64 a0_2]) (t := 26) ?hr ?_; (case hd => rfl); (case hg => rfl); (case hr => first | (go_simp; done) | (go_simp; rfl)); intro gb101 hg w4 hbox hb; have n0_ := Aside0.mk (below_step (hB0 HB.out) hb); have n1_ := Aside0.mk (hbox); have n2_ := Aside0.mk ((by rw [hg]; exact (below_size (hB0 HB.out)) : w.heap.size ≤ gb101)); have n3_ := Aside0.mk ((by rw [hg]; exact (below_size (hB0 HB.out)) : w.heap.size ≤ gb101)); clear HB; have HB := n0_; have BK101 := n1_; have GW101 := n2_; have GE101 := n3_; clear n0_ n1_ n2_ n3_; clear hb hbox hg) | ((with_reducible refine gate_dst (N := 4) rfl ?_); refine box_event ?hg (N := 4) ?hd (cs := #[.slice A1_0 l1_0.length c1_0]) (t := 39) ?hr ?_; (case hd => rfl); (case hg => rfl); (case hr => first | (go_simp; done) | (go_simp; rfl)); intro gb102 hg w5 hbox hb; have n0_ := Aside0.mk (blk_below (g := gb101) (bK BK101.out) hb); have n1_ := Aside0.mk (below_step (hB1 HB.out GE101.out) hb); have n2_ := Aside0.mk (hbox); have n3_ := Aside0.mk ((by rw [hg]; exact (below_size (hB1 HB.out GE101.out)) : w.heap.size ≤ gb102)); have n4_ := Aside0.mk ((by rw [hg]; exact (below_size (hB1 HB.out GE101.out)) : w.heap.size ≤ gb102)); have n5_ := Aside0.mk ((by rw [hg]; exact Nat.ne_of_lt (blk_lt (g := gb101) (bK BK101.out)) : gb101 ≠ gb102)); have n6_ := Aside0.mk ((by rw [hg]; exact Nat.ne_of_gt (blk_lt (g := gb101) (bK BK101.out)) : gb102 ≠ gb101)); clear BK101 HB; have BK101 := n0_; have HB := n1_; have BK102 := n2_; have GW102 := n3_; have GE102 := n4_; have NB101_102 := n5_; have NB102_101 := n6_; clear n0_ n1_ n2_ n3_ n4_ n5_ n6_; clear hb hbox hg) | ((with_reducible refine gate_dst (N := 5) rfl ?_); refine box_event ?hg (N := 5) ?hd (cs := #[.slice A2_0 l2_0.length c2_0]) (t := 39) ?hr ?_; (case hd => rfl); (case hg => rfl); (case hr => first | (go_simp; done) | (go_simp; rfl)); intro gb103 hg w6 hbox hb; have n0_ := Aside0.mk (blk_below (g := gb101) (bK BK101.out) hb); have n1_ := Aside0.mk (blk_below (g := gb102) (bK BK102.out) hb); have n2_ := Aside0.mk (below_step (hB2 HB.out GE101.out GE102.out) hb); have n3_ := Aside0.mk (hbox); have n4_ := Aside0.mk ((by rw [hg]; exact (below_size (hB2 HB.out GE101.out GE102.out)) : w.heap.size ≤ gb103)); have n5_ := Aside0.mk ((by rw [hg]; exact (below_size (hB2 HB.out GE101.out GE102.out)) : w.heap.size ≤ gb103)); have n6_ := Aside0.mk ((by rw [hg]; exact Nat.ne_of_lt (blk_lt (g := gb101) (bK BK101.out)) : gb101 ≠ gb103)); have n7_ := Aside0.mk ((by rw [hg]; exact Nat.ne_of_gt (blk_lt (g := gb101) (bK BK101.out)) : gb103 ≠ gb101)); have n8_ := Aside0.mk ((by rw [hg]; exact Nat.ne_of_lt (blk_lt (g := gb102) (bK BK102.out)) : gb102 ≠ gb103)); have n9_ := Aside0.mk ((by rw [hg]; exact Nat.ne_of_gt (blk_lt (g := gb102) (bK BK102.out)) : gb103 ≠ gb102)); clear BK101 BK102 HB; have BK101 := n0_; have BK102 := n1_; have HB := n2_; have BK103 := n3_; have GW103 := n4_; have GE103 := n5_; have NB101_103 := n6_; have NB103_101 := n7_; have NB102_103 := n8_; have NB103_102 := n9_; clear n0_ n1_ n2_ n3_ n4_ n5_ n6_ n7_ n8_ n9_; clear hb hbox hg; have hnb7 := NB103_101.out; have hnc7 := NB101_103.out; have hnb8 := NB103_102.out; have hnc8 := NB102_103.out; obtain ⟨hcz9_0, hfz9_0⟩ := cz1 BK103.out))
  (try simp only [Act.put, List.setIfInBounds_toArray, List.set_cons_zero, List.set_cons_succ])
  go_loopg [16] k (fun kq v16 w' => ∃ (x16_1 : Int), v16 = .int .i64 x16_1 ∧ Aside0 (timeboundref24_Below.l0 kq (l2_0.length : Int) x16_1 l1_0 l2_0 = some r) ∧ Aside0 (kq ≤ k) ∧ Aside0 (w'.heap[gb101]? = some (.cells #[.int .i64 a0_0, .int .i64 a0_1, .int .i64 a0_2] 26 (0, 0))) ∧ Aside0 (w'.heap[gb102]? = some (.cells #[(.slice A1_0 l1_0.length c1_0)] 39 (0, 0))) ∧ Aside0 (w'.heap[gb103]? = some (.cells #[(.slice A2_0 l2_0.length c2_0)] 39 (0, 0))) ∧ Aside0 (Below w.heap.size w w'))
  case atStart => exact ⟨(0), rS, H', ⟨Nat.le_refl _⟩, ⟨bK BK101.out⟩, ⟨bK BK102.out⟩, ⟨bK BK103.out⟩, ⟨hB3 HB.out GE101.out GE102.out GE103.out⟩⟩
  case round =>
   clear H'
   try clear hcz9_0
   try clear hfz9_0
   obtain ⟨x16_1, rfl, HA, HK1, BK101, BK102, BK103, HB⟩ := hrel
   cases gk with
   | zero => exact absurd HA.out (by simp [timeboundref24_Below.l0])
   | succ k1 =>
    have H := HA.out
    clear HA
    simp only [timeboundref24_Below.l0] at H
    by_cases c10 : x16_1 < (l2_0.length : Int)
    ·rw [if_pos c10] at H
     have c10b0 : decide (x16_1 < (l2_0.length : Int)) = true := decide_eq_true c10
     clear c10
     by_cases c11 : 0 ≤ x16_1
     ·rw [if_pos c11] at H
      have c11b0 : decide (0 ≤ x16_1) = true := decide_eq_true c11
      clear c11
      by_cases c12 : x16_1 < (l2_0.length : Int)
      ·rw [if_pos c12] at H
       have c12b0 : decide (x16_1 < (l2_0.length : Int)) = true := decide_eq_true c12
       clear c12
       have H' := Aside0.mk H
       clear H
       have hnb13 := NB103_101.out
       have hnc13 := NB101_103.out
       have hnb14 := NB103_102.out
       have hnc14 := NB102_103.out
       obtain ⟨hcz15_0, hfz15_0⟩ := cz1 BK103.out
       have p104 : 0 ≤ (x16_1 : Int) := oD
       have q104 : x16_1 < (l2_0.length : Int) := oD
       obtain ⟨ad104, A104_0, c104_0, e104, hx104_0, hl104_0, hi104_0⟩ := at_L2 HR2_0.out x16_1 p104 q104
       cases e104
       replace hx104_0 := (HB.out.cell (World.block_lt_of_cell? w _ hx104_0)).trans hx104_0
       have HR104_0 := Aside0.mk hi104_0
       have HC104_0 := Aside0.mk hl104_0
       clear hi104_0 hl104_0
       replace p104 := eq_true p104
       replace q104 := eq_true q104
       go_wp2
       go_loopg [25] k1 (fun kq v25 w' => ∃ (x25_2 : Int), v25 = .int .i64 x25_2 ∧ Aside0 (timeboundref24_Below.l1 kq x16_1 (l2_0.length : Int) x16_1 (rd_L2 l2_0 x16_1) ((rd_L2 l2_0 x16_1).length : Int) x25_2 l1_0 l2_0 = some r) ∧ Aside0 (kq ≤ k1) ∧ Aside0 (w'.heap[gb101]? = some (.cells #[.int .i64 a0_0, .int .i64 a0_1, .int .i64 a0_2] 26 (0, 0))) ∧ Aside0 (w'.heap[gb102]? = some (.cells #[(.slice A1_0 l1_0.length c1_0)] 39 (0, 0))) ∧ Aside0 (w'.heap[gb103]? = some (.cells #[(.slice (some ad104) l2_0.length c2_0)] 39 (0, 0))) ∧ Aside0 (Below w.heap.size w w'))
       case atStart => exact ⟨(0), rS, H', ⟨Nat.le_refl _⟩, ⟨bK BK101.out⟩, ⟨bK BK102.out⟩, ⟨bK BK103.out⟩, ⟨hB3 HB.out GE101.out GE102.out GE103.out⟩⟩
       case round =>
        clear H'
        try clear c10b0
        try clear c11b0
        try clear c12b0
        try clear hcz15_0
        try clear hfz15_0
        try clear hx104_0
        try clear p104
        try clear q104
        obtain ⟨x25_2, rfl, HA, HK2, BK101, BK102, BK103, HB⟩ := hrel
        cases gk with
        | zero => exact absurd HA.out (by simp [timeboundref24_Below.l1])
        | succ k2 =>
         have H := HA.out
         clear HA
         simp only [timeboundref24_Below.l1] at H
         by_cases c16 : x25_2 < ((rd_L2 l2_0 x16_1).length : Int)
         ·rw [if_pos c16] at H
          have c16b0 : decide (x25_2 < ((rd_L2 l2_0 x16_1).length : Int)) = true := decide_eq_true c16
          clear c16
          by_cases c17 : 0 ≤ x25_2
          ·rw [if_pos c17] at H
           have c17b0 : decide (0 ≤ x25_2) = true := decide_eq_true c17
           clear c17
           by_cases c18 : x25_2 < ((rd_L2 l2_0 x16_1).length : Int)
           ·rw [if_pos c18] at H
            have c18b0 : decide (x25_2 < ((rd_L2 l2_0 x16_1).length : Int)) = true := decide_eq_true c18
            clear c18
            have H' := Aside0.mk H
            clear H
            have p105 : 0 ≤ (x25_2 : Int) := oD
            have q105 : x25_2 < ((rd_L2 l2_0 x16_1).length : Int) := oD
            obtain ⟨ad105, A105_0, c105_0, e105, hx105_0, hl105_0, hi105_0⟩ := at_L1 HR104_0.out x25_2 p105 q105
            cases e105
            replace hx105_0 := (HB.out.cell (World.block_lt_of_cell? w _ hx105_0)).trans hx105_0
            have HR105_0 := Aside0.mk hi105_0
            have HC105_0 := Aside0.mk hl105_0
            clear hi105_0 hl105_0
            replace p105 := eq_true p105
            replace q105 := eq_true q105
            go_wp2
            go_loopg [32] k2 (fun kq v32 w' => ∃ (x32_3 : Int), v32 = .int .i64 x32_3 ∧ Aside0 (timeboundref24_Below.l2 kq x16_1 x25_2 (l2_0.length : Int) x16_1 (rd_L2 l2_0 x16_1) ((rd_L2 l2_0 x16_1).length : Int) x25_2 (rd_L1 (rd_L2 l2_0 x16_1) x25_2) ((rd_L1 (rd_L2 l2_0 x16_1) x25_2).length : Int) x32_3 l1_0 l2_0 = some r) ∧ Aside0 (kq ≤ k2) ∧ Aside0 (w'.heap[gb101]? = some (.cells #[.int .i64 a0_0, .int .i64 a0_1, .int .i64 a0_2] 26 (0, 0))) ∧ Aside0 (w'.heap[gb102]? = some (.cells #[(.slice A1_0 l1_0.length c1_0)] 39 (0, 0))) ∧ Aside0 (w'.heap[gb103]? = some (.cells #[(.slice (some ad104) l2_0.length c2_0)] 39 (0, 0))) ∧ Aside0 (Below w.heap.size w w'))
            case atStart => exact ⟨(0), rS, H', ⟨Nat.le_refl _⟩, ⟨bK BK101.out⟩, ⟨bK BK102.out⟩, ⟨bK BK103.out⟩, ⟨hB3 HB.out GE101.out GE102.out GE103.out⟩⟩
            case round =>
             clear H'
             try clear c16b0
             try clear c17b0
             try clear c18b0
             try clear hx105_0
             try clear p105
             try clear q105
             obtain ⟨x32_3, rfl, HA, HK3, BK101, BK102, BK103, HB⟩ := hrel
             cases gk with
             | zero => exact absurd HA.out (by simp [timeboundref24_Below.l2])
             | succ k3 =>
              have H := HA.out
              clear HA
              simp only [timeboundref24_Below.l2] at H
              by_cases c19 : x32_3 < ((rd_L1 (rd_L2 l2_0 x16_1) x25_2).length : Int)
              ·rw [if_pos c19] at H
               have c19b0 : decide (x32_3 < ((rd_L1 (rd_L2 l2_0 x16_1) x25_2).length : Int)) = true := decide_eq_true c19
               clear c19
               by_cases c20 : 0 ≤ x32_3
               ·rw [if_pos c20] at H
                have c20b0 : decide (0 ≤ x32_3) = true := decide_eq_true c20
                clear c20
                by_cases c21 : x32_3 < ((rd_L1 (rd_L2 l2_0 x16_1) x25_2).length : Int)
                ·rw [if_pos c21] at H
                 have c21b0 : decide (x32_3 < ((rd_L1 (rd_L2 l2_0 x16_1) x25_2).length : Int)) = true := decide_eq_true c21
                 clear c21
                 by_cases c22 : 0 ≤ x16_1
                 ·rw [if_pos c22] at H
                  have c22b0 : decide (0 ≤ x16_1) = true := decide_eq_true c22
                  clear c22
                  by_cases c23 : x16_1 < (l1_0.length : Int)
                  ·rw [if_pos c23] at H
                   have c23b0 : decide (x16_1 < (l1_0.length : Int)) = true := decide_eq_true c23
                   clear c23
                   replace H := Option.bind_eq_some_iff.mp H
                   obtain ⟨t108, A240, H⟩ := H
                   replace H : (if t108 < 0 then (some false) else (if t108 > x25_2 then (some false) else (timeboundref24_Below.l2 k3 x16_1 x25_2 (l2_0.length : Int) x16_1 (rd_L2 l2_0 x16_1) ((rd_L2 l2_0 x16_1).length : Int) x25_2 (rd_L1 (rd_L2 l2_0 x16_1) x25_2) ((rd_L1 (rd_L2 l2_0 x16_1) x25_2).length : Int) (wrap64 (x32_3 + 1)) l1_0 l2_0))) = some r := H
                   have A24 := Aside0.mk A240
                   clear A240
                   by_cases c25 : t108 < 0
                   ·rw [if_pos c25] at H
                    have c25b0 : decide (t108 < 0) = true := decide_eq_true c25
                    clear c25
                    obtain rfl := Option.some.inj H
                    have p106 : 0 ≤ (x32_3 : Int) := oD
                    have q106 : x32_3 < ((rd_L1 (rd_L2 l2_0 x16_1) x25_2).length : Int) := oD
                    obtain ⟨ad106, e106, hx106_0⟩ := Kd.at_int HR105_0.out x32_3 p106 q106
                    cases e106
                    replace hx106_0 := (HB.out.cell (World.block_lt_of_cell? w _ hx106_0)).trans hx106_0
                    replace p106 := eq_true p106
                    replace q106 := eq_true q106
                    have hnb26 := NB102_101.out
                    have hnc26 := NB101_102.out
                    have hnb27 := NB102_103.out
                    have hnc27 := NB103_102.out
                    obtain ⟨hcz28_0, hfz28_0⟩ := cz1 BK102.out
                    have p107 : 0 ≤ (x16_1 : Int) := oD
                    have q107 : x16_1 < (l1_0.length : Int) := oD
                    obtain ⟨ad107, A107_0, c107_0, e107, hx107_0, hl107_0, hi107_0⟩ := at_L2 HR1_0.out x16_1 p107 q107
                    cases e107
                    replace hx107_0 := (HB.out.cell (World.block_lt_of_cell? w _ hx107_0)).trans hx107_0
                    have HR107_0 := Aside0.mk hi107_0
                    have HC107_0 := Aside0.mk hl107_0
                    clear hi107_0 hl107_0
                    replace p107 := eq_true p107
                    replace q107 := eq_true q107
                    go_wp2_with (first | ((with_reducible refine gate_callee (f := 76) rfl ?_); refine goesL_ (some 42) rfl rfl Try.func76 (by kernel_rfl) rfl #[.slice A107_0 (rd_L2 l1_0 x16_1).length c107_0, .int .i64 (rd (rd_L1 (rd_L2 l2_0 x16_1) x25_2) x32_3)] rfl aM ?_; (with_reducible refine (timeboundref24_Place.calls k3 _ _ (rd_L2 l1_0 x16_1) (rd (rd_L1 (rd_L2 l2_0 x16_1) x25_2) x32_3) t108 _ ?side1 ?side2 A24.out).mono ?_); (case side1 => repeat (first | exact (Kd.C_below HR107_0.out HB.out) | (with_reducible refine Kd.C_alloc ?_ _) | (with_reducible refine Kd.C_drewN ?_ _) | (with_reducible refine Kd.C_drew ?_))); (case side2 => exact HC107_0.out); rintro e w' ⟨rfl, ⟨nd, rfl⟩⟩; refine ⟨_, rfl, ?_⟩))
                    go_ret
                    exact ⟨eW, hB3 HB.out GE101.out GE102.out GE103.out⟩
                   ·rw [if_neg c25] at H
                    have c25b0 : decide (t108 < 0) = false := decide_eq_false c25
                    clear c25
                    by_cases c29 : t108 > x25_2
                    ·rw [if_pos c29] at H
                     have c29b0 : decide (x25_2 < t108) = true := decide_eq_true c29
                     clear c29
                     obtain rfl := Option.some.inj H
                     have p106 : 0 ≤ (x32_3 : Int) := oD
                     have q106 : x32_3 < ((rd_L1 (rd_L2 l2_0 x16_1) x25_2).length : Int) := oD
                     obtain ⟨ad106, e106, hx106_0⟩ := Kd.at_int HR105_0.out x32_3 p106 q106
                     cases e106
                     replace hx106_0 := (HB.out.cell (World.block_lt_of_cell? w _ hx106_0)).trans hx106_0
                     replace p106 := eq_true p106
                     replace q106 := eq_true q106
                     have hnb30 := NB102_101.out
                     have hnc30 := NB101_102.out
                     have hnb31 := NB102_103.out
                     have hnc31 := NB103_102.out
                     obtain ⟨hcz32_0, hfz32_0⟩ := cz1 BK102.out
                     have p107 : 0 ≤ (x16_1 : Int) := oD
                     have q107 : x16_1 < (l1_0.length : Int) := oD
                     obtain ⟨ad107, A107_0, c107_0, e107, hx107_0, hl107_0, hi107_0⟩ := at_L2 HR1_0.out x16_1 p107 q107
                     cases e107
                     replace hx107_0 := (HB.out.cell (World.block_lt_of_cell? w _ hx107_0)).trans hx107_0
                     have HR107_0 := Aside0.mk hi107_0
                     have HC107_0 := Aside0.mk hl107_0
                     clear hi107_0 hl107_0
                     replace p107 := eq_true p107
                     replace q107 := eq_true q107
                     go_wp2_with (first | ((with_reducible refine gate_callee (f := 76) rfl ?_); refine goesL_ (some 42) rfl rfl Try.func76 (by kernel_rfl) rfl #[.slice A107_0 (rd_L2 l1_0 x16_1).length c107_0, .int .i64 (rd (rd_L1 (rd_L2 l2_0 x16_1) x25_2) x32_3)] rfl aM ?_; (with_reducible refine (timeboundref24_Place.calls k3 _ _ (rd_L2 l1_0 x16_1) (rd (rd_L1 (rd_L2 l2_0 x16_1) x25_2) x32_3) t108 _ ?side1 ?side2 A24.out).mono ?_); (case side1 => repeat (first | exact (Kd.C_below HR107_0.out HB.out) | (with_reducible refine Kd.C_alloc ?_ _) | (with_reducible refine Kd.C_drewN ?_ _) | (with_reducible refine Kd.C_drew ?_))); (case side2 => exact HC107_0.out); rintro e w' ⟨rfl, ⟨nd, rfl⟩⟩; refine ⟨_, rfl, ?_⟩))
                     go_ret
                     exact ⟨eW, hB3 HB.out GE101.out GE102.out GE103.out⟩
                    ·rw [if_neg c29] at H
                     have c29b0 : decide (x25_2 < t108) = false := decide_eq_false c29
                     clear c29
                     have H' := Aside0.mk H
                     clear H
                     have p106 : 0 ≤ (x32_3 : Int) := oD
                     have q106 : x32_3 < ((rd_L1 (rd_L2 l2_0 x16_1) x25_2).length : Int) := oD
                     obtain ⟨ad106, e106, hx106_0⟩ := Kd.at_int HR105_0.out x32_3 p106 q106
                     cases e106
                     replace hx106_0 := (HB.out.cell (World.block_lt_of_cell? w _ hx106_0)).trans hx106_0
                     replace p106 := eq_true p106
                     replace q106 := eq_true q106
                     have hnb33 := NB102_101.out
                     have hnc33 := NB101_102.out
                     have hnb34 := NB102_103.out
                     have hnc34 := NB103_102.out
                     obtain ⟨hcz35_0, hfz35_0⟩ := cz1 BK102.out
                     have p107 : 0 ≤ (x16_1 : Int) := oD
                     have q107 : x16_1 < (l1_0.length : Int) := oD
                     obtain ⟨ad107, A107_0, c107_0, e107, hx107_0, hl107_0, hi107_0⟩ := at_L2 HR1_0.out x16_1 p107 q107
                     cases e107
                     replace hx107_0 := (HB.out.cell (World.block_lt_of_cell? w _ hx107_0)).trans hx107_0
                     have HR107_0 := Aside0.mk hi107_0
                     have HC107_0 := Aside0.mk hl107_0
                     clear hi107_0 hl107_0
                     replace p107 := eq_true p107
                     replace q107 := eq_true q107
                     go_wp2_with (first | ((with_reducible refine gate_callee (f := 76) rfl ?_); refine goesL_ (some 42) rfl rfl Try.func76 (by kernel_rfl) rfl #[.slice A107_0 (rd_L2 l1_0 x16_1).length c107_0, .int .i64 (rd (rd_L1 (rd_L2 l2_0 x16_1) x25_2) x32_3)] rfl aM ?_; (with_reducible refine (timeboundref24_Place.calls k3 _ _ (rd_L2 l1_0 x16_1) (rd (rd_L1 (rd_L2 l2_0 x16_1) x25_2) x32_3) t108 _ ?side1 ?side2 A24.out).mono ?_); (case side1 => repeat (first | exact (Kd.C_below HR107_0.out HB.out) | (with_reducible refine Kd.C_alloc ?_ _) | (with_reducible refine Kd.C_drewN ?_ _) | (with_reducible refine Kd.C_drew ?_))); (case side2 => exact HC107_0.out); rintro e w' ⟨rfl, ⟨nd, rfl⟩⟩; refine ⟨_, rfl, ?_⟩))
                     go_roundg k3
                     case measure => have := HK1.out; have := HK2.out; have := HK3.out; omega
                     case rel => exact ⟨(wrap64 (x32_3 + 1)), rS, H', ⟨by have := HK1.out; have := HK2.out; have := HK3.out; omega⟩, ⟨bK BK101.out⟩, ⟨bK BK102.out⟩, ⟨bK BK103.out⟩, ⟨hB3 HB.out GE101.out GE102.out GE103.out⟩⟩
                  ·rw [if_neg c23] at H
                   exact absurd H (by simp)
                 ·rw [if_neg c22] at H
                  exact absurd H (by simp)
                ·rw [if_neg c21] at H
                 exact absurd H (by simp)
               ·rw [if_neg c20] at H
                exact absurd H (by simp)
              ·rw [if_neg c19] at H
               have c19b0 : decide (x32_3 < ((rd_L1 (rd_L2 l2_0 x16_1) x25_2).length : Int)) = false := decide_eq_false c19
               clear c19
               have H' := Aside0.mk H
               clear H
               go_wp2
               go_roundg k3
               case measure => have := HK1.out; have := HK2.out; have := HK3.out; omega
               case rel => exact ⟨(wrap64 (x25_2 + 1)), rS, H', ⟨by have := HK1.out; have := HK2.out; have := HK3.out; omega⟩, ⟨bK BK101.out⟩, ⟨bK BK102.out⟩, ⟨bK BK103.out⟩, ⟨hB3 HB.out GE101.out GE102.out GE103.out⟩⟩
           ·rw [if_neg c18] at H
            exact absurd H (by simp)
          ·rw [if_neg c17] at H
           exact absurd H (by simp)
         ·rw [if_neg c16] at H
          have c16b0 : decide (x25_2 < ((rd_L2 l2_0 x16_1).length : Int)) = false := decide_eq_false c16
          clear c16
          have H' := Aside0.mk H
          clear H
          go_wp2
          go_roundg k2
          case measure => have := HK1.out; have := HK2.out; omega
          case rel => exact ⟨(wrap64 (x16_1 + 1)), rS, H', ⟨by have := HK1.out; have := HK2.out; omega⟩, ⟨bK BK101.out⟩, ⟨bK BK102.out⟩, ⟨bK BK103.out⟩, ⟨hB3 HB.out GE101.out GE102.out GE103.out⟩⟩
      ·rw [if_neg c12] at H
       exact absurd H (by simp)
     ·rw [if_neg c11] at H
      exact absurd H (by simp)
    ·rw [if_neg c10] at H
     have c10b0 : decide (x16_1 < (l2_0.length : Int)) = false := decide_eq_false c10
     clear c10
     obtain rfl := Option.some.inj H
     go_wp2
     go_ret
     exact ⟨eW, hB3 HB.out GE101.out GE102.out GE103.out⟩
end Go.Proofs.Ytkgocbmnjlfkoaa.X
end
section
namespace Go.Proofs.Ytkgocbmnjlfkoaa.M
open Go.RowKit Go.Proofs.Ytkgocbmnjlfkoaa.X Go.Proofs.YtkgocbmnjlfkoaaW.PrintWords Go.Proofs.YtkgocbmnjlfkoaaW.PrintLast Go.Proofs.YtkgocbmnjlfkoaaW.PrintMore
set_option linter.unusedVariables false
set_option linter.unusedSimpArgs false
def belL (ra : List (List Int)) (i : Nat) (l : List Int) : Bool := l.all fun y => decide (age ra y ≤ i ∧ age ra y < ra.length)
def belR (ra rb : List (List Int)) : Bool := (List.range' 0 rb.length).all fun i => belL ra i (rb.getD i [])
def belb (a b : List (List (List Int))) : Bool := (List.range' 0 b.length).all fun s => belR (a.getD s []) (b.getD s [])
section
variable {a b : List (List (List Int))} {ra rb : List (List Int)} {s : Nat} {r : Bool}
theorem rbel_l2 (hs : s < a.length) (ha : a[s].length < 1099511627776) (hl : ∀ l ∈ a[s], l.length < 1099511627776) {i : Nat} {v15 v16 v24 v25 : Int} {l : List Int} (hll : l.length < 4611686018427387904)
    (h : Ev (fun k => timeboundref24_Below.l1 k s v15 v16 rb v24 (wrap64 (v25 + 1)) a b) r) :
    ∀ j k : Nat, k + j = l.length → Ev (fun n => timeboundref24_Below.l2 n s i v15 v16 rb v24 v25 l (l.length : Int) k a b) (belL a[s] i (l.drop k) && r)
  | 0, k, hk => by
    refine Ev.step (fun k => by rw [timeboundref24_Below.l2]) ?_
    rw [List.drop_of_length_le (by omega)]
    exact evn (by omega) h
  | j + 1, k, hk => by
    have hkl : k < l.length := by omega
    refine Ev.step (fun k => by rw [timeboundref24_Below.l2]) ?_
    rw [List.drop_eq_getElem_cons hkl]
    simp only [rdL2 hs, rd_lt hkl]
    refine evp (by omega) (evp (by omega) (evp (by omega) (evp (by omega) (evp (by omega) (evb (place_ a[s] l[k] ha hl) ?_)))))
    have ih := rbel_l2 (i := i) hs ha hl hll h j (k + 1) (by omega)
    unfold belL at ih ⊢
    rw [List.all_cons]
    by_cases h1 : age a[s] l[k] < a[s].length
    · have hf : find a[s] l[k] = ((age a[s] l[k] : Nat) : Int) := by unfold find; rw [if_pos h1]
      rw [hf]
      by_cases h2 : age a[s] l[k] ≤ i
      · rw [decide_eq_true (show age a[s] l[k] ≤ i ∧ age a[s] l[k] < a[s].length from ⟨h2, h1⟩), Bool.true_and]
        refine evn (by omega) (evn (by omega) ?_)
        rw [w64 (by omega) (by omega)]
        exact ih
      · rw [decide_eq_false (fun h => h2 h.1), Bool.false_and, Bool.false_and]
        exact evn (by omega) (evp (by omega) (evr _))
    · have hf : find a[s] l[k] = -1 := by unfold find; rw [if_neg h1]
      rw [hf, decide_eq_false (fun h => h1 h.2), Bool.false_and, Bool.false_and]
      exact evp (by omega) (evr _)
theorem rbel_l1 (hs : s < a.length) (ha : a[s].length < 1099511627776) (hl : ∀ l ∈ a[s], l.length < 1099511627776) {v15 : Int} (hrb : rb.length < 4611686018427387904) (hrl : ∀ l ∈ rb, l.length < 4611686018427387904)
    (h : Ev (fun k => timeboundref24_Below.l0 k v15 (wrap64 ((s : Int) + 1)) a b) r) :
    ∀ j i : Nat, i + j = rb.length → Ev (fun n => timeboundref24_Below.l1 n s v15 s rb (rb.length : Int) i a b) (((List.range' i j).all fun i => belL a[s] i (rb.getD i [])) && r)
  | 0, i, hi => by
    refine Ev.step (fun k => by rw [timeboundref24_Below.l1]) ?_
    exact evn (by omega) h
  | j + 1, i, hi => by
    have hil : i < rb.length := by omega
    refine Ev.step (fun k => by rw [timeboundref24_Below.l1]) ?_
    simp only [rdL1 hil]
    refine evp (by omega) (evp (by omega) (evp (by omega) ?_))
    rw [List.range'_succ, List.all_cons, getD_lt hil, Bool.and_assoc]
    have ih := rbel_l1 hs ha hl hrb hrl h j (i + 1) (by omega)
    have h0 := rbel_l2 (i := i) (rb := rb) (b := b) (v15 := v15) (v16 := s) (v24 := rb.length) (v25 := i) hs ha hl (hrl _ (List.getElem_mem hil)) (by rw [w64 (by omega) (by omega)]; exact ih) rb[i].length 0 (by omega)
    exact h0
theorem rbel_l0 (hab : b.length ≤ a.length) (ha : ∀ r ∈ a, r.length < 1099511627776 ∧ ∀ l ∈ r, l.length < 1099511627776) (hb0 : b.length < 4611686018427387904) (hb : ∀ r ∈ b, r.length < 4611686018427387904 ∧ ∀ l ∈ r, l.length < 4611686018427387904) :
    ∀ j s : Nat, s + j = b.length → Ev (fun n => timeboundref24_Below.l0 n (b.length : Int) s a b) ((List.range' s j).all fun s => belR (a.getD s []) (b.getD s []))
  | 0, s, hs => by
    refine Ev.step (fun k => by rw [timeboundref24_Below.l0]) ?_
    exact evn (by omega) (evr _)
  | j + 1, s, hs => by
    have hsl : s < b.length := by omega
    have hsa : s < a.length := by omega
    refine Ev.step (fun k => by rw [timeboundref24_Below.l0]) ?_
    simp only [rdL2 hsl]
    refine evp (by omega) (evp (by omega) (evp (by omega) ?_))
    rw [List.range'_succ, List.all_cons, getD_lt hsl, getD_lt hsa]
    have ih := rbel_l0 hab ha hb0 hb j (s + 1) (by omega)
    obtain ⟨h1, h2⟩ := ha _ (List.getElem_mem hsa)
    obtain ⟨h3, h4⟩ := hb _ (List.getElem_mem hsl)
    exact rbel_l1 (v15 := b.length) hsa h1 h2 h3 h4 (by rw [w64 (by omega) (by omega)]; exact ih) b[s].length 0 (by omega)
end
theorem rbelow_calls {S W : Nat} (hS : S ≤ 8) (hW : W ≤ 4) (c0 c1 c2 : Int) (A B : Option Addr) (c d : Nat) (a b : List (List (List Int))) (w : World) (ha : Fit S W a) (hb : Fit S W b) (hra : C3 w A a) (hca : a.length ≤ c) (hrb : C3 w B b) (hcb : b.length ≤ d) :
    Calls Try.prog 45 #[.agg #[.int .i64 c0, .int .i64 c1, .int .i64 c2], .agg #[.slice A a.length c], .agg #[.slice B b.length d]] w fun e w' => e = .returned (.bool (belb a b)) ∧ Below w.heap.size w w' := by
  have hs3 := ha.short hS hW
  obtain ⟨k, hk0⟩ := rbel_l0 (a := a) (b := b) (by rw [ha.len, hb.len]; exact Nat.le_refl _) hs3.2 (by rw [hb.len]; omega) (fun r hr => by
    have := (hb.short hS hW).2 r hr
    exact ⟨by omega, fun l hl => by have := this.2 l hl; omega⟩) b.length 0 (by omega)
  exact timeboundref24_Below.calls k c0 c1 c2 A c a B d b _ w hra hca hrb hcb (hk0 k (Nat.le_refl _))
set_option maxHeartbeats 1000000 in
theorem mof_calls {S W L : Nat} (h : CacheOk S W L) (A : Option Addr) (c : Nat) (l : List (List Int)) (w : World) (hl : Con S W l) (hr : C2 w A l) (hc : l.length ≤ c) : Calls Try.prog 37 #[.agg #[.int .i64 S, .int .i64 W, .int .i64 L], .agg #[.slice A l.length c]] w (New3S w (ofM S W l)) := by
  have HB0 : Aside0 (Below w.heap.size w (((w.alloc (.cells #[.int .i64 S, .int .i64 W, .int .i64 L] 26)).alloc (.cells #[.slice A l.length c] 54)).alloc (.cells #[.slice none 0 0] 39))) := ⟨(((Below.refl _ _).alloc (Nat.le_refl _) _).alloc (by simp) _).alloc (by simp; omega) _⟩
  have hin := Aside0.mk (aof_calls h A c l (((w.alloc (.cells #[.int .i64 S, .int .i64 W, .int .i64 L] 26)).alloc (.cells #[.slice A l.length c] 54)).alloc (.cells #[.slice none 0 0] 39)) hl.len hl.row (Kd.C_below hr HB0.out) hc)
  clear h hl hr
  go_enter Try.func37, Try.ntmps37
  go_wp2_with (first | (go_at_call 80; refine hin.out.mono ?_; rintro e w1 ⟨v1, vs1, us1, rfl, hT, hb⟩; obtain ⟨A1, c1, rfl, _, _⟩ := hT.reads; have HT1 := Aside0.mk (hT.lower (b' := w.heap.size) HB0.out.size); have HB1 := Aside0.mk (HB0.out.trans (hb.mono HB0.out.size)); obtain ⟨k1, k2, k3⟩ := three_box hb; have K3 := Aside0.mk k3; obtain ⟨q4, f4⟩ := cz1' k3; clear k1 k2 k3 hb hT))
  refine bodyPost_ret (results_cell rfl _ _ (w.heap.size + 2) 39 #[.slice A1 (ofM S W l).length c1] (0, 0) _ rfl (blk_put (cs := #[.slice none 0 0]) K3.out 0 _ rfl) Try.underlying39 rfl (by kernel_rfl)) rfl ?_
  exact ⟨_, vs1, us1, rfl, HT1.out.setFar K3.out (by decide) _, HB1.out.setCell (by show w.heap.size ≤ w.heap.size + 2; omega) _⟩
end Go.Proofs.Ytkgocbmnjlfkoaa.M
end
section
namespace Go.Proofs.Ytkgocbmnjlfkoaa.M
open Go.RowKit
set_option linter.unusedVariables false
set_option linter.unusedSimpArgs false
section
variable {S s W : Nat} {x : List Int}
theorem RowC.at_age (h : RowC S s W x) (y : Int) : (age (ofS W x) y < W ∧ x.getD (age (ofS W x) y) 0 = y ∧ 0 ≤ y) ∨ (age (ofS W x) y = W ∧ ∀ p, p < W → 0 ≤ y → x.getD p 0 ≠ y) := by
  have hV := h.of
  have hle := hV.age_le y
  by_cases hq : age (ofS W x) y < W
  · have hm := age_mem (r := ofS W x) (y := y) (by rw [hV.len]; exact hq)
    obtain ⟨h1, h2, h3⟩ := mem_ofS.1 hm
    exact .inl ⟨hq, h3.symm, by rw [h3]; exact h2⟩
  · refine .inr ⟨by omega, fun p hp h0 e => hq ?_⟩
    have hm : y ∈ (ofS W x).getD p [] := mem_ofS.2 ⟨hp, by rw [e]; exact h0, e.symm⟩
    rw [hV.age_of hm]
    exact hp
theorem RowC.age_of_at (h : RowC S s W x) {p : Nat} (hp : p < W) (h0 : 0 ≤ x.getD p 0) : age (ofS W x) (x.getD p 0) = p := h.of.age_of (mem_ofS.2 ⟨hp, h0, rfl⟩)
theorem RowC.at_use (h : RowC S s W x) {n : Int} (h0 : 0 ≤ n) : (age (ofS W x) n < W ∧ atC x n = age (ofS W x) n) ∨ (age (ofS W x) n = W ∧ atC x n = W - 1) := by
  have hl := h.len
  have hsp := atN_spec x n x.length
  rcases hsp with ⟨h1, h2⟩ | ⟨h1, h2, _⟩
  · rcases h.at_age n with ⟨h3, h4, _⟩ | ⟨h3, _⟩
    · exact absurd h4 (h2 _ (by omega))
    · exact .inr ⟨h3, by unfold atC; rw [h1, hl]⟩
  · have h5 : atN x n x.length < W := by omega
    have := h.age_of_at h5 (by rw [h1]; exact h0)
    rw [h1] at this
    exact .inl ⟨by omega, by unfold atC; exact this.symm⟩
theorem RowC.age_use (h : RowC S s W x) (hW : 0 < W) {n : Int} (h0 : 0 ≤ n) (h1 : n ≤ 1048576) (hn : n % S = s) (y : Int) : age (ofS W (useC x n)) y = ageU (fun a => decide (a < age (ofS W x) n)) W n y (age (ofS W x) y) := by
  have hl := h.len
  have h' := h.use h0 h1 hn
  have hat := h.at_use h0
  have hq := h.at_age y
  have hqn := h.at_age n
  have huse : ∀ i, i < W → (useC x n).getD i 0 = if i = 0 then n else x.getD (src (atC x n) i) 0 := fun i hi => useC_at n (by omega)
  refine age_eq (W := W) h'.of.len ?_ ?_ ?_
  · unfold ageU
    split
    · omega
    · split <;> omega
  · intro ha
    rw [mem_ofS]
    refine ⟨ha, ?_⟩
    have hv : (useC x n).getD (ageU (fun a => decide (a < age (ofS W x) n)) W n y (age (ofS W x) y)) 0 = y ∧ 0 ≤ y := by
      rw [huse _ ha]
      unfold ageU dst at ha ⊢
      by_cases hy : y = n
      · rw [if_pos hy, if_pos rfl]
        exact ⟨hy.symm, by omega⟩
      · rw [if_neg hy] at ha ⊢
        rcases hq with ⟨q1, q2, q3⟩ | ⟨q1, _⟩
        · refine ⟨?_, q3⟩
          rw [if_pos q1] at ha ⊢
          simp only [decide_eq_true_eq] at ha ⊢
          have hne : age (ofS W x) y ≠ age (ofS W x) n ∨ age (ofS W x) n = W := by
            rcases hqn with ⟨n1, n2, _⟩ | ⟨n1, _⟩
            · refine .inl fun e => hy ?_
              rw [← q2, e, n2]
            · exact .inr n1
          by_cases hlt : age (ofS W x) y < age (ofS W x) n
          · rw [if_pos hlt] at ha ⊢
            have e : min (age (ofS W x) y + 1) W = age (ofS W x) y + 1 := by omega
            rw [e, if_neg (by omega)]
            unfold src
            rw [if_pos (by omega)]
            exact q2
          · rw [if_neg hlt] at ha ⊢
            have e : min (age (ofS W x) y) W = age (ofS W x) y := by omega
            rw [e, if_neg (by omega)]
            unfold src
            rw [if_neg (by omega)]
            exact q2
        · rw [if_neg (by omega)] at ha
          omega
    exact ⟨by rw [hv.1]; exact hv.2, hv.1.symm⟩
  · intro i hi
    obtain ⟨hi1, hi2, hi3⟩ := mem_ofS.1 hi
    rw [huse i hi1] at hi2 hi3
    unfold ageU dst
    by_cases hy : y = n
    · rw [if_pos hy]
      omega
    · rw [if_neg hy]
      by_cases hi0 : i = 0
      · rw [if_pos hi0] at hi3
        exact absurd hi3 hy
      · rw [if_neg hi0] at hi2 hi3
        have hs : src (atC x n) i < W := by unfold src; split <;> omega
        have hqq := h.age_of_at hs hi2
        rw [← hi3] at hqq
        rw [if_pos (by omega)]
        simp only [decide_eq_true_eq]
        have hne : age (ofS W x) y ≠ age (ofS W x) n ∨ age (ofS W x) n = W := by
          rcases hqn with ⟨n1, n2, _⟩ | ⟨n1, _⟩
          · refine .inl fun e => hy ?_
            rw [hi3, ← hqq, e, n2]
          · exact .inr n1
        unfold src at hqq
        split at hqq <;> split <;> omega
end
theorem Le.trans {S : Nat} {a b c : List (List (List Int))} (h : Le S a b) (k : Le S b c) : Le S a c := fun s hs y => Nat.le_trans (h s hs y) (k s hs y)
theorem Le.refl (S : Nat) (a : List (List (List Int))) : Le S a a := fun s hs y => Nat.le_refl _
end Go.Proofs.Ytkgocbmnjlfkoaa.M
end
section
namespace Go.Proofs.Ytkgocbmnjlfkoaa.M
open Go.RowKit Go.Proofs.Ytkgocbmnjlfkoaa.X Go.Proofs.YtkgocbmnjlfkoaaW.PrintWords Go.Proofs.YtkgocbmnjlfkoaaW.PrintLast Go.Proofs.YtkgocbmnjlfkoaaW.PrintMore
set_option linter.unusedVariables false
set_option linter.unusedSimpArgs false
section
variable {w wr w' : World} {g : Nat} {xs : List Int} {Bx : List (Nat × Array Value × TypeId)} {Tx : List Th} {S W L : Nat}
theorem LM.addB (h : LM w wr g xs Bx Tx) {p : Nat} {cs : Array Value} {t : TypeId} (hp : wr.heap[p]? = some (.cells cs t (0, 0))) (ht : BoxT t) (hw : w.heap.size ≤ p) (hn : ∀ q ∈ Bx, q.1 ≠ p) : LM w wr g xs ((p, cs, t) :: Bx) Tx :=
  ⟨h.deck, fun q hq => by
    rcases List.mem_cons.1 hq with rfl | hq
    · exact ⟨hp, ht, hw⟩
    · exact h.bx q hq, List.pairwise_cons.2 ⟨fun q hq => hn q hq, h.ne⟩, h.tx⟩
theorem LM.lt (h : LM w wr g xs Bx Tx) : ∀ q ∈ Bx, q.1 < wr.heap.size := fun q hq => blk_lt (h.bx q hq).1
theorem LM.of (hC : CacheOk S W L) (h : LM w wr g xs Bx Tx) (i : Nat) {A : Option Addr} {k : Nat} {X : List (List Int)} (hi : Tx[i]? = some (.s2 (.slice A X.length k) X)) (hX : Con S W X) :
    Calls Try.prog 37 #[.agg #[.int .i64 S, .int .i64 W, .int .i64 L], .agg #[.slice A X.length k]] wr fun e w' => ∃ A' k', e = .returned (.agg #[.slice A' (ofM S W X).length k']) ∧ LM w w' g xs Bx (.s3 (.slice A' (ofM S W X).length k') (ofM S W X) :: Tx) :=
  h.made (mof_calls hC A k X wr hX (h.rd2 i hi).2.2 (h.rd2 i hi).2.1)
theorem LM.either (hC : CacheOk S W L) (h : LM w wr g xs Bx Tx) (i j : Nat) {A B : Option Addr} {k m q : Nat} {X : List (List (List Int))} {ls : List Int} (hi : Tx[i]? = some (.s3 (.slice A X.length k) X)) (hj : Tx[j]? = some (.s1 (.slice B q m) ls)) (hV : Val S W X) (hls : LinesOk ls) (hl : q < 1099511627776) :
    Calls Try.prog 39 #[.agg #[.int .i64 S, .int .i64 W, .int .i64 L], .agg #[.slice A X.length k], .slice B q m] wr fun e w' => ∃ A' k', e = .returned (.agg #[.slice A' (eitherM S W X ls).length k']) ∧ LM w w' g xs Bx (.s3 (.slice A' (eitherM S W X ls).length k') (eitherM S W X ls) :: Tx) := by
  obtain ⟨rfl, h1, h2⟩ := h.rd1 j hj
  exact h.made (meither_calls hC A B k m X ls wr hV hls (h.rd3 i hi).2.2 (h.rd3 i hi).2.1 h2 h1 hl)
theorem LM.rvalid (hC : CacheOk S W L) (h : LM w wr g xs Bx Tx) (i : Nat) {A : Option Addr} {k : Nat} {X : List (List (List Int))} (hi : Tx[i]? = some (.s3 (.slice A X.length k) X)) (hV : Val S W X) :
    Calls Try.prog 26 #[.agg #[.int .i64 S, .int .i64 W, .int .i64 L], .agg #[.slice A X.length k]] wr fun e w' => e = .returned (.bool true) ∧ LM w w' g xs Bx Tx := by
  have h1 := rvalid_calls hC A k X wr (by rw [hV.len]; have := hC.s8; omega) (fun r hr => by rw [(hV.fit.el r hr).1]; have := hC.w4; omega) (fun r hr l hl => by have := ((hV.fit.el r hr).2 l hl).2; omega) (h.rd3 i hi).2.2 (h.rd3 i hi).2.1
  rw [valb_yes hV.ok] at h1
  exact h.pure h1
theorem LM.copy (h : LM w wr g xs Bx Tx) (i : Nat) {A : Option Addr} {k : Nat} {l : List (List Int)} (hi : Tx[i]? = some (.s2 (.slice A l.length k) l)) (hl : Con S W l) (hS : S ≤ 8) (hW : W ≤ 4) :
    Calls Try.prog 40 #[.agg #[.slice A l.length k]] wr fun e w' => ∃ A' k' vs, e = .returned (.agg #[.slice A' l.length k']) ∧ T2 w' wr.heap.size (.slice A' l.length k') vs l ∧ LM w w' g xs Bx Tx ∧ Below wr.heap.size wr w' :=
  (copy40_calls A k l wr (h.rd2 i hi).2.2 (h.rd2 i hi).2.1 (by rw [hl.len]; omega) (fun x hx => by rw [hl.row x hx]; omega)).mono fun e w' ⟨v, vs, h1, h2, h3⟩ => by
    obtain ⟨A', k', rfl, _, _⟩ := h2.reads
    exact ⟨A', k', vs, h1, h2, h.step h3, h3⟩
theorem LM.use {wa : World} (hC : CacheOk S W L) (h : LM w wa g xs Bx Tx) (hb : Below wa.heap.size wa wr) {A : Option Addr} {k : Nat} {vs : List Value} {l : List (List Int)} (hT : T2 wr wa.heap.size (.slice A l.length k) vs l) (hl : Con S W l) {m : Nat} (hm : m ≤ 1073741824) (hd : m / L ≤ 1048576) :
    Calls Try.prog 41 #[.agg #[.int .i64 S, .int .i64 W, .int .i64 L], .agg #[.slice A l.length k], .int .i64 m] wr fun e w' => e = .returned (.bool (hitL S L l m)) ∧ LM w w' g xs Bx (.s2 (.slice A (useL S L l m).length k) (useL S L l m) :: Tx) ∧
      (∀ (p : Nat) (cs : Array Value) (t : TypeId), wr.heap[p]? = some (.cells cs t (0, 0)) → BoxT t → w'.heap[p]? = some (.cells cs t (0, 0))) :=
  (use41b_calls hC _ vs l wa.heap.size m wr hT hb.size hl.len hl.row hm hd).mono fun e w' ⟨h1, h2, h3⟩ => by
    have h4 : Below wa.heap.size wa w' := hb.trans (h3.below hb.size (fun k hk => (hT.lt hk).1))
    refine ⟨h1, (h.step h4).add ⟨_, vs, by rw [useL_length]; exact h2⟩, fun p cs t hp ht => (h3.block p (blk_lt hp) (fun hk => ?_)).trans hp⟩
    obtain ⟨c1, e1, h0, h5⟩ := In2.typed hT hk
    rw [hp] at h5
    injection h5 with h5
    injection h5 with _ h5
    rcases h0 with rfl | rfl
    · exact ht.2.2.1 h5
    · exact ht.2.2.2 h5
end
end Go.Proofs.Ytkgocbmnjlfkoaa.M
end
section
namespace Go.Proofs.Ytkgocbmnjlfkoaa.M
open Go.RowKit Go.Proofs.Ytkgocbmnjlfkoaa.X Go.Proofs.YtkgocbmnjlfkoaaW.PrintWords Go.Proofs.YtkgocbmnjlfkoaaW.PrintLast Go.Proofs.YtkgocbmnjlfkoaaW.PrintMore
set_option linter.unusedVariables false
set_option linter.unusedSimpArgs false
theorem belL_yes {ra : List (List Int)} {i : Nat} {l : List Int} (h : ∀ k, k < l.length → age ra (l.getD k 0) ≤ i ∧ age ra (l.getD k 0) < ra.length) : belL ra i l = true := by
  unfold belL
  rw [List.all_eq_true]
  intro y hy
  obtain ⟨k, hk, rfl⟩ := List.getElem_of_mem hy
  have := h k hk
  rw [getD_lt hk] at this
  exact decide_eq_true this
theorem belL_no {ra : List (List Int)} {i k : Nat} {l : List Int} (hk : k < l.length) (h : ¬ (age ra (l.getD k 0) ≤ i ∧ age ra (l.getD k 0) < ra.length)) : belL ra i l = false := by
  rw [Bool.eq_false_iff]
  intro h2
  unfold belL at h2
  rw [List.all_eq_true] at h2
  have := of_decide_eq_true (h2 _ (List.getElem_mem hk))
  rw [getD_lt hk] at h
  exact h this
theorem all_yes {n : Nat} {p : Nat → Bool} (h : ∀ i, i < n → p i = true) : (List.range' 0 n).all p = true := by
  rw [List.all_eq_true]
  intro i hi
  rw [List.mem_range'] at hi
  obtain ⟨j, hj, rfl⟩ := hi
  exact h _ (by omega)
theorem all_no {n i : Nat} {p : Nat → Bool} (hi : i < n) (h : p i = false) : (List.range' 0 n).all p = false := by
  rw [Bool.eq_false_iff]
  intro h2
  rw [List.all_eq_true] at h2
  have := h2 i (by rw [List.mem_range']; exact ⟨i, hi, by omega⟩)
  rw [h] at this
  cases this
theorem belR_yes {ra rb : List (List Int)} (h : ∀ i, i < rb.length → belL ra i (rb.getD i []) = true) : belR ra rb = true := all_yes h
theorem belR_no {ra rb : List (List Int)} {i : Nat} (hi : i < rb.length) (h : belL ra i (rb.getD i []) = false) : belR ra rb = false := all_no (p := fun i => belL ra i (rb.getD i [])) hi h
theorem belb_yes {a b : List (List (List Int))} (h : ∀ s, s < b.length → belR (a.getD s []) (b.getD s []) = true) : belb a b = true := all_yes h
theorem belb_no {a b : List (List (List Int))} {s : Nat} (hs : s < b.length) (h : belR (a.getD s []) (b.getD s []) = false) : belb a b = false := all_no (p := fun s => belR (a.getD s []) (b.getD s [])) hs h
set_option maxHeartbeats 4000000 in
theorem below32b_calls {S W L : Nat} (hC : CacheOk S W L) (A B : Option Addr) (c d : Nat) (a b : List (List (List Int))) (w : World) (ha : Fit S W a) (hb : Fit S W b) (hra : C3 w A a) (hca : a.length ≤ c) (hrb : C3 w B b) (hcb : b.length ≤ d) :
    Calls Try.prog 32 #[.agg #[.int .i64 S, .int .i64 W, .int .i64 L], .agg #[.slice A a.length c], .agg #[.slice B b.length d]] w fun e w' => e = .returned (.bool (belb a b)) ∧ Below w.heap.size w w' := by
  have hW4 := hC.w4; have hS8 := hC.s8
  have HB0 : Aside0 (BW w (((w.alloc (.cells #[.int .i64 S, .int .i64 W, .int .i64 L] 26)).alloc (.cells #[.slice A a.length c] 39)).alloc (.cells #[.slice B b.length d] 39)) (.slice A a.length c) ∧ ∀ s, s < 0 → belR (a.getD s []) (b.getD s []) = true) := ⟨⟨(((Below.refl _ _).alloc (Nat.le_refl _) _).alloc (by simp) _).alloc (by simp; omega) _, (three_box (Below.refl _ _)).2.1⟩, fun s hs => absurd hs (Nat.not_lt_zero _)⟩
  have HA := Aside0.mk hra
  have HRB := Aside0.mk hrb
  have HFA := Aside0.mk ha
  have HFB := Aside0.mk hb
  have hal := Aside0.mk ha.len
  have hbl := Aside0.mk hb.len
  have hal9 : a.length < 9 := by rw [ha.len]; omega
  have hbl9 : b.length < 9 := by rw [hb.len]; omega
  clear hra hrb ha hb hC
  go_enter Try.func32, Try.ntmps32
  go_wp2
  go_loopw [17] (fun v17 wr => ∃ s : Nat, s ≤ b.length ∧ v17 = .int .i64 s ∧ Aside0 (BW w wr (.slice A a.length c) ∧ ∀ t, t < s → belR (a.getD t []) (b.getD t []) = true)) (fun v17 _ => b.length - (RowKit.intOf v17).toNat)
  case atStart => exact ⟨0, Nat.zero_le _, rfl, HB0⟩
  case round =>
    clear HB0
    obtain ⟨s, hs, rfl, HE⟩ := hrel
    by_cases hlt : s < b.length
    · have hsa : s < a.length := by rw [hal.out, ← hbl.out]; exact hlt
      obtain ⟨ad, A0, c0, rfl, hcell0w, hc0, hl0⟩ := C3.get HRB.out hlt
      obtain ⟨aa, A1, c1, rfl, hcellaw, hc1, hl1⟩ := C3.get HA.out hsa
      obtain ⟨hlw, hgd⟩ := HFB.out.at_ hlt
      obtain ⟨hlwa, hgda⟩ := HFA.out.at_ hsa
      have hcell := pw_cell_below HE.out.1.below hcell0w
      have HCA := Aside0.mk hcellaw
      have HLb := Aside0.mk hl0
      have HLa := Aside0.mk hl1
      have HGa := Aside0.mk hgda
      have HGb := Aside0.mk hgd
      have HNO : Aside0 (belR a[s] b[s] = false → belb a b = false) := ⟨fun h => belb_no hlt (by rw [getD_lt hlt, getD_lt hsa]; exact h)⟩
      have HNX : Aside0 (belR a[s] b[s] = true → ∀ t, t < s + 1 → belR (a.getD t []) (b.getD t []) = true) := ⟨fun h t ht => by
        by_cases e : t = s
        · subst e
          rw [getD_lt hlt, getD_lt hsa]
          exact h
        · exact HE.out.2 t (by omega)⟩
      have HE2 : Aside0 (BW w wr (.slice (some aa) a.length c) ∧ ∀ i, i < 0 → belL a[s] i (b[s].getD i []) = true) := ⟨HE.out.1, fun i hi => absurd hi (Nat.not_lt_zero _)⟩
      have hrb9 : b[s].length < 5 := by omega
      have hra9 : a[s].length < 5 := by omega
      clear hl0 hl1 hgd hgda hlw hlwa hcell0w hcellaw HE
      generalize b[s] = rb at *
      generalize a[s] = ra at *
      obtain ⟨wo, rfl⟩ : ∃ wo : World, wo = wr := ⟨_, rfl⟩
      go_wp2
      go_loopw [24] (fun v24 wr => ∃ i : Nat, i ≤ rb.length ∧ v24 = .int .i64 i ∧ Aside0 (BW w wr (.slice (some aa) a.length c) ∧ ∀ t, t < i → belL ra t (rb.getD t []) = true)) (fun v24 _ => rb.length - (RowKit.intOf v24).toNat)
      case atStart => exact ⟨0, Nat.zero_le _, rfl, HE2⟩
      case round =>
        clear HE2 hcell
        obtain ⟨i, hi, rfl, HE⟩ := hrel
        by_cases hil : i < rb.length
        · obtain ⟨ad1, B1, c2, rfl, hcell1w, hc2, hl2⟩ := C2.get HLb.out hil
          have hcell1 := pw_cell_below HE.out.1.below hcell1w
          have hll : rb[i].length < 1073741825 := by have := (HGb.out _ (List.getElem_mem hil)).2; omega
          have HNO2 : Aside0 (belL ra i rb[i] = false → belb a b = false) := ⟨fun h => HNO.out (belR_no hil (by rw [getD_lt hil]; exact h))⟩
          have HNX2 : Aside0 (belL ra i rb[i] = true → ∀ t, t < i + 1 → belL ra t (rb.getD t []) = true) := ⟨fun h t ht => by
            by_cases e : t = i
            · subst e
              rw [getD_lt hil]
              exact h
            · exact HE.out.2 t (by omega)⟩
          have HE3 : Aside0 (BW w wr (.slice (some aa) a.length c) ∧ ∀ k, k < 0 → age ra (rb[i].getD k 0) ≤ i ∧ age ra (rb[i].getD k 0) < ra.length) := ⟨HE.out.1, fun k hk => absurd hk (Nat.not_lt_zero _)⟩
          have HL1 := Aside0.mk hl2
          clear hl2 hcell1w HE HNO
          generalize rb[i] = l at *
          obtain ⟨wo2, rfl⟩ : ∃ wo2 : World, wo2 = wr := ⟨_, rfl⟩
          go_wp2
          go_loopw [31] (fun v31 wr => ∃ k : Nat, k ≤ l.length ∧ v31 = .int .i64 k ∧ Aside0 (BW w wr (.slice (some aa) a.length c) ∧ ∀ t, t < k → age ra (l.getD t 0) ≤ i ∧ age ra (l.getD t 0) < ra.length)) (fun v31 _ => l.length - (RowKit.intOf v31).toNat)
          case atStart => exact ⟨0, Nat.zero_le _, rfl, HE3⟩
          case round =>
            clear HE3 hcell1
            obtain ⟨k, hk, rfl, HE⟩ := hrel
            by_cases hkl : k < l.length
            · obtain ⟨ad2, rfl, hcell2⟩ := C1.get (Kd.C_below HL1.out HE.out.1.below) hkl
              obtain ⟨q3, f3⟩ := cz1' HE.out.1.a
              have hca := pw_cell_below HE.out.1.below HCA.out
              have hfind := find_calls A1 c1 ra l[k] wr (Kd.C_below HLa.out HE.out.1.below) hc1 (HGa.out.asc (by omega)) (by omega)
              have hlk : l.getD k 0 = l[k] := getD_lt hkl
              have g0 : decide ((a.length : Int) ≤ (s : Int)) = false := decide_eq_false (by omega)
              have g4 : ¬ a.length ≤ s := by omega
              by_cases h2 : age ra l[k] < ra.length
              · have hfe : find ra l[k] = ((age ra l[k] : Nat) : Int) := by unfold find; rw [if_pos h2]
                rw [hfe] at hfind
                have HFI := Aside0.mk hfind
                have g1 : decide (((age ra l[k] : Nat) : Int) < 0) = false := decide_eq_false (by omega)
                by_cases h1 : age ra l[k] ≤ i
                · have g2 : decide ((i : Int) < ((age ra l[k] : Nat) : Int)) = false := decide_eq_false (by omega)
                  have g3 : ¬ i < age ra l[k] := by omega
                  have HP : Aside0 (∀ t, t < k + 1 → age ra (l.getD t 0) ≤ i ∧ age ra (l.getD t 0) < ra.length) := ⟨fun t ht => by
                    by_cases e : t = k
                    · subst e
                      rw [hlk]
                      exact ⟨h1, h2⟩
                    · exact HE.out.2 t (by omega)⟩
                  clear f3 hfind hfe h1 h2 hlk
                  generalize age ra l[k] = ag at *
                  generalize l[k] = y at *
                  go_wp2_with (first | (go_at_call 70; refine HFI.out.mono ?_; rintro e w5 ⟨rfl, hb5⟩; have HE5 := Aside0.mk (HE.out.1.step hb5); clear hb5))
                  go_roundw
                  case rel => exact ⟨k + 1, hkl, by go_num, ⟨HE5.out, HP.out⟩⟩
                  case measure => simp [RowKit.intOf]; omega
                · have g2 : decide ((i : Int) < ((age ra l[k] : Nat) : Int)) = true := decide_eq_true (by omega)
                  have g3 : i < age ra l[k] := by omega
                  have HBAD := Aside0.mk (HNO2.out (belL_no (k := k) hkl (by rw [hlk]; exact fun h => h1 h.1)))
                  clear f3 hfind hfe h1 h2 hlk
                  generalize age ra l[k] = ag at *
                  generalize l[k] = y at *
                  go_wp2_with (first | (go_at_call 70; refine HFI.out.mono ?_; rintro e w5 ⟨rfl, hb5⟩; have HE5 := Aside0.mk (HE.out.1.step hb5); clear hb5))
                  go_ret
                  exact ⟨by rw [HBAD.out]; rfl, HE5.out.below⟩
              · have hfe : find ra l[k] = -1 := by unfold find; rw [if_neg h2]
                rw [hfe] at hfind
                have HFI := Aside0.mk hfind
                have HBAD := Aside0.mk (HNO2.out (belL_no (k := k) hkl (by rw [hlk]; exact fun h => h2 h.2)))
                clear f3 hfind hfe h2 hlk
                generalize l[k] = y at *
                go_wp2_with (first | (go_at_call 70; refine HFI.out.mono ?_; rintro e w5 ⟨rfl, hb5⟩; have HE5 := Aside0.mk (HE.out.1.step hb5); clear hb5))
                go_ret
                exact ⟨by rw [HBAD.out]; rfl, HE5.out.below⟩
            · obtain rfl : k = l.length := by omega
              have HEN : Aside0 (BW w wr (.slice (some aa) a.length c) ∧ ∀ t, t < i + 1 → belL ra t (rb.getD t []) = true) := ⟨HE.out.1, HNX2.out (belL_yes HE.out.2)⟩
              clear HE
              go_wp2
              go_roundw
              case rel => exact ⟨i + 1, hil, by go_num, HEN⟩
              case measure => simp [RowKit.intOf]; omega
        · obtain rfl : i = rb.length := by omega
          have HEN : Aside0 (BW w wr (.slice (some aa) a.length c) ∧ ∀ t, t < s + 1 → belR (a.getD t []) (b.getD t []) = true) := ⟨HE.out.1, HNX.out (belR_yes HE.out.2)⟩
          clear HE
          go_wp2
          go_roundw
          case rel => exact ⟨s + 1, hlt, by go_num, HEN⟩
          case measure => simp [RowKit.intOf]; omega
    · obtain rfl : s = b.length := by omega
      have HV := Aside0.mk (belb_yes HE.out.2)
      go_wp2
      go_ret
      exact ⟨by rw [HV.out]; rfl, HE.out.1.below⟩
end Go.Proofs.Ytkgocbmnjlfkoaa.M
end
section
namespace Go.Proofs.Ytkgocbmnjlfkoaa.M
open Go.RowKit Go.Proofs.Ytkgocbmnjlfkoaa.X Go.Proofs.YtkgocbmnjlfkoaaW.PrintWords Go.Proofs.YtkgocbmnjlfkoaaW.PrintLast Go.Proofs.YtkgocbmnjlfkoaaW.PrintMore
set_option linter.unusedVariables false
set_option linter.unusedSimpArgs false
theorem new2_calls (A : Option Addr) (c : Nat) (l : List Int) (w w1 : World) (hB : Below w.heap.size w w1) (hr : C1 w A l) (hc : l.length ≤ c) (hl : l.length ≤ 17592186044416) : Calls Try.prog 14 #[.slice A l.length c] w1 fun e w' => ∃ g, e = .returned (.pointer (some ⟨g, 0, none⟩)) ∧ Dk w g l w' ∧ Below w1.heap.size w1 w' := by
  refine (timeboundmake_New.calls A c l l 0 w w1 hB hr hc rfl).mono ?_
  rintro e w' ⟨g, rfl, i1, i2, i3⟩
  exact ⟨g, rfl, ⟨0, ⟨hl, by omega, by omega⟩, i1, i2⟩, i3⟩
section
variable {w wr w' : World} {g : Nat} {xs : List Int} {Bx : List (Nat × Array Value × TypeId)} {Tx : List Th} {S W L : Nat}
theorem LM.mod (h : LM w wr g xs Bx Tx) (n : Int) : Calls Try.prog 24 #[.int .i64 n, .int .i64 1048577] wr fun e w' => ∃ v : Nat, e = .returned (.int .i64 v) ∧ v ≤ 1048576 ∧ LM w w' g xs Bx Tx := by
  obtain ⟨v, hv, h0, h1⟩ := mod_ n 1048577 (by decide) (by decide)
  refine (timeboundmake_Mod.calls n 1048577 v wr hv).mono ?_
  rintro e w' ⟨rfl, hb⟩
  obtain ⟨q, rfl⟩ := hb
  exact ⟨v.toNat, by rw [Int.toNat_of_nonneg h0], by omega, h.step (pw_below_drewN (Below.refl _ _) q)⟩
theorem LM.pair (h : LM w wr g xs Bx Tx) (a b : Int) : LM w (wr.alloc (.cells #[.int .i64 a, .int .i64 b] 3)) g xs Bx (.s1 (.slice (some ⟨wr.heap.size, 0, none⟩) 2 2) [a, b] :: Tx) :=
  (h.alloc _).add ⟨wr.heap.size, T1.mk' (xs := [a, b]) rfl (Nat.le_refl _) (heap_new wr _) (Nat.le_refl _) (by unfold maxLen; omega) rfl (by simp [nums])⟩
theorem LM.rage (hC : CacheOk S W L) (h : LM w wr g xs Bx Tx) (i : Nat) {A : Option Addr} {k : Nat} {X : List (List (List Int))} (hi : Tx[i]? = some (.s3 (.slice A X.length k) X)) (hF : Fit S W X) (n : Nat) :
    Calls Try.prog 43 #[.agg #[.int .i64 S, .int .i64 W, .int .i64 L], .agg #[.slice A X.length k], .int .i64 n] wr fun e w' => e = .returned (.int .i64 (ageM S W X n)) ∧ LM w w' g xs Bx Tx :=
  h.pure (rage_calls hC A k X n wr hF (h.rd3 i hi).2.2 (h.rd3 i hi).2.1)
theorem LM.reither (hC : CacheOk S W L) (h : LM w wr g xs Bx Tx) (i j : Nat) {A B : Option Addr} {k m q : Nat} {X : List (List (List Int))} {ls : List Int} (hi : Tx[i]? = some (.s3 (.slice A X.length k) X)) (hj : Tx[j]? = some (.s1 (.slice B q m) ls)) (hV : Val S W X) (hls : LinesOk ls) (hl : q < 1099511627776) :
    Calls Try.prog 46 #[.agg #[.int .i64 S, .int .i64 W, .int .i64 L], .agg #[.slice A X.length k], .slice B q m] wr fun e w' => ∃ A' k', e = .returned (.agg #[.slice A' (eitherM S W X ls).length k']) ∧ LM w w' g xs Bx (.s3 (.slice A' (eitherM S W X ls).length k') (eitherM S W X ls) :: Tx) := by
  obtain ⟨rfl, h1, h2⟩ := h.rd1 j hj
  exact h.made (reither_calls hC A B k m X ls wr hV hls (h.rd3 i hi).2.2 (h.rd3 i hi).2.1 h2 h1 hl)
theorem LM.rtop (hC : CacheOk S W L) (h : LM w wr g xs Bx Tx) : Calls Try.prog 47 #[.agg #[.int .i64 S, .int .i64 W, .int .i64 L]] wr fun e w' => ∃ A' k', e = .returned (.agg #[.slice A' (top S W).length k']) ∧ LM w w' g xs Bx (.s3 (.slice A' (top S W).length k') (top S W) :: Tx) :=
  h.made (rtop_calls hC wr)
theorem LM.rof (hC : CacheOk S W L) (h : LM w wr g xs Bx Tx) (i : Nat) {A : Option Addr} {k : Nat} {X : List (List Int)} (hi : Tx[i]? = some (.s2 (.slice A X.length k) X)) (hX : Con S W X) :
    Calls Try.prog 48 #[.agg #[.int .i64 S, .int .i64 W, .int .i64 L], .agg #[.slice A X.length k]] wr fun e w' => ∃ A' k', e = .returned (.agg #[.slice A' (ofM S W X).length k']) ∧ LM w w' g xs Bx (.s3 (.slice A' (ofM S W X).length k') (ofM S W X) :: Tx) :=
  h.made (rof_calls hC A k X wr hX.len hX.row (h.rd2 i hi).2.2 (h.rd2 i hi).2.1)
theorem LM.mvalid (hC : CacheOk S W L) (h : LM w wr g xs Bx Tx) (i : Nat) {A : Option Addr} {k : Nat} {X : List (List (List Int))} (hi : Tx[i]? = some (.s3 (.slice A X.length k) X)) (hV : Val S W X) :
    Calls Try.prog 25 #[.agg #[.int .i64 S, .int .i64 W, .int .i64 L], .agg #[.slice A X.length k]] wr fun e w' => e = .returned (.bool true) ∧ LM w w' g xs Bx Tx :=
  h.pure (mvalid_calls hC A k X wr hV (h.rd3 i hi).2.2 (h.rd3 i hi).2.1)
theorem LM.belb (hC : CacheOk S W L) (h : LM w wr g xs Bx Tx) (i j : Nat) {A B : Option Addr} {k m : Nat} {X Y : List (List (List Int))} (hi : Tx[i]? = some (.s3 (.slice A X.length k) X)) (hj : Tx[j]? = some (.s3 (.slice B Y.length m) Y)) (hF : Fit S W X) (hG : Fit S W Y) :
    Calls Try.prog 32 #[.agg #[.int .i64 S, .int .i64 W, .int .i64 L], .agg #[.slice A X.length k], .agg #[.slice B Y.length m]] wr fun e w' => e = .returned (.bool (M.belb X Y)) ∧ LM w w' g xs Bx Tx :=
  h.pure (below32b_calls hC A B k m X Y wr hF hG (h.rd3 i hi).2.2 (h.rd3 i hi).2.1 (h.rd3 j hj).2.2 (h.rd3 j hj).2.1)
theorem LM.rbelb (hC : CacheOk S W L) (h : LM w wr g xs Bx Tx) (i j : Nat) {A B : Option Addr} {k m : Nat} {X Y : List (List (List Int))} (hi : Tx[i]? = some (.s3 (.slice A X.length k) X)) (hj : Tx[j]? = some (.s3 (.slice B Y.length m) Y)) (hF : Fit S W X) (hG : Fit S W Y) :
    Calls Try.prog 45 #[.agg #[.int .i64 S, .int .i64 W, .int .i64 L], .agg #[.slice A X.length k], .agg #[.slice B Y.length m]] wr fun e w' => e = .returned (.bool (M.belb X Y)) ∧ LM w w' g xs Bx Tx :=
  h.pure (rbelow_calls hC.s8 hC.w4 S W L A B k m X Y wr hF hG (h.rd3 i hi).2.2 (h.rd3 i hi).2.1 (h.rd3 j hj).2.2 (h.rd3 j hj).2.1)
theorem LM.mvalidr (hC : CacheOk S W L) (h : LM w wr g xs Bx Tx) {A : Option Addr} {k : Nat} {X : List (List (List Int))} (hr : C3 w A X) (hk : X.length ≤ k) (b1 : X.length < 1152921504606846976) (b2 : ∀ r ∈ X, r.length < 1152921504606846976) (b3 : ∀ r ∈ X, ∀ l ∈ r, l.length ≤ 17592186044416) :
    Calls Try.prog 25 #[.agg #[.int .i64 S, .int .i64 W, .int .i64 L], .agg #[.slice A X.length k]] wr fun e w' => e = .returned (.bool (valb S W X)) ∧ LM w w' g xs Bx Tx :=
  h.pure (mvalidb_calls hC A k X wr b1 b2 b3 (Kd.C_below hr h.below) hk)
theorem LM.rvalidr (hC : CacheOk S W L) (h : LM w wr g xs Bx Tx) {A : Option Addr} {k : Nat} {X : List (List (List Int))} (hr : C3 w A X) (hk : X.length ≤ k) (b1 : X.length < 1152921504606846976) (b2 : ∀ r ∈ X, r.length < 1152921504606846976) (b3 : ∀ r ∈ X, ∀ l ∈ r, l.length ≤ 17592186044416) :
    Calls Try.prog 26 #[.agg #[.int .i64 S, .int .i64 W, .int .i64 L], .agg #[.slice A X.length k]] wr fun e w' => e = .returned (.bool (valb S W X)) ∧ LM w w' g xs Bx Tx :=
  h.pure (rvalid_calls hC A k X wr b1 b2 b3 (Kd.C_below hr h.below) hk)
end
end Go.Proofs.Ytkgocbmnjlfkoaa.M
end
section
namespace Go.Proofs.Ytkgocbmnjlfkoaa.M
open Go.RowKit Go.Proofs.Ytkgocbmnjlfkoaa.X Go.Proofs.YtkgocbmnjlfkoaaW.PrintWords Go.Proofs.YtkgocbmnjlfkoaaW.PrintLast Go.Proofs.YtkgocbmnjlfkoaaW.PrintMore
set_option linter.unusedVariables false
set_option linter.unusedSimpArgs false
set_option maxRecDepth 100000 in
set_option maxHeartbeats 8000000 in
theorem mustSteps_walk (Ar : Option Addr) (cr : Nat) (xr : List (List (List Int))) (A0 : Option Addr) (c0 : Nat) (l : List Int) (x : Int) (w : World) (hraw : C3 w Ar xr) (hcr : xr.length ≤ cr) (b1 : xr.length < 1152921504606846976) (b2 : ∀ r ∈ xr, r.length < 1152921504606846976) (b3 : ∀ r ∈ xr, ∀ l ∈ r, l.length ≤ 17592186044416)
    (hr : C1 w A0 l) (hc : l.length ≤ c0) (hl : l.length ≤ 17592186044416) :
    Calls Try.prog 9 #[.agg #[.slice Ar xr.length cr], .slice A0 l.length c0, .int .i64 x] w fun e w' => e = .returned (.bool true) ∧ Below w.heap.size w w' := by
  have hnew := Aside0.mk (new2_calls A0 c0 l w (w.alloc (.cells #[.slice Ar xr.length cr] 39)) ((Below.refl _ _).alloc (Nat.le_refl _) _) hr hc hl)
  have HRAW := Aside0.mk hraw
  have HB2 := Aside0.mk b2
  have HB3 := Aside0.mk b3
  clear hr hraw b2 b3
  go_enter Try.func9, Try.ntmps9
  go_upto_region 2 with (first | (go_at_call 14; refine hnew.out.mono ?_; rintro e w1 ⟨g, rfl, hd1, hb1⟩; have H1 := Aside0.mk (LM.addB (LM.first hd1) (p := w.heap.size) (cs := #[.slice Ar xr.length cr]) (t := 39) ((hb1.block _ (by rw [World.size_alloc]; omega)).trans (heap_new w _)) (by unfold BoxT; decide) (Nat.le_refl _) (fun q hq => by cases hq)); clear hd1 hb1))
  go_upto_region 3 with (first | (go_at_call 15; (with_reducible refine (LM.cache H1.out).mono ?_); rintro e w2 ⟨S, W, L, rfl, hC, hL⟩; have HC := Aside0.mk hC; have H2 := Aside0.mk hL; clear hC hL))
  have H3 := Aside0.mk (LM.newB H2.out #[.int .i64 S, .int .i64 W, .int .i64 L] 26 (by unfold BoxT; decide))
  generalize w2.heap.size = bc at *
  generalize w2.alloc (.cells #[.int .i64 S, .int .i64 W, .int .i64 L] 26) = w3 at *
  have hW1 := HC.out.w1
  have hS8 := HC.out.s8
  have hW4 := HC.out.w4
  clear hnew
  go_cut [9, 10] from 20 to 25 (fun v9 v10 wx => ∃ pa pb Aa ka Ab kb Xa Xb, v9 = .pointer (some ⟨pa, 0, none⟩) ∧ v10 = .pointer (some ⟨pb, 0, none⟩) ∧ Aside0 (Val S W Xa ∧ Val S W Xb ∧ LM w wx g l [(pb, #[.slice Ab Xb.length kb], 39), (pa, #[.slice Aa Xa.length ka], 39), (bc, #[.int .i64 S, .int .i64 W, .int .i64 L], 26), (w.heap.size, #[.slice Ar xr.length cr], 39)] [.s3 (.slice Ab Xb.length kb) Xb, .s3 (.slice Aa Xa.length ka) Xa]))
  case first =>
    refine HeldTill.begin_ (S := fun (w' : World) => w'.cell? ⟨bc, 0, none⟩ = some (.int .i64 S) ∧ w'.cell? ⟨bc, 1, none⟩ = some (.int .i64 W) ∧ w'.cell? ⟨bc, 2, none⟩ = some (.int .i64 L)) (F := fun _ => true) (by kernel_rfl) ?_
    have H4 := Aside0.mk (LM.drew H3.out)
    generalize w3.drew = w4 at *
    have hSq : (fun (w' : World) => w'.cell? ⟨bc, 0, none⟩ = some (.int .i64 S) ∧ w'.cell? ⟨bc, 1, none⟩ = some (.int .i64 W) ∧ w'.cell? ⟨bc, 2, none⟩ = some (.int .i64 L)) w4 := ⟨LM.cell H4.out 0 rfl 0 rfl, LM.cell H4.out 0 rfl 1 rfl, LM.cell H4.out 0 rfl 2 rfl⟩
    refine HeldTill.take (i := 0) (n := 9) (v := ?_) rfl (by kernel_rfl) (by kernel_rfl) (by kernel_rfl) (by kernel_rfl) (fun _ _ _ h => h) (Or.inl ⟨by rfl, ?_⟩) hSq ?_
    rotate_left
    · intro w hSw; (try dsimp only at hSw); go_simp; (try with_reducible rfl)
    simp only [Act.put, List.setIfInBounds_toArray, List.set_cons_zero, List.set_cons_succ, List.getElem_toArray, List.getElem_cons_zero, List.getElem_cons_succ]
    refine HeldTill.take (i := 1) (n := 8) (v := ?_) rfl (by kernel_rfl) (by kernel_rfl) (by kernel_rfl) (by kernel_rfl) (fun _ _ _ h => h) (Or.inl ⟨by rfl, ?_⟩) hSq ?_
    rotate_left
    · intro w hSw; (try dsimp only at hSw); go_simp; (try with_reducible rfl)
    simp only [Act.put, List.setIfInBounds_toArray, List.set_cons_zero, List.set_cons_succ, List.getElem_toArray, List.getElem_cons_zero, List.getElem_cons_succ]
    refine HeldTill.take (i := 3) (n := 7) (v := ?_) rfl (by kernel_rfl) (by kernel_rfl) (by kernel_rfl) (by kernel_rfl) (fun _ _ _ h => h) (Or.inl ⟨by rfl, ?_⟩) hSq ?_
    rotate_left
    · intro w hSw; (try dsimp only at hSw); go_simp; (try with_reducible rfl)
    simp only [Act.put, List.setIfInBounds_toArray, List.set_cons_zero, List.set_cons_succ, List.getElem_toArray, List.getElem_cons_zero, List.getElem_cons_succ]
    refine HeldTill.take (i := 4) (n := 6) (v := ?_) rfl (by kernel_rfl) (by kernel_rfl) (by kernel_rfl) (by kernel_rfl) (fun _ _ _ h => h) (Or.inl ⟨by rfl, ?_⟩) hSq ?_
    rotate_left
    · intro w hSw; (try dsimp only at hSw); go_simp; (try with_reducible rfl)
    simp only [Act.put, List.setIfInBounds_toArray, List.set_cons_zero, List.set_cons_succ, List.getElem_toArray, List.getElem_cons_zero, List.getElem_cons_succ]
    refine HeldTill.br [2, 6, 7] (by kernel_rfl) (by simp) ?_
    refine BrAll.cons rfl ?_ (BrAll.cons rfl ?_ (BrAll.cons rfl ?_ (BrAll.nil)))
    · skip
      go_wp2_with (go_at_call 22; (with_reducible refine (LM.must HC.out H4.out).mono ?_); rintro e w5 ⟨A5, k5, Xa, rfl, hV, hL⟩; have HVXa := Aside0.mk hV; have H5 := Aside0.mk hL; clear hV hL)
      refine ⟨(by first | exact fun _ => ⟨LM.cell H5.out 0 rfl 0 rfl, LM.cell H5.out 0 rfl 1 rfl, LM.cell H5.out 0 rfl 2 rfl⟩ | exact ⟨LM.cell H5.out 0 rfl 0 rfl, LM.cell H5.out 0 rfl 1 rfl, LM.cell H5.out 0 rfl 2 rfl⟩), ?_⟩
      refine HeldTill.br [5, 6, 7] (by kernel_rfl) (by simp) ?_
      refine BrAll.cons rfl ?_ (BrAll.cons rfl ?_ (BrAll.cons rfl ?_ (BrAll.nil)))
      · skip
        go_wp2_with (go_at_call 22; (with_reducible refine (LM.must HC.out H5.out).mono ?_); rintro e w6 ⟨A6, k6, Xb, rfl, hV, hL⟩; have HVXb := Aside0.mk hV; have H6 := Aside0.mk hL; clear hV hL)
        refine ⟨(by first | exact fun _ => ⟨LM.cell H6.out 0 rfl 0 rfl, LM.cell H6.out 0 rfl 1 rfl, LM.cell H6.out 0 rfl 2 rfl⟩ | exact ⟨LM.cell H6.out 0 rfl 0 rfl, LM.cell H6.out 0 rfl 1 rfl, LM.cell H6.out 0 rfl 2 rfl⟩), ?_⟩
        refine HeldTill.br [6, 7] (by kernel_rfl) (by simp) ?_
        refine BrAll.cons rfl ?_ (BrAll.cons rfl ?_ (BrAll.nil))
        · skip
          go_wp2
          have H7 := Aside0.mk (LM.newB H6.out #[.slice none 0 0] 39 (by unfold BoxT; decide))
          generalize w6.heap.size = pa at *
          generalize w6.alloc (.cells #[.slice none 0 0] 39) = w7 at *
          refine ⟨(by first | exact fun _ => ⟨LM.cell H7.out 1 rfl 0 rfl, LM.cell H7.out 1 rfl 1 rfl, LM.cell H7.out 1 rfl 2 rfl⟩ | exact ⟨LM.cell H7.out 1 rfl 0 rfl, LM.cell H7.out 1 rfl 1 rfl, LM.cell H7.out 1 rfl 2 rfl⟩), ?_⟩
          refine HeldTill.next (j := 7) (n := 2) (by kernel_rfl) rfl ?_
          go_wp2
          have H8 := Aside0.mk (LM.newB H7.out #[.slice none 0 0] 39 (by unfold BoxT; decide))
          generalize w7.heap.size = pb at *
          generalize w7.alloc (.cells #[.slice none 0 0] 39) = w8 at *
          refine ⟨(by first | exact fun _ => ⟨LM.cell H8.out 2 rfl 0 rfl, LM.cell H8.out 2 rfl 1 rfl, LM.cell H8.out 2 rfl 2 rfl⟩ | exact ⟨LM.cell H8.out 2 rfl 0 rfl, LM.cell H8.out 2 rfl 1 rfl, LM.cell H8.out 2 rfl 2 rfl⟩), ?_⟩
          refine HeldTill.next (j := 8) (n := 1) (by kernel_rfl) rfl ?_
          have qc0 := LM.cell H8.out 1 rfl 0 rfl
          have qf0 := LM.free H8.out 1 rfl 0
          go_wp2
          have H9 : Aside0 (LM w (w8.setCell ⟨pa, 0, none⟩ (.slice A5 Xa.length k5)) g l [(pb, #[.slice none 0 0], 39), (pa, #[.slice A5 Xa.length k5], 39), (bc, #[.int .i64 S, .int .i64 W, .int .i64 L], 26), (w.heap.size, #[.slice Ar xr.length cr], 39)] [.s3 (.slice A6 Xb.length k6) Xb, .s3 (.slice A5 Xa.length k5) Xa]) := ⟨LM.put H8.out 1 rfl 0 (.slice A5 Xa.length k5)⟩
          generalize (w8.setCell ⟨pa, 0, none⟩ (.slice A5 Xa.length k5)) = w9 at *
          clear qc0 qf0
          refine ⟨(by first | exact fun _ => ⟨LM.cell H9.out 2 rfl 0 rfl, LM.cell H9.out 2 rfl 1 rfl, LM.cell H9.out 2 rfl 2 rfl⟩ | exact ⟨LM.cell H9.out 2 rfl 0 rfl, LM.cell H9.out 2 rfl 1 rfl, LM.cell H9.out 2 rfl 2 rfl⟩), ?_⟩
          refine HeldTill.next (j := 9) (n := 0) (by kernel_rfl) rfl ?_
          have qc0 := LM.cell H9.out 0 rfl 0 rfl
          have qf0 := LM.free H9.out 0 rfl 0
          go_wp2
          have H10 : Aside0 (LM w (w9.setCell ⟨pb, 0, none⟩ (.slice A6 Xb.length k6)) g l [(pb, #[.slice A6 Xb.length k6], 39), (pa, #[.slice A5 Xa.length k5], 39), (bc, #[.int .i64 S, .int .i64 W, .int .i64 L], 26), (w.heap.size, #[.slice Ar xr.length cr], 39)] [.s3 (.slice A6 Xb.length k6) Xb, .s3 (.slice A5 Xa.length k5) Xa]) := ⟨LM.put H9.out 0 rfl 0 (.slice A6 Xb.length k6)⟩
          generalize (w9.setCell ⟨pb, 0, none⟩ (.slice A6 Xb.length k6)) = w10 at *
          clear qc0 qf0
          refine ⟨(by first | exact fun _ => ⟨LM.cell H10.out 2 rfl 0 rfl, LM.cell H10.out 2 rfl 1 rfl, LM.cell H10.out 2 rfl 2 rfl⟩ | exact ⟨LM.cell H10.out 2 rfl 0 rfl, LM.cell H10.out 2 rfl 1 rfl, LM.cell H10.out 2 rfl 2 rfl⟩), ?_⟩
          refine ⟨by kernel_rfl, ?_⟩
          go_wp2_with fail
          go_meet
          case rel => exact ⟨_, _, _, _, _, _, _, _, rfl, rfl, ⟨HVXa.out, HVXb.out, H10.out⟩⟩
        · skip
          go_wp2
          have H11 := Aside0.mk (LM.newB H6.out #[.slice none 0 0] 39 (by unfold BoxT; decide))
          generalize w6.heap.size = pb at *
          generalize w6.alloc (.cells #[.slice none 0 0] 39) = w11 at *
          refine ⟨(by first | exact fun _ => ⟨LM.cell H11.out 1 rfl 0 rfl, LM.cell H11.out 1 rfl 1 rfl, LM.cell H11.out 1 rfl 2 rfl⟩ | exact ⟨LM.cell H11.out 1 rfl 0 rfl, LM.cell H11.out 1 rfl 1 rfl, LM.cell H11.out 1 rfl 2 rfl⟩), ?_⟩
          refine HeldTill.next (j := 6) (n := 2) (by kernel_rfl) rfl ?_
          go_wp2
          have H12 := Aside0.mk (LM.newB H11.out #[.slice none 0 0] 39 (by unfold BoxT; decide))
          generalize w11.heap.size = pa at *
          generalize w11.alloc (.cells #[.slice none 0 0] 39) = w12 at *
          refine ⟨(by first | exact fun _ => ⟨LM.cell H12.out 2 rfl 0 rfl, LM.cell H12.out 2 rfl 1 rfl, LM.cell H12.out 2 rfl 2 rfl⟩ | exact ⟨LM.cell H12.out 2 rfl 0 rfl, LM.cell H12.out 2 rfl 1 rfl, LM.cell H12.out 2 rfl 2 rfl⟩), ?_⟩
          refine HeldTill.next (j := 8) (n := 1) (by kernel_rfl) rfl ?_
          have qc0 := LM.cell H12.out 0 rfl 0 rfl
          have qf0 := LM.free H12.out 0 rfl 0
          go_wp2
          have H13 : Aside0 (LM w (w12.setCell ⟨pa, 0, none⟩ (.slice A5 Xa.length k5)) g l [(pa, #[.slice A5 Xa.length k5], 39), (pb, #[.slice none 0 0], 39), (bc, #[.int .i64 S, .int .i64 W, .int .i64 L], 26), (w.heap.size, #[.slice Ar xr.length cr], 39)] [.s3 (.slice A6 Xb.length k6) Xb, .s3 (.slice A5 Xa.length k5) Xa]) := ⟨LM.put H12.out 0 rfl 0 (.slice A5 Xa.length k5)⟩
          generalize (w12.setCell ⟨pa, 0, none⟩ (.slice A5 Xa.length k5)) = w13 at *
          clear qc0 qf0
          refine ⟨(by first | exact fun _ => ⟨LM.cell H13.out 2 rfl 0 rfl, LM.cell H13.out 2 rfl 1 rfl, LM.cell H13.out 2 rfl 2 rfl⟩ | exact ⟨LM.cell H13.out 2 rfl 0 rfl, LM.cell H13.out 2 rfl 1 rfl, LM.cell H13.out 2 rfl 2 rfl⟩), ?_⟩
          refine HeldTill.next (j := 9) (n := 0) (by kernel_rfl) rfl ?_
          have qc0 := LM.cell H13.out 1 rfl 0 rfl
          have qf0 := LM.free H13.out 1 rfl 0
          go_wp2
          have H14 : Aside0 (LM w (w13.setCell ⟨pb, 0, none⟩ (.slice A6 Xb.length k6)) g l [(pa, #[.slice A5 Xa.length k5], 39), (pb, #[.slice A6 Xb.length k6], 39), (bc, #[.int .i64 S, .int .i64 W, .int .i64 L], 26), (w.heap.size, #[.slice Ar xr.length cr], 39)] [.s3 (.slice A6 Xb.length k6) Xb, .s3 (.slice A5 Xa.length k5) Xa]) := ⟨LM.put H13.out 1 rfl 0 (.slice A6 Xb.length k6)⟩
          generalize (w13.setCell ⟨pb, 0, none⟩ (.slice A6 Xb.length k6)) = w14 at *
          clear qc0 qf0
          refine ⟨(by first | exact fun _ => ⟨LM.cell H14.out 2 rfl 0 rfl, LM.cell H14.out 2 rfl 1 rfl, LM.cell H14.out 2 rfl 2 rfl⟩ | exact ⟨LM.cell H14.out 2 rfl 0 rfl, LM.cell H14.out 2 rfl 1 rfl, LM.cell H14.out 2 rfl 2 rfl⟩), ?_⟩
          refine ⟨by kernel_rfl, ?_⟩
          go_wp2_with fail
          go_meet
          case rel => exact ⟨_, _, _, _, _, _, _, _, rfl, rfl, ⟨HVXa.out, HVXb.out, LM.swap H14.out⟩⟩
      · skip
        go_wp2
        have H15 := Aside0.mk (LM.newB H5.out #[.slice none 0 0] 39 (by unfold BoxT; decide))
        generalize w5.heap.size = pa at *
        generalize w5.alloc (.cells #[.slice none 0 0] 39) = w15 at *
        refine ⟨(by first | exact fun _ => ⟨LM.cell H15.out 1 rfl 0 rfl, LM.cell H15.out 1 rfl 1 rfl, LM.cell H15.out 1 rfl 2 rfl⟩ | exact ⟨LM.cell H15.out 1 rfl 0 rfl, LM.cell H15.out 1 rfl 1 rfl, LM.cell H15.out 1 rfl 2 rfl⟩), ?_⟩
        refine HeldTill.br [5, 7] (by kernel_rfl) (by simp) ?_
        refine BrAll.cons rfl ?_ (BrAll.cons rfl ?_ (BrAll.nil))
        · skip
          go_wp2_with (go_at_call 22; (with_reducible refine (LM.must HC.out H15.out).mono ?_); rintro e w16 ⟨A16, k16, Xb, rfl, hV, hL⟩; have HVXb := Aside0.mk hV; have H16 := Aside0.mk hL; clear hV hL)
          refine ⟨(by first | exact fun _ => ⟨LM.cell H16.out 1 rfl 0 rfl, LM.cell H16.out 1 rfl 1 rfl, LM.cell H16.out 1 rfl 2 rfl⟩ | exact ⟨LM.cell H16.out 1 rfl 0 rfl, LM.cell H16.out 1 rfl 1 rfl, LM.cell H16.out 1 rfl 2 rfl⟩), ?_⟩
          refine HeldTill.next (j := 7) (n := 2) (by kernel_rfl) rfl ?_
          go_wp2
          have H17 := Aside0.mk (LM.newB H16.out #[.slice none 0 0] 39 (by unfold BoxT; decide))
          generalize w16.heap.size = pb at *
          generalize w16.alloc (.cells #[.slice none 0 0] 39) = w17 at *
          refine ⟨(by first | exact fun _ => ⟨LM.cell H17.out 2 rfl 0 rfl, LM.cell H17.out 2 rfl 1 rfl, LM.cell H17.out 2 rfl 2 rfl⟩ | exact ⟨LM.cell H17.out 2 rfl 0 rfl, LM.cell H17.out 2 rfl 1 rfl, LM.cell H17.out 2 rfl 2 rfl⟩), ?_⟩
          refine HeldTill.next (j := 8) (n := 1) (by kernel_rfl) rfl ?_
          have qc0 := LM.cell H17.out 1 rfl 0 rfl
          have qf0 := LM.free H17.out 1 rfl 0
          go_wp2
          have H18 : Aside0 (LM w (w17.setCell ⟨pa, 0, none⟩ (.slice A5 Xa.length k5)) g l [(pb, #[.slice none 0 0], 39), (pa, #[.slice A5 Xa.length k5], 39), (bc, #[.int .i64 S, .int .i64 W, .int .i64 L], 26), (w.heap.size, #[.slice Ar xr.length cr], 39)] [.s3 (.slice A16 Xb.length k16) Xb, .s3 (.slice A5 Xa.length k5) Xa]) := ⟨LM.put H17.out 1 rfl 0 (.slice A5 Xa.length k5)⟩
          generalize (w17.setCell ⟨pa, 0, none⟩ (.slice A5 Xa.length k5)) = w18 at *
          clear qc0 qf0
          refine ⟨(by first | exact fun _ => ⟨LM.cell H18.out 2 rfl 0 rfl, LM.cell H18.out 2 rfl 1 rfl, LM.cell H18.out 2 rfl 2 rfl⟩ | exact ⟨LM.cell H18.out 2 rfl 0 rfl, LM.cell H18.out 2 rfl 1 rfl, LM.cell H18.out 2 rfl 2 rfl⟩), ?_⟩
          refine HeldTill.next (j := 9) (n := 0) (by kernel_rfl) rfl ?_
          have qc0 := LM.cell H18.out 0 rfl 0 rfl
          have qf0 := LM.free H18.out 0 rfl 0
          go_wp2
          have H19 : Aside0 (LM w (w18.setCell ⟨pb, 0, none⟩ (.slice A16 Xb.length k16)) g l [(pb, #[.slice A16 Xb.length k16], 39), (pa, #[.slice A5 Xa.length k5], 39), (bc, #[.int .i64 S, .int .i64 W, .int .i64 L], 26), (w.heap.size, #[.slice Ar xr.length cr], 39)] [.s3 (.slice A16 Xb.length k16) Xb, .s3 (.slice A5 Xa.length k5) Xa]) := ⟨LM.put H18.out 0 rfl 0 (.slice A16 Xb.length k16)⟩
          generalize (w18.setCell ⟨pb, 0, none⟩ (.slice A16 Xb.length k16)) = w19 at *
          clear qc0 qf0
          refine ⟨(by first | exact fun _ => ⟨LM.cell H19.out 2 rfl 0 rfl, LM.cell H19.out 2 rfl 1 rfl, LM.cell H19.out 2 rfl 2 rfl⟩ | exact ⟨LM.cell H19.out 2 rfl 0 rfl, LM.cell H19.out 2 rfl 1 rfl, LM.cell H19.out 2 rfl 2 rfl⟩), ?_⟩
          refine ⟨by kernel_rfl, ?_⟩
          go_wp2_with fail
          go_meet
          case rel => exact ⟨_, _, _, _, _, _, _, _, rfl, rfl, ⟨HVXa.out, HVXb.out, H19.out⟩⟩
        · skip
          go_wp2
          have H20 := Aside0.mk (LM.newB H15.out #[.slice none 0 0] 39 (by unfold BoxT; decide))
          generalize w15.heap.size = pb at *
          generalize w15.alloc (.cells #[.slice none 0 0] 39) = w20 at *
          refine ⟨(by first | exact fun _ => ⟨LM.cell H20.out 2 rfl 0 rfl, LM.cell H20.out 2 rfl 1 rfl, LM.cell H20.out 2 rfl 2 rfl⟩ | exact ⟨LM.cell H20.out 2 rfl 0 rfl, LM.cell H20.out 2 rfl 1 rfl, LM.cell H20.out 2 rfl 2 rfl⟩), ?_⟩
          refine HeldTill.next (j := 5) (n := 2) (by kernel_rfl) rfl ?_
          go_wp2_with (go_at_call 22; (with_reducible refine (LM.must HC.out H20.out).mono ?_); rintro e w21 ⟨A21, k21, Xb, rfl, hV, hL⟩; have HVXb := Aside0.mk hV; have H21 := Aside0.mk hL; clear hV hL)
          refine ⟨(by first | exact fun _ => ⟨LM.cell H21.out 2 rfl 0 rfl, LM.cell H21.out 2 rfl 1 rfl, LM.cell H21.out 2 rfl 2 rfl⟩ | exact ⟨LM.cell H21.out 2 rfl 0 rfl, LM.cell H21.out 2 rfl 1 rfl, LM.cell H21.out 2 rfl 2 rfl⟩), ?_⟩
          refine HeldTill.next (j := 8) (n := 1) (by kernel_rfl) rfl ?_
          have qc0 := LM.cell H21.out 1 rfl 0 rfl
          have qf0 := LM.free H21.out 1 rfl 0
          go_wp2
          have H22 : Aside0 (LM w (w21.setCell ⟨pa, 0, none⟩ (.slice A5 Xa.length k5)) g l [(pb, #[.slice none 0 0], 39), (pa, #[.slice A5 Xa.length k5], 39), (bc, #[.int .i64 S, .int .i64 W, .int .i64 L], 26), (w.heap.size, #[.slice Ar xr.length cr], 39)] [.s3 (.slice A21 Xb.length k21) Xb, .s3 (.slice A5 Xa.length k5) Xa]) := ⟨LM.put H21.out 1 rfl 0 (.slice A5 Xa.length k5)⟩
          generalize (w21.setCell ⟨pa, 0, none⟩ (.slice A5 Xa.length k5)) = w22 at *
          clear qc0 qf0
          refine ⟨(by first | exact fun _ => ⟨LM.cell H22.out 2 rfl 0 rfl, LM.cell H22.out 2 rfl 1 rfl, LM.cell H22.out 2 rfl 2 rfl⟩ | exact ⟨LM.cell H22.out 2 rfl 0 rfl, LM.cell H22.out 2 rfl 1 rfl, LM.cell H22.out 2 rfl 2 rfl⟩), ?_⟩
          refine HeldTill.next (j := 9) (n := 0) (by kernel_rfl) rfl ?_
          have qc0 := LM.cell H22.out 0 rfl 0 rfl
          have qf0 := LM.free H22.out 0 rfl 0
          go_wp2
          have H23 : Aside0 (LM w (w22.setCell ⟨pb, 0, none⟩ (.slice A21 Xb.length k21)) g l [(pb, #[.slice A21 Xb.length k21], 39), (pa, #[.slice A5 Xa.length k5], 39), (bc, #[.int .i64 S, .int .i64 W, .int .i64 L], 26), (w.heap.size, #[.slice Ar xr.length cr], 39)] [.s3 (.slice A21 Xb.length k21) Xb, .s3 (.slice A5 Xa.length k5) Xa]) := ⟨LM.put H22.out 0 rfl 0 (.slice A21 Xb.length k21)⟩
          generalize (w22.setCell ⟨pb, 0, none⟩ (.slice A21 Xb.length k21)) = w23 at *
          clear qc0 qf0
          refine ⟨(by first | exact fun _ => ⟨LM.cell H23.out 2 rfl 0 rfl, LM.cell H23.out 2 rfl 1 rfl, LM.cell H23.out 2 rfl 2 rfl⟩ | exact ⟨LM.cell H23.out 2 rfl 0 rfl, LM.cell H23.out 2 rfl 1 rfl, LM.cell H23.out 2 rfl 2 rfl⟩), ?_⟩
          refine ⟨by kernel_rfl, ?_⟩
          go_wp2_with fail
          go_meet
          case rel => exact ⟨_, _, _, _, _, _, _, _, rfl, rfl, ⟨HVXa.out, HVXb.out, H23.out⟩⟩
      · skip
        go_wp2
        have H24 := Aside0.mk (LM.newB H5.out #[.slice none 0 0] 39 (by unfold BoxT; decide))
        generalize w5.heap.size = pb at *
        generalize w5.alloc (.cells #[.slice none 0 0] 39) = w24 at *
        refine ⟨(by first | exact fun _ => ⟨LM.cell H24.out 1 rfl 0 rfl, LM.cell H24.out 1 rfl 1 rfl, LM.cell H24.out 1 rfl 2 rfl⟩ | exact ⟨LM.cell H24.out 1 rfl 0 rfl, LM.cell H24.out 1 rfl 1 rfl, LM.cell H24.out 1 rfl 2 rfl⟩), ?_⟩
        refine HeldTill.br [5, 6] (by kernel_rfl) (by simp) ?_
        refine BrAll.cons rfl ?_ (BrAll.cons rfl ?_ (BrAll.nil))
        · skip
          go_wp2_with (go_at_call 22; (with_reducible refine (LM.must HC.out H24.out).mono ?_); rintro e w25 ⟨A25, k25, Xb, rfl, hV, hL⟩; have HVXb := Aside0.mk hV; have H25 := Aside0.mk hL; clear hV hL)
          refine ⟨(by first | exact fun _ => ⟨LM.cell H25.out 1 rfl 0 rfl, LM.cell H25.out 1 rfl 1 rfl, LM.cell H25.out 1 rfl 2 rfl⟩ | exact ⟨LM.cell H25.out 1 rfl 0 rfl, LM.cell H25.out 1 rfl 1 rfl, LM.cell H25.out 1 rfl 2 rfl⟩), ?_⟩
          refine HeldTill.next (j := 6) (n := 2) (by kernel_rfl) rfl ?_
          go_wp2
          have H26 := Aside0.mk (LM.newB H25.out #[.slice none 0 0] 39 (by unfold BoxT; decide))
          generalize w25.heap.size = pa at *
          generalize w25.alloc (.cells #[.slice none 0 0] 39) = w26 at *
          refine ⟨(by first | exact fun _ => ⟨LM.cell H26.out 2 rfl 0 rfl, LM.cell H26.out 2 rfl 1 rfl, LM.cell H26.out 2 rfl 2 rfl⟩ | exact ⟨LM.cell H26.out 2 rfl 0 rfl, LM.cell H26.out 2 rfl 1 rfl, LM.cell H26.out 2 rfl 2 rfl⟩), ?_⟩
          refine HeldTill.next (j := 8) (n := 1) (by kernel_rfl) rfl ?_
          have qc0 := LM.cell H26.out 0 rfl 0 rfl
          have qf0 := LM.free H26.out 0 rfl 0
          go_wp2
          have H27 : Aside0 (LM w (w26.setCell ⟨pa, 0, none⟩ (.slice A5 Xa.length k5)) g l [(pa, #[.slice A5 Xa.length k5], 39), (pb, #[.slice none 0 0], 39), (bc, #[.int .i64 S, .int .i64 W, .int .i64 L], 26), (w.heap.size, #[.slice Ar xr.length cr], 39)] [.s3 (.slice A25 Xb.length k25) Xb, .s3 (.slice A5 Xa.length k5) Xa]) := ⟨LM.put H26.out 0 rfl 0 (.slice A5 Xa.length k5)⟩
          generalize (w26.setCell ⟨pa, 0, none⟩ (.slice A5 Xa.length k5)) = w27 at *
          clear qc0 qf0
          refine ⟨(by first | exact fun _ => ⟨LM.cell H27.out 2 rfl 0 rfl, LM.cell H27.out 2 rfl 1 rfl, LM.cell H27.out 2 rfl 2 rfl⟩ | exact ⟨LM.cell H27.out 2 rfl 0 rfl, LM.cell H27.out 2 rfl 1 rfl, LM.cell H27.out 2 rfl 2 rfl⟩), ?_⟩
          refine HeldTill.next (j := 9) (n := 0) (by kernel_rfl) rfl ?_
          have qc0 := LM.cell H27.out 1 rfl 0 rfl
          have qf0 := LM.free H27.out 1 rfl 0
          go_wp2
          have H28 : Aside0 (LM w (w27.setCell ⟨pb, 0, none⟩ (.slice A25 Xb.length k25)) g l [(pa, #[.slice A5 Xa.length k5], 39), (pb, #[.slice A25 Xb.length k25], 39), (bc, #[.int .i64 S, .int .i64 W, .int .i64 L], 26), (w.heap.size, #[.slice Ar xr.length cr], 39)] [.s3 (.slice A25 Xb.length k25) Xb, .s3 (.slice A5 Xa.length k5) Xa]) := ⟨LM.put H27.out 1 rfl 0 (.slice A25 Xb.length k25)⟩
          generalize (w27.setCell ⟨pb, 0, none⟩ (.slice A25 Xb.length k25)) = w28 at *
          clear qc0 qf0
          refine ⟨(by first | exact fun _ => ⟨LM.cell H28.out 2 rfl 0 rfl, LM.cell H28.out 2 rfl 1 rfl, LM.cell H28.out 2 rfl 2 rfl⟩ | exact ⟨LM.cell H28.out 2 rfl 0 rfl, LM.cell H28.out 2 rfl 1 rfl, LM.cell H28.out 2 rfl 2 rfl⟩), ?_⟩
          refine ⟨by kernel_rfl, ?_⟩
          go_wp2_with fail
          go_meet
          case rel => exact ⟨_, _, _, _, _, _, _, _, rfl, rfl, ⟨HVXa.out, HVXb.out, LM.swap H28.out⟩⟩
        · skip
          go_wp2
          have H29 := Aside0.mk (LM.newB H24.out #[.slice none 0 0] 39 (by unfold BoxT; decide))
          generalize w24.heap.size = pa at *
          generalize w24.alloc (.cells #[.slice none 0 0] 39) = w29 at *
          refine ⟨(by first | exact fun _ => ⟨LM.cell H29.out 2 rfl 0 rfl, LM.cell H29.out 2 rfl 1 rfl, LM.cell H29.out 2 rfl 2 rfl⟩ | exact ⟨LM.cell H29.out 2 rfl 0 rfl, LM.cell H29.out 2 rfl 1 rfl, LM.cell H29.out 2 rfl 2 rfl⟩), ?_⟩
          refine HeldTill.next (j := 5) (n := 2) (by kernel_rfl) rfl ?_
          go_wp2_with (go_at_call 22; (with_reducible refine (LM.must HC.out H29.out).mono ?_); rintro e w30 ⟨A30, k30, Xb, rfl, hV, hL⟩; have HVXb := Aside0.mk hV; have H30 := Aside0.mk hL; clear hV hL)
          refine ⟨(by first | exact fun _ => ⟨LM.cell H30.out 2 rfl 0 rfl, LM.cell H30.out 2 rfl 1 rfl, LM.cell H30.out 2 rfl 2 rfl⟩ | exact ⟨LM.cell H30.out 2 rfl 0 rfl, LM.cell H30.out 2 rfl 1 rfl, LM.cell H30.out 2 rfl 2 rfl⟩), ?_⟩
          refine HeldTill.next (j := 8) (n := 1) (by kernel_rfl) rfl ?_
          have qc0 := LM.cell H30.out 0 rfl 0 rfl
          have qf0 := LM.free H30.out 0 rfl 0
          go_wp2
          have H31 : Aside0 (LM w (w30.setCell ⟨pa, 0, none⟩ (.slice A5 Xa.length k5)) g l [(pa, #[.slice A5 Xa.length k5], 39), (pb, #[.slice none 0 0], 39), (bc, #[.int .i64 S, .int .i64 W, .int .i64 L], 26), (w.heap.size, #[.slice Ar xr.length cr], 39)] [.s3 (.slice A30 Xb.length k30) Xb, .s3 (.slice A5 Xa.length k5) Xa]) := ⟨LM.put H30.out 0 rfl 0 (.slice A5 Xa.length k5)⟩
          generalize (w30.setCell ⟨pa, 0, none⟩ (.slice A5 Xa.length k5)) = w31 at *
          clear qc0 qf0
          refine ⟨(by first | exact fun _ => ⟨LM.cell H31.out 2 rfl 0 rfl, LM.cell H31.out 2 rfl 1 rfl, LM.cell H31.out 2 rfl 2 rfl⟩ | exact ⟨LM.cell H31.out 2 rfl 0 rfl, LM.cell H31.out 2 rfl 1 rfl, LM.cell H31.out 2 rfl 2 rfl⟩), ?_⟩
          refine HeldTill.next (j := 9) (n := 0) (by kernel_rfl) rfl ?_
          have qc0 := LM.cell H31.out 1 rfl 0 rfl
          have qf0 := LM.free H31.out 1 rfl 0
          go_wp2
          have H32 : Aside0 (LM w (w31.setCell ⟨pb, 0, none⟩ (.slice A30 Xb.length k30)) g l [(pa, #[.slice A5 Xa.length k5], 39), (pb, #[.slice A30 Xb.length k30], 39), (bc, #[.int .i64 S, .int .i64 W, .int .i64 L], 26), (w.heap.size, #[.slice Ar xr.length cr], 39)] [.s3 (.slice A30 Xb.length k30) Xb, .s3 (.slice A5 Xa.length k5) Xa]) := ⟨LM.put H31.out 1 rfl 0 (.slice A30 Xb.length k30)⟩
          generalize (w31.setCell ⟨pb, 0, none⟩ (.slice A30 Xb.length k30)) = w32 at *
          clear qc0 qf0
          refine ⟨(by first | exact fun _ => ⟨LM.cell H32.out 2 rfl 0 rfl, LM.cell H32.out 2 rfl 1 rfl, LM.cell H32.out 2 rfl 2 rfl⟩ | exact ⟨LM.cell H32.out 2 rfl 0 rfl, LM.cell H32.out 2 rfl 1 rfl, LM.cell H32.out 2 rfl 2 rfl⟩), ?_⟩
          refine ⟨by kernel_rfl, ?_⟩
          go_wp2_with fail
          go_meet
          case rel => exact ⟨_, _, _, _, _, _, _, _, rfl, rfl, ⟨HVXa.out, HVXb.out, LM.swap H32.out⟩⟩
    · skip
      go_wp2
      have H33 := Aside0.mk (LM.newB H4.out #[.slice none 0 0] 39 (by unfold BoxT; decide))
      generalize w4.heap.size = pa at *
      generalize w4.alloc (.cells #[.slice none 0 0] 39) = w33 at *
      refine ⟨(by first | exact fun _ => ⟨LM.cell H33.out 1 rfl 0 rfl, LM.cell H33.out 1 rfl 1 rfl, LM.cell H33.out 1 rfl 2 rfl⟩ | exact ⟨LM.cell H33.out 1 rfl 0 rfl, LM.cell H33.out 1 rfl 1 rfl, LM.cell H33.out 1 rfl 2 rfl⟩), ?_⟩
      refine HeldTill.br [2, 7] (by kernel_rfl) (by simp) ?_
      refine BrAll.cons rfl ?_ (BrAll.cons rfl ?_ (BrAll.nil))
      · skip
        go_wp2_with (go_at_call 22; (with_reducible refine (LM.must HC.out H33.out).mono ?_); rintro e w34 ⟨A34, k34, Xa, rfl, hV, hL⟩; have HVXa := Aside0.mk hV; have H34 := Aside0.mk hL; clear hV hL)
        refine ⟨(by first | exact fun _ => ⟨LM.cell H34.out 1 rfl 0 rfl, LM.cell H34.out 1 rfl 1 rfl, LM.cell H34.out 1 rfl 2 rfl⟩ | exact ⟨LM.cell H34.out 1 rfl 0 rfl, LM.cell H34.out 1 rfl 1 rfl, LM.cell H34.out 1 rfl 2 rfl⟩), ?_⟩
        refine HeldTill.br [5, 7] (by kernel_rfl) (by simp) ?_
        refine BrAll.cons rfl ?_ (BrAll.cons rfl ?_ (BrAll.nil))
        · skip
          go_wp2_with (go_at_call 22; (with_reducible refine (LM.must HC.out H34.out).mono ?_); rintro e w35 ⟨A35, k35, Xb, rfl, hV, hL⟩; have HVXb := Aside0.mk hV; have H35 := Aside0.mk hL; clear hV hL)
          refine ⟨(by first | exact fun _ => ⟨LM.cell H35.out 1 rfl 0 rfl, LM.cell H35.out 1 rfl 1 rfl, LM.cell H35.out 1 rfl 2 rfl⟩ | exact ⟨LM.cell H35.out 1 rfl 0 rfl, LM.cell H35.out 1 rfl 1 rfl, LM.cell H35.out 1 rfl 2 rfl⟩), ?_⟩
          refine HeldTill.next (j := 7) (n := 2) (by kernel_rfl) rfl ?_
          go_wp2
          have H36 := Aside0.mk (LM.newB H35.out #[.slice none 0 0] 39 (by unfold BoxT; decide))
          generalize w35.heap.size = pb at *
          generalize w35.alloc (.cells #[.slice none 0 0] 39) = w36 at *
          refine ⟨(by first | exact fun _ => ⟨LM.cell H36.out 2 rfl 0 rfl, LM.cell H36.out 2 rfl 1 rfl, LM.cell H36.out 2 rfl 2 rfl⟩ | exact ⟨LM.cell H36.out 2 rfl 0 rfl, LM.cell H36.out 2 rfl 1 rfl, LM.cell H36.out 2 rfl 2 rfl⟩), ?_⟩
          refine HeldTill.next (j := 8) (n := 1) (by kernel_rfl) rfl ?_
          have qc0 := LM.cell H36.out 1 rfl 0 rfl
          have qf0 := LM.free H36.out 1 rfl 0
          go_wp2
          have H37 : Aside0 (LM w (w36.setCell ⟨pa, 0, none⟩ (.slice A34 Xa.length k34)) g l [(pb, #[.slice none 0 0], 39), (pa, #[.slice A34 Xa.length k34], 39), (bc, #[.int .i64 S, .int .i64 W, .int .i64 L], 26), (w.heap.size, #[.slice Ar xr.length cr], 39)] [.s3 (.slice A35 Xb.length k35) Xb, .s3 (.slice A34 Xa.length k34) Xa]) := ⟨LM.put H36.out 1 rfl 0 (.slice A34 Xa.length k34)⟩
          generalize (w36.setCell ⟨pa, 0, none⟩ (.slice A34 Xa.length k34)) = w37 at *
          clear qc0 qf0
          refine ⟨(by first | exact fun _ => ⟨LM.cell H37.out 2 rfl 0 rfl, LM.cell H37.out 2 rfl 1 rfl, LM.cell H37.out 2 rfl 2 rfl⟩ | exact ⟨LM.cell H37.out 2 rfl 0 rfl, LM.cell H37.out 2 rfl 1 rfl, LM.cell H37.out 2 rfl 2 rfl⟩), ?_⟩
          refine HeldTill.next (j := 9) (n := 0) (by kernel_rfl) rfl ?_
          have qc0 := LM.cell H37.out 0 rfl 0 rfl
          have qf0 := LM.free H37.out 0 rfl 0
          go_wp2
          have H38 : Aside0 (LM w (w37.setCell ⟨pb, 0, none⟩ (.slice A35 Xb.length k35)) g l [(pb, #[.slice A35 Xb.length k35], 39), (pa, #[.slice A34 Xa.length k34], 39), (bc, #[.int .i64 S, .int .i64 W, .int .i64 L], 26), (w.heap.size, #[.slice Ar xr.length cr], 39)] [.s3 (.slice A35 Xb.length k35) Xb, .s3 (.slice A34 Xa.length k34) Xa]) := ⟨LM.put H37.out 0 rfl 0 (.slice A35 Xb.length k35)⟩
          generalize (w37.setCell ⟨pb, 0, none⟩ (.slice A35 Xb.length k35)) = w38 at *
          clear qc0 qf0
          refine ⟨(by first | exact fun _ => ⟨LM.cell H38.out 2 rfl 0 rfl, LM.cell H38.out 2 rfl 1 rfl, LM.cell H38.out 2 rfl 2 rfl⟩ | exact ⟨LM.cell H38.out 2 rfl 0 rfl, LM.cell H38.out 2 rfl 1 rfl, LM.cell H38.out 2 rfl 2 rfl⟩), ?_⟩
          refine ⟨by kernel_rfl, ?_⟩
          go_wp2_with fail
          go_meet
          case rel => exact ⟨_, _, _, _, _, _, _, _, rfl, rfl, ⟨HVXa.out, HVXb.out, H38.out⟩⟩
        · skip
          go_wp2
          have H39 := Aside0.mk (LM.newB H34.out #[.slice none 0 0] 39 (by unfold BoxT; decide))
          generalize w34.heap.size = pb at *
          generalize w34.alloc (.cells #[.slice none 0 0] 39) = w39 at *
          refine ⟨(by first | exact fun _ => ⟨LM.cell H39.out 2 rfl 0 rfl, LM.cell H39.out 2 rfl 1 rfl, LM.cell H39.out 2 rfl 2 rfl⟩ | exact ⟨LM.cell H39.out 2 rfl 0 rfl, LM.cell H39.out 2 rfl 1 rfl, LM.cell H39.out 2 rfl 2 rfl⟩), ?_⟩
          refine HeldTill.next (j := 5) (n := 2) (by kernel_rfl) rfl ?_
          go_wp2_with (go_at_call 22; (with_reducible refine (LM.must HC.out H39.out).mono ?_); rintro e w40 ⟨A40, k40, Xb, rfl, hV, hL⟩; have HVXb := Aside0.mk hV; have H40 := Aside0.mk hL; clear hV hL)
          refine ⟨(by first | exact fun _ => ⟨LM.cell H40.out 2 rfl 0 rfl, LM.cell H40.out 2 rfl 1 rfl, LM.cell H40.out 2 rfl 2 rfl⟩ | exact ⟨LM.cell H40.out 2 rfl 0 rfl, LM.cell H40.out 2 rfl 1 rfl, LM.cell H40.out 2 rfl 2 rfl⟩), ?_⟩
          refine HeldTill.next (j := 8) (n := 1) (by kernel_rfl) rfl ?_
          have qc0 := LM.cell H40.out 1 rfl 0 rfl
          have qf0 := LM.free H40.out 1 rfl 0
          go_wp2
          have H41 : Aside0 (LM w (w40.setCell ⟨pa, 0, none⟩ (.slice A34 Xa.length k34)) g l [(pb, #[.slice none 0 0], 39), (pa, #[.slice A34 Xa.length k34], 39), (bc, #[.int .i64 S, .int .i64 W, .int .i64 L], 26), (w.heap.size, #[.slice Ar xr.length cr], 39)] [.s3 (.slice A40 Xb.length k40) Xb, .s3 (.slice A34 Xa.length k34) Xa]) := ⟨LM.put H40.out 1 rfl 0 (.slice A34 Xa.length k34)⟩
          generalize (w40.setCell ⟨pa, 0, none⟩ (.slice A34 Xa.length k34)) = w41 at *
          clear qc0 qf0
          refine ⟨(by first | exact fun _ => ⟨LM.cell H41.out 2 rfl 0 rfl, LM.cell H41.out 2 rfl 1 rfl, LM.cell H41.out 2 rfl 2 rfl⟩ | exact ⟨LM.cell H41.out 2 rfl 0 rfl, LM.cell H41.out 2 rfl 1 rfl, LM.cell H41.out 2 rfl 2 rfl⟩), ?_⟩
          refine HeldTill.next (j := 9) (n := 0) (by kernel_rfl) rfl ?_
          have qc0 := LM.cell H41.out 0 rfl 0 rfl
          have qf0 := LM.free H41.out 0 rfl 0
          go_wp2
          have H42 : Aside0 (LM w (w41.setCell ⟨pb, 0, none⟩ (.slice A40 Xb.length k40)) g l [(pb, #[.slice A40 Xb.length k40], 39), (pa, #[.slice A34 Xa.length k34], 39), (bc, #[.int .i64 S, .int .i64 W, .int .i64 L], 26), (w.heap.size, #[.slice Ar xr.length cr], 39)] [.s3 (.slice A40 Xb.length k40) Xb, .s3 (.slice A34 Xa.length k34) Xa]) := ⟨LM.put H41.out 0 rfl 0 (.slice A40 Xb.length k40)⟩
          generalize (w41.setCell ⟨pb, 0, none⟩ (.slice A40 Xb.length k40)) = w42 at *
          clear qc0 qf0
          refine ⟨(by first | exact fun _ => ⟨LM.cell H42.out 2 rfl 0 rfl, LM.cell H42.out 2 rfl 1 rfl, LM.cell H42.out 2 rfl 2 rfl⟩ | exact ⟨LM.cell H42.out 2 rfl 0 rfl, LM.cell H42.out 2 rfl 1 rfl, LM.cell H42.out 2 rfl 2 rfl⟩), ?_⟩
          refine ⟨by kernel_rfl, ?_⟩
          go_wp2_with fail
          go_meet
          case rel => exact ⟨_, _, _, _, _, _, _, _, rfl, rfl, ⟨HVXa.out, HVXb.out, H42.out⟩⟩
      · skip
        go_wp2
        have H43 := Aside0.mk (LM.newB H33.out #[.slice none 0 0] 39 (by unfold BoxT; decide))
        generalize w33.heap.size = pb at *
        generalize w33.alloc (.cells #[.slice none 0 0] 39) = w43 at *
        refine ⟨(by first | exact fun _ => ⟨LM.cell H43.out 2 rfl 0 rfl, LM.cell H43.out 2 rfl 1 rfl, LM.cell H43.out 2 rfl 2 rfl⟩ | exact ⟨LM.cell H43.out 2 rfl 0 rfl, LM.cell H43.out 2 rfl 1 rfl, LM.cell H43.out 2 rfl 2 rfl⟩), ?_⟩
        refine HeldTill.next (j := 2) (n := 3) (by kernel_rfl) rfl ?_
        go_wp2_with (go_at_call 22; (with_reducible refine (LM.must HC.out H43.out).mono ?_); rintro e w44 ⟨A44, k44, Xa, rfl, hV, hL⟩; have HVXa := Aside0.mk hV; have H44 := Aside0.mk hL; clear hV hL)
        refine ⟨(by first | exact fun _ => ⟨LM.cell H44.out 2 rfl 0 rfl, LM.cell H44.out 2 rfl 1 rfl, LM.cell H44.out 2 rfl 2 rfl⟩ | exact ⟨LM.cell H44.out 2 rfl 0 rfl, LM.cell H44.out 2 rfl 1 rfl, LM.cell H44.out 2 rfl 2 rfl⟩), ?_⟩
        refine HeldTill.next (j := 5) (n := 2) (by kernel_rfl) rfl ?_
        go_wp2_with (go_at_call 22; (with_reducible refine (LM.must HC.out H44.out).mono ?_); rintro e w45 ⟨A45, k45, Xb, rfl, hV, hL⟩; have HVXb := Aside0.mk hV; have H45 := Aside0.mk hL; clear hV hL)
        refine ⟨(by first | exact fun _ => ⟨LM.cell H45.out 2 rfl 0 rfl, LM.cell H45.out 2 rfl 1 rfl, LM.cell H45.out 2 rfl 2 rfl⟩ | exact ⟨LM.cell H45.out 2 rfl 0 rfl, LM.cell H45.out 2 rfl 1 rfl, LM.cell H45.out 2 rfl 2 rfl⟩), ?_⟩
        refine HeldTill.next (j := 8) (n := 1) (by kernel_rfl) rfl ?_
        have qc0 := LM.cell H45.out 1 rfl 0 rfl
        have qf0 := LM.free H45.out 1 rfl 0
        go_wp2
        have H46 : Aside0 (LM w (w45.setCell ⟨pa, 0, none⟩ (.slice A44 Xa.length k44)) g l [(pb, #[.slice none 0 0], 39), (pa, #[.slice A44 Xa.length k44], 39), (bc, #[.int .i64 S, .int .i64 W, .int .i64 L], 26), (w.heap.size, #[.slice Ar xr.length cr], 39)] [.s3 (.slice A45 Xb.length k45) Xb, .s3 (.slice A44 Xa.length k44) Xa]) := ⟨LM.put H45.out 1 rfl 0 (.slice A44 Xa.length k44)⟩
        generalize (w45.setCell ⟨pa, 0, none⟩ (.slice A44 Xa.length k44)) = w46 at *
        clear qc0 qf0
        refine ⟨(by first | exact fun _ => ⟨LM.cell H46.out 2 rfl 0 rfl, LM.cell H46.out 2 rfl 1 rfl, LM.cell H46.out 2 rfl 2 rfl⟩ | exact ⟨LM.cell H46.out 2 rfl 0 rfl, LM.cell H46.out 2 rfl 1 rfl, LM.cell H46.out 2 rfl 2 rfl⟩), ?_⟩
        refine HeldTill.next (j := 9) (n := 0) (by kernel_rfl) rfl ?_
        have qc0 := LM.cell H46.out 0 rfl 0 rfl
        have qf0 := LM.free H46.out 0 rfl 0
        go_wp2
        have H47 : Aside0 (LM w (w46.setCell ⟨pb, 0, none⟩ (.slice A45 Xb.length k45)) g l [(pb, #[.slice A45 Xb.length k45], 39), (pa, #[.slice A44 Xa.length k44], 39), (bc, #[.int .i64 S, .int .i64 W, .int .i64 L], 26), (w.heap.size, #[.slice Ar xr.length cr], 39)] [.s3 (.slice A45 Xb.length k45) Xb, .s3 (.slice A44 Xa.length k44) Xa]) := ⟨LM.put H46.out 0 rfl 0 (.slice A45 Xb.length k45)⟩
        generalize (w46.setCell ⟨pb, 0, none⟩ (.slice A45 Xb.length k45)) = w47 at *
        clear qc0 qf0
        refine ⟨(by first | exact fun _ => ⟨LM.cell H47.out 2 rfl 0 rfl, LM.cell H47.out 2 rfl 1 rfl, LM.cell H47.out 2 rfl 2 rfl⟩ | exact ⟨LM.cell H47.out 2 rfl 0 rfl, LM.cell H47.out 2 rfl 1 rfl, LM.cell H47.out 2 rfl 2 rfl⟩), ?_⟩
        refine ⟨by kernel_rfl, ?_⟩
        go_wp2_with fail
        go_meet
        case rel => exact ⟨_, _, _, _, _, _, _, _, rfl, rfl, ⟨HVXa.out, HVXb.out, H47.out⟩⟩
    · skip
      go_wp2
      have H48 := Aside0.mk (LM.newB H4.out #[.slice none 0 0] 39 (by unfold BoxT; decide))
      generalize w4.heap.size = pb at *
      generalize w4.alloc (.cells #[.slice none 0 0] 39) = w48 at *
      refine ⟨(by first | exact fun _ => ⟨LM.cell H48.out 1 rfl 0 rfl, LM.cell H48.out 1 rfl 1 rfl, LM.cell H48.out 1 rfl 2 rfl⟩ | exact ⟨LM.cell H48.out 1 rfl 0 rfl, LM.cell H48.out 1 rfl 1 rfl, LM.cell H48.out 1 rfl 2 rfl⟩), ?_⟩
      refine HeldTill.br [2, 6] (by kernel_rfl) (by simp) ?_
      refine BrAll.cons rfl ?_ (BrAll.cons rfl ?_ (BrAll.nil))
      · skip
        go_wp2_with (go_at_call 22; (with_reducible refine (LM.must HC.out H48.out).mono ?_); rintro e w49 ⟨A49, k49, Xa, rfl, hV, hL⟩; have HVXa := Aside0.mk hV; have H49 := Aside0.mk hL; clear hV hL)
        refine ⟨(by first | exact fun _ => ⟨LM.cell H49.out 1 rfl 0 rfl, LM.cell H49.out 1 rfl 1 rfl, LM.cell H49.out 1 rfl 2 rfl⟩ | exact ⟨LM.cell H49.out 1 rfl 0 rfl, LM.cell H49.out 1 rfl 1 rfl, LM.cell H49.out 1 rfl 2 rfl⟩), ?_⟩
        refine HeldTill.br [5, 6] (by kernel_rfl) (by simp) ?_
        refine BrAll.cons rfl ?_ (BrAll.cons rfl ?_ (BrAll.nil))
        · skip
          go_wp2_with (go_at_call 22; (with_reducible refine (LM.must HC.out H49.out).mono ?_); rintro e w50 ⟨A50, k50, Xb, rfl, hV, hL⟩; have HVXb := Aside0.mk hV; have H50 := Aside0.mk hL; clear hV hL)
          refine ⟨(by first | exact fun _ => ⟨LM.cell H50.out 1 rfl 0 rfl, LM.cell H50.out 1 rfl 1 rfl, LM.cell H50.out 1 rfl 2 rfl⟩ | exact ⟨LM.cell H50.out 1 rfl 0 rfl, LM.cell H50.out 1 rfl 1 rfl, LM.cell H50.out 1 rfl 2 rfl⟩), ?_⟩
          refine HeldTill.next (j := 6) (n := 2) (by kernel_rfl) rfl ?_
          go_wp2
          have H51 := Aside0.mk (LM.newB H50.out #[.slice none 0 0] 39 (by unfold BoxT; decide))
          generalize w50.heap.size = pa at *
          generalize w50.alloc (.cells #[.slice none 0 0] 39) = w51 at *
          refine ⟨(by first | exact fun _ => ⟨LM.cell H51.out 2 rfl 0 rfl, LM.cell H51.out 2 rfl 1 rfl, LM.cell H51.out 2 rfl 2 rfl⟩ | exact ⟨LM.cell H51.out 2 rfl 0 rfl, LM.cell H51.out 2 rfl 1 rfl, LM.cell H51.out 2 rfl 2 rfl⟩), ?_⟩
          refine HeldTill.next (j := 8) (n := 1) (by kernel_rfl) rfl ?_
          have qc0 := LM.cell H51.out 0 rfl 0 rfl
          have qf0 := LM.free H51.out 0 rfl 0
          go_wp2
          have H52 : Aside0 (LM w (w51.setCell ⟨pa, 0, none⟩ (.slice A49 Xa.length k49)) g l [(pa, #[.slice A49 Xa.length k49], 39), (pb, #[.slice none 0 0], 39), (bc, #[.int .i64 S, .int .i64 W, .int .i64 L], 26), (w.heap.size, #[.slice Ar xr.length cr], 39)] [.s3 (.slice A50 Xb.length k50) Xb, .s3 (.slice A49 Xa.length k49) Xa]) := ⟨LM.put H51.out 0 rfl 0 (.slice A49 Xa.length k49)⟩
          generalize (w51.setCell ⟨pa, 0, none⟩ (.slice A49 Xa.length k49)) = w52 at *
          clear qc0 qf0
          refine ⟨(by first | exact fun _ => ⟨LM.cell H52.out 2 rfl 0 rfl, LM.cell H52.out 2 rfl 1 rfl, LM.cell H52.out 2 rfl 2 rfl⟩ | exact ⟨LM.cell H52.out 2 rfl 0 rfl, LM.cell H52.out 2 rfl 1 rfl, LM.cell H52.out 2 rfl 2 rfl⟩), ?_⟩
          refine HeldTill.next (j := 9) (n := 0) (by kernel_rfl) rfl ?_
          have qc0 := LM.cell H52.out 1 rfl 0 rfl
          have qf0 := LM.free H52.out 1 rfl 0
          go_wp2
          have H53 : Aside0 (LM w (w52.setCell ⟨pb, 0, none⟩ (.slice A50 Xb.length k50)) g l [(pa, #[.slice A49 Xa.length k49], 39), (pb, #[.slice A50 Xb.length k50], 39), (bc, #[.int .i64 S, .int .i64 W, .int .i64 L], 26), (w.heap.size, #[.slice Ar xr.length cr], 39)] [.s3 (.slice A50 Xb.length k50) Xb, .s3 (.slice A49 Xa.length k49) Xa]) := ⟨LM.put H52.out 1 rfl 0 (.slice A50 Xb.length k50)⟩
          generalize (w52.setCell ⟨pb, 0, none⟩ (.slice A50 Xb.length k50)) = w53 at *
          clear qc0 qf0
          refine ⟨(by first | exact fun _ => ⟨LM.cell H53.out 2 rfl 0 rfl, LM.cell H53.out 2 rfl 1 rfl, LM.cell H53.out 2 rfl 2 rfl⟩ | exact ⟨LM.cell H53.out 2 rfl 0 rfl, LM.cell H53.out 2 rfl 1 rfl, LM.cell H53.out 2 rfl 2 rfl⟩), ?_⟩
          refine ⟨by kernel_rfl, ?_⟩
          go_wp2_with fail
          go_meet
          case rel => exact ⟨_, _, _, _, _, _, _, _, rfl, rfl, ⟨HVXa.out, HVXb.out, LM.swap H53.out⟩⟩
        · skip
          go_wp2
          have H54 := Aside0.mk (LM.newB H49.out #[.slice none 0 0] 39 (by unfold BoxT; decide))
          generalize w49.heap.size = pa at *
          generalize w49.alloc (.cells #[.slice none 0 0] 39) = w54 at *
          refine ⟨(by first | exact fun _ => ⟨LM.cell H54.out 2 rfl 0 rfl, LM.cell H54.out 2 rfl 1 rfl, LM.cell H54.out 2 rfl 2 rfl⟩ | exact ⟨LM.cell H54.out 2 rfl 0 rfl, LM.cell H54.out 2 rfl 1 rfl, LM.cell H54.out 2 rfl 2 rfl⟩), ?_⟩
          refine HeldTill.next (j := 5) (n := 2) (by kernel_rfl) rfl ?_
          go_wp2_with (go_at_call 22; (with_reducible refine (LM.must HC.out H54.out).mono ?_); rintro e w55 ⟨A55, k55, Xb, rfl, hV, hL⟩; have HVXb := Aside0.mk hV; have H55 := Aside0.mk hL; clear hV hL)
          refine ⟨(by first | exact fun _ => ⟨LM.cell H55.out 2 rfl 0 rfl, LM.cell H55.out 2 rfl 1 rfl, LM.cell H55.out 2 rfl 2 rfl⟩ | exact ⟨LM.cell H55.out 2 rfl 0 rfl, LM.cell H55.out 2 rfl 1 rfl, LM.cell H55.out 2 rfl 2 rfl⟩), ?_⟩
          refine HeldTill.next (j := 8) (n := 1) (by kernel_rfl) rfl ?_
          have qc0 := LM.cell H55.out 0 rfl 0 rfl
          have qf0 := LM.free H55.out 0 rfl 0
          go_wp2
          have H56 : Aside0 (LM w (w55.setCell ⟨pa, 0, none⟩ (.slice A49 Xa.length k49)) g l [(pa, #[.slice A49 Xa.length k49], 39), (pb, #[.slice none 0 0], 39), (bc, #[.int .i64 S, .int .i64 W, .int .i64 L], 26), (w.heap.size, #[.slice Ar xr.length cr], 39)] [.s3 (.slice A55 Xb.length k55) Xb, .s3 (.slice A49 Xa.length k49) Xa]) := ⟨LM.put H55.out 0 rfl 0 (.slice A49 Xa.length k49)⟩
          generalize (w55.setCell ⟨pa, 0, none⟩ (.slice A49 Xa.length k49)) = w56 at *
          clear qc0 qf0
          refine ⟨(by first | exact fun _ => ⟨LM.cell H56.out 2 rfl 0 rfl, LM.cell H56.out 2 rfl 1 rfl, LM.cell H56.out 2 rfl 2 rfl⟩ | exact ⟨LM.cell H56.out 2 rfl 0 rfl, LM.cell H56.out 2 rfl 1 rfl, LM.cell H56.out 2 rfl 2 rfl⟩), ?_⟩
          refine HeldTill.next (j := 9) (n := 0) (by kernel_rfl) rfl ?_
          have qc0 := LM.cell H56.out 1 rfl 0 rfl
          have qf0 := LM.free H56.out 1 rfl 0
          go_wp2
          have H57 : Aside0 (LM w (w56.setCell ⟨pb, 0, none⟩ (.slice A55 Xb.length k55)) g l [(pa, #[.slice A49 Xa.length k49], 39), (pb, #[.slice A55 Xb.length k55], 39), (bc, #[.int .i64 S, .int .i64 W, .int .i64 L], 26), (w.heap.size, #[.slice Ar xr.length cr], 39)] [.s3 (.slice A55 Xb.length k55) Xb, .s3 (.slice A49 Xa.length k49) Xa]) := ⟨LM.put H56.out 1 rfl 0 (.slice A55 Xb.length k55)⟩
          generalize (w56.setCell ⟨pb, 0, none⟩ (.slice A55 Xb.length k55)) = w57 at *
          clear qc0 qf0
          refine ⟨(by first | exact fun _ => ⟨LM.cell H57.out 2 rfl 0 rfl, LM.cell H57.out 2 rfl 1 rfl, LM.cell H57.out 2 rfl 2 rfl⟩ | exact ⟨LM.cell H57.out 2 rfl 0 rfl, LM.cell H57.out 2 rfl 1 rfl, LM.cell H57.out 2 rfl 2 rfl⟩), ?_⟩
          refine ⟨by kernel_rfl, ?_⟩
          go_wp2_with fail
          go_meet
          case rel => exact ⟨_, _, _, _, _, _, _, _, rfl, rfl, ⟨HVXa.out, HVXb.out, LM.swap H57.out⟩⟩
      · skip
        go_wp2
        have H58 := Aside0.mk (LM.newB H48.out #[.slice none 0 0] 39 (by unfold BoxT; decide))
        generalize w48.heap.size = pa at *
        generalize w48.alloc (.cells #[.slice none 0 0] 39) = w58 at *
        refine ⟨(by first | exact fun _ => ⟨LM.cell H58.out 2 rfl 0 rfl, LM.cell H58.out 2 rfl 1 rfl, LM.cell H58.out 2 rfl 2 rfl⟩ | exact ⟨LM.cell H58.out 2 rfl 0 rfl, LM.cell H58.out 2 rfl 1 rfl, LM.cell H58.out 2 rfl 2 rfl⟩), ?_⟩
        refine HeldTill.next (j := 2) (n := 3) (by kernel_rfl) rfl ?_
        go_wp2_with (go_at_call 22; (with_reducible refine (LM.must HC.out H58.out).mono ?_); rintro e w59 ⟨A59, k59, Xa, rfl, hV, hL⟩; have HVXa := Aside0.mk hV; have H59 := Aside0.mk hL; clear hV hL)
        refine ⟨(by first | exact fun _ => ⟨LM.cell H59.out 2 rfl 0 rfl, LM.cell H59.out 2 rfl 1 rfl, LM.cell H59.out 2 rfl 2 rfl⟩ | exact ⟨LM.cell H59.out 2 rfl 0 rfl, LM.cell H59.out 2 rfl 1 rfl, LM.cell H59.out 2 rfl 2 rfl⟩), ?_⟩
        refine HeldTill.next (j := 5) (n := 2) (by kernel_rfl) rfl ?_
        go_wp2_with (go_at_call 22; (with_reducible refine (LM.must HC.out H59.out).mono ?_); rintro e w60 ⟨A60, k60, Xb, rfl, hV, hL⟩; have HVXb := Aside0.mk hV; have H60 := Aside0.mk hL; clear hV hL)
        refine ⟨(by first | exact fun _ => ⟨LM.cell H60.out 2 rfl 0 rfl, LM.cell H60.out 2 rfl 1 rfl, LM.cell H60.out 2 rfl 2 rfl⟩ | exact ⟨LM.cell H60.out 2 rfl 0 rfl, LM.cell H60.out 2 rfl 1 rfl, LM.cell H60.out 2 rfl 2 rfl⟩), ?_⟩
        refine HeldTill.next (j := 8) (n := 1) (by kernel_rfl) rfl ?_
        have qc0 := LM.cell H60.out 0 rfl 0 rfl
        have qf0 := LM.free H60.out 0 rfl 0
        go_wp2
        have H61 : Aside0 (LM w (w60.setCell ⟨pa, 0, none⟩ (.slice A59 Xa.length k59)) g l [(pa, #[.slice A59 Xa.length k59], 39), (pb, #[.slice none 0 0], 39), (bc, #[.int .i64 S, .int .i64 W, .int .i64 L], 26), (w.heap.size, #[.slice Ar xr.length cr], 39)] [.s3 (.slice A60 Xb.length k60) Xb, .s3 (.slice A59 Xa.length k59) Xa]) := ⟨LM.put H60.out 0 rfl 0 (.slice A59 Xa.length k59)⟩
        generalize (w60.setCell ⟨pa, 0, none⟩ (.slice A59 Xa.length k59)) = w61 at *
        clear qc0 qf0
        refine ⟨(by first | exact fun _ => ⟨LM.cell H61.out 2 rfl 0 rfl, LM.cell H61.out 2 rfl 1 rfl, LM.cell H61.out 2 rfl 2 rfl⟩ | exact ⟨LM.cell H61.out 2 rfl 0 rfl, LM.cell H61.out 2 rfl 1 rfl, LM.cell H61.out 2 rfl 2 rfl⟩), ?_⟩
        refine HeldTill.next (j := 9) (n := 0) (by kernel_rfl) rfl ?_
        have qc0 := LM.cell H61.out 1 rfl 0 rfl
        have qf0 := LM.free H61.out 1 rfl 0
        go_wp2
        have H62 : Aside0 (LM w (w61.setCell ⟨pb, 0, none⟩ (.slice A60 Xb.length k60)) g l [(pa, #[.slice A59 Xa.length k59], 39), (pb, #[.slice A60 Xb.length k60], 39), (bc, #[.int .i64 S, .int .i64 W, .int .i64 L], 26), (w.heap.size, #[.slice Ar xr.length cr], 39)] [.s3 (.slice A60 Xb.length k60) Xb, .s3 (.slice A59 Xa.length k59) Xa]) := ⟨LM.put H61.out 1 rfl 0 (.slice A60 Xb.length k60)⟩
        generalize (w61.setCell ⟨pb, 0, none⟩ (.slice A60 Xb.length k60)) = w62 at *
        clear qc0 qf0
        refine ⟨(by first | exact fun _ => ⟨LM.cell H62.out 2 rfl 0 rfl, LM.cell H62.out 2 rfl 1 rfl, LM.cell H62.out 2 rfl 2 rfl⟩ | exact ⟨LM.cell H62.out 2 rfl 0 rfl, LM.cell H62.out 2 rfl 1 rfl, LM.cell H62.out 2 rfl 2 rfl⟩), ?_⟩
        refine ⟨by kernel_rfl, ?_⟩
        go_wp2_with fail
        go_meet
        case rel => exact ⟨_, _, _, _, _, _, _, _, rfl, rfl, ⟨HVXa.out, HVXb.out, LM.swap H62.out⟩⟩
  case rest =>
    obtain ⟨pa, pb, Aa, ka, Ab, kb, Xa, Xb, rfl, rfl, HE⟩ := hcut
    have HVa := Aside0.mk HE.out.1
    have HVb := Aside0.mk HE.out.2.1
    have Hr := Aside0.mk HE.out.2.2
    clear HE H3
    go_upto_region 5 with (first | (go_at_call 28; (with_reducible refine (LM.line Hr.out).mono ?_); rintro e w63 ⟨n, rfl, hn, hL⟩; have H63 := Aside0.mk hL; clear hL) | (go_at_call 38; (with_reducible refine (LM.few H63.out).mono ?_); rintro e w64 ⟨Af, cf, ls, rfl, hlr, hr3, hL⟩; have H64 := Aside0.mk hL; have HLS := Aside0.mk hlr; clear hL hlr))
    go_upto_region 6 with (first | (go_at_call 24; (with_reducible refine (LM.mod H64.out x).mono ?_); rintro e w65 ⟨v, rfl, hv, hL⟩; have H65 := Aside0.mk hL; clear hL))
    have H66 := Aside0.mk (LM.pair H65.out (n : Int) (v : Int))
    generalize w65.heap.size = pl at *
    generalize w65.alloc (.cells #[.int .i64 n, .int .i64 v] 3) = w66 at *
    go_loopw [35] (fun v35 wr => ∃ j : Nat, j ≤ 2 ∧ v35 = .int .i64 j ∧ Aside0 (LM w wr g l [(pb, #[.slice Ab Xb.length kb], 39), (pa, #[.slice Aa Xa.length ka], 39), (bc, #[.int .i64 S, .int .i64 W, .int .i64 L], 26), (w.heap.size, #[.slice Ar xr.length cr], 39)] [.s1 (.slice (some ⟨pl, 0, none⟩) 2 2) [(n : Int), (v : Int)], .s1 (.slice Af ls.length cf) ls, .s3 (.slice Ab Xb.length kb) Xb, .s3 (.slice Aa Xa.length ka) Xa])) (fun v35 _ => 2 - (RowKit.intOf v35).toNat)
    case atStart => exact ⟨0, by omega, rfl, H66⟩
    case round =>
      clear H66
      obtain ⟨j, hj, rfl, HE⟩ := hrel
      by_cases hlt : j < 2
      · have g0 : decide ((j : Int) < 2) = true := decide_eq_true (by omega)
        have hcl := (T1.cell (HE.out.th 0 rfl).choose_spec (i := j) (by simpa using hlt)).1
        obtain ⟨kk, hkk, hk20⟩ : ∃ kk : Nat, [(n : Int), (v : Int)].getD j 0 = (kk : Int) ∧ kk ≤ 1048576 := by
          have hj2 : j = 0 ∨ j = 1 := by omega
          rcases hj2 with rfl | rfl
          · exact ⟨n, rfl, hn⟩
          · exact ⟨v, rfl, hv⟩
        rw [hkk] at hcl
        clear hkk
        go_upto_region 8 with (fail)
        clear hcl
        have hfd := field39
        have HVt := Aside0.mk (HVa.out.touch hk20)
        have hne : (((ageM S W Xa kk : Nat) : Int) != ((ageM S W Xa kk : Nat) : Int)) = false := by simp
        have HAGE := Aside0.mk (fun w1 Tx Bx i A k (h : LM w w1 g l Bx Tx) (hi : Tx[i]? = some (.s3 (.slice A Xa.length k) Xa)) => LM.age HC.out h i hi HVa.out.fit kk)
        have HRAGE := Aside0.mk (fun w1 Tx Bx i A k (h : LM w w1 g l Bx Tx) (hi : Tx[i]? = some (.s3 (.slice A Xa.length k) Xa)) => LM.rage HC.out h i hi HVa.out.fit kk)
        generalize ageM S W Xa kk = am at *
        have Hd := Aside0.mk (LM.drew HE.out)
        refine HeldTill.begin_ (S := fun (w' : World) => w'.cell? ⟨bc, 0, none⟩ = some (.int .i64 S) ∧ w'.cell? ⟨bc, 1, none⟩ = some (.int .i64 W) ∧ w'.cell? ⟨bc, 2, none⟩ = some (.int .i64 L) ∧ w'.cell? ⟨pa, 0, none⟩ = some (.slice Aa Xa.length ka)) (F := fun _ => true) (by kernel_rfl) ?_
        have hSq0 : (fun (w' : World) => w'.cell? ⟨bc, 0, none⟩ = some (.int .i64 S) ∧ w'.cell? ⟨bc, 1, none⟩ = some (.int .i64 W) ∧ w'.cell? ⟨bc, 2, none⟩ = some (.int .i64 L) ∧ w'.cell? ⟨pa, 0, none⟩ = some (.slice Aa Xa.length ka)) wr.drew := ⟨LM.cell Hd.out 2 rfl 0 rfl, LM.cell Hd.out 2 rfl 1 rfl, LM.cell Hd.out 2 rfl 2 rfl, LM.cell Hd.out 1 rfl 0 rfl⟩
        refine HeldTill.take (i := 0) (n := 22) (v := ?_) rfl (by kernel_rfl) (by kernel_rfl) (by kernel_rfl) (by kernel_rfl) (fun _ _ _ h => h) (Or.inl ⟨by rfl, ?_⟩) hSq0 ?_
        rotate_left
        · intro w hSw; (try dsimp only at hSw); go_simp; (try with_reducible rfl)
        simp only [Act.put, List.setIfInBounds_toArray, List.set_cons_zero, List.set_cons_succ, List.getElem_toArray, List.getElem_cons_zero, List.getElem_cons_succ]
        refine HeldTill.take (i := 1) (n := 21) (v := ?_) rfl (by kernel_rfl) (by kernel_rfl) (by kernel_rfl) (by kernel_rfl) (fun _ _ _ h => h) (Or.inl ⟨by rfl, ?_⟩) hSq0 ?_
        rotate_left
        · intro w hSw; (try dsimp only at hSw); go_simp; (try with_reducible rfl)
        simp only [Act.put, List.setIfInBounds_toArray, List.set_cons_zero, List.set_cons_succ, List.getElem_toArray, List.getElem_cons_zero, List.getElem_cons_succ]
        refine HeldTill.take (i := 2) (n := 20) (v := ?_) rfl (by kernel_rfl) (by kernel_rfl) (by kernel_rfl) (by kernel_rfl) (fun _ _ _ h => h) (Or.inl ⟨by rfl, ?_⟩) hSq0 ?_
        rotate_left
        · intro w hSw; (try dsimp only at hSw); go_simp; (try with_reducible rfl)
        simp only [Act.put, List.setIfInBounds_toArray, List.set_cons_zero, List.set_cons_succ, List.getElem_toArray, List.getElem_cons_zero, List.getElem_cons_succ]
        refine HeldTill.take (i := 4) (n := 19) (v := ?_) rfl (by kernel_rfl) (by kernel_rfl) (by kernel_rfl) (by kernel_rfl) (fun _ _ _ h => h) (Or.inl ⟨by rfl, ?_⟩) hSq0 ?_
        rotate_left
        · intro w hSw; (try dsimp only at hSw); go_simp; (try with_reducible rfl)
        simp only [Act.put, List.setIfInBounds_toArray, List.set_cons_zero, List.set_cons_succ, List.getElem_toArray, List.getElem_cons_zero, List.getElem_cons_succ]
        refine HeldTill.take (i := 5) (n := 18) (v := ?_) rfl (by kernel_rfl) (by kernel_rfl) (by kernel_rfl) (by kernel_rfl) (fun _ _ _ h => h) (Or.inl ⟨by rfl, ?_⟩) hSq0 ?_
        rotate_left
        · intro w hSw; (try dsimp only at hSw); go_simp; (try with_reducible rfl)
        simp only [Act.put, List.setIfInBounds_toArray, List.set_cons_zero, List.set_cons_succ, List.getElem_toArray, List.getElem_cons_zero, List.getElem_cons_succ]
        refine HeldTill.take (i := 6) (n := 17) (v := ?_) rfl (by kernel_rfl) (by kernel_rfl) (by kernel_rfl) (by kernel_rfl) (fun _ _ _ h => h) (Or.inl ⟨by rfl, ?_⟩) hSq0 ?_
        rotate_left
        · intro w hSw; (try dsimp only at hSw); go_simp; (try with_reducible rfl)
        simp only [Act.put, List.setIfInBounds_toArray, List.set_cons_zero, List.set_cons_succ, List.getElem_toArray, List.getElem_cons_zero, List.getElem_cons_succ]
        refine HeldTill.next (j := 3) (n := 16) (by kernel_rfl) rfl ?_
        go_wp2_with (go_at_call 30; (with_reducible refine (HAGE.out _ _ _ 3 _ _ Hd.out rfl).mono ?_); rintro e w61 ⟨rfl, hL⟩; have H61 := Aside0.mk hL; clear hL)
        have hSq1 : (fun (w' : World) => w'.cell? ⟨bc, 0, none⟩ = some (.int .i64 S) ∧ w'.cell? ⟨bc, 1, none⟩ = some (.int .i64 W) ∧ w'.cell? ⟨bc, 2, none⟩ = some (.int .i64 L) ∧ w'.cell? ⟨pa, 0, none⟩ = some (.slice Aa Xa.length ka)) _ := ⟨LM.cell H61.out 2 rfl 0 rfl, LM.cell H61.out 2 rfl 1 rfl, LM.cell H61.out 2 rfl 2 rfl, LM.cell H61.out 1 rfl 0 rfl⟩
        refine ⟨fun _ => hSq1, ?_⟩
        refine HeldTill.next (j := 7) (n := 15) (by kernel_rfl) rfl ?_
        go_wp2_with (go_at_call 43; (with_reducible refine (HRAGE.out _ _ _ 3 _ _ H61.out rfl).mono ?_); rintro e w62 ⟨rfl, hL⟩; have H62 := Aside0.mk hL; clear hL)
        have hSq2 : (fun (w' : World) => w'.cell? ⟨bc, 0, none⟩ = some (.int .i64 S) ∧ w'.cell? ⟨bc, 1, none⟩ = some (.int .i64 W) ∧ w'.cell? ⟨bc, 2, none⟩ = some (.int .i64 L) ∧ w'.cell? ⟨pa, 0, none⟩ = some (.slice Aa Xa.length ka)) _ := ⟨LM.cell H62.out 2 rfl 0 rfl, LM.cell H62.out 2 rfl 1 rfl, LM.cell H62.out 2 rfl 2 rfl, LM.cell H62.out 1 rfl 0 rfl⟩
        refine ⟨fun _ => hSq2, ?_⟩
        refine HeldTill.take (i := 8) (n := 14) (v := ?_) rfl (by kernel_rfl) (by kernel_rfl) (by kernel_rfl) (by kernel_rfl) (fun _ _ _ h => h) (Or.inl ⟨by rfl, ?_⟩) hSq2 ?_
        rotate_left
        · intro w hSw; (try dsimp only at hSw); go_simp; (try with_reducible rfl)
        simp only [Act.put, List.setIfInBounds_toArray, List.set_cons_zero, List.set_cons_succ, List.getElem_toArray, List.getElem_cons_zero, List.getElem_cons_succ]
        refine HeldTill.take (i := 9) (n := 13) (v := ?_) rfl (by kernel_rfl) (by kernel_rfl) (by kernel_rfl) (by kernel_rfl) (fun _ _ _ h => h) (Or.inl ⟨by rfl, ?_⟩) hSq2 ?_
        rotate_left
        · intro w hSw; (try dsimp only at hSw); go_simp; (try with_reducible rfl)
        simp only [Act.put, List.setIfInBounds_toArray, List.set_cons_zero, List.set_cons_succ, List.getElem_toArray, List.getElem_cons_zero, List.getElem_cons_succ]
        refine HeldTill.take (i := 10) (n := 12) (v := ?_) rfl (by kernel_rfl) (by kernel_rfl) (by kernel_rfl) (by kernel_rfl) (fun _ _ _ h => h) (Or.inl ⟨by rfl, ?_⟩) hSq2 ?_
        rotate_left
        · intro w hSw; (try dsimp only at hSw); go_simp; (try with_reducible rfl)
        simp only [Act.put, List.setIfInBounds_toArray, List.set_cons_zero, List.set_cons_succ, List.getElem_toArray, List.getElem_cons_zero, List.getElem_cons_succ]
        refine HeldTill.take (i := 11) (n := 11) (v := ?_) rfl (by kernel_rfl) (by kernel_rfl) (by kernel_rfl) (by kernel_rfl) (fun _ _ _ h => h) (Or.inl ⟨by rfl, ?_⟩) hSq2 ?_
        rotate_left
        · intro w hSw; (try dsimp only at hSw); go_simp; (try with_reducible rfl)
        simp only [Act.put, List.setIfInBounds_toArray, List.set_cons_zero, List.set_cons_succ, List.getElem_toArray, List.getElem_cons_zero, List.getElem_cons_succ]
        refine HeldTill.take (i := 12) (n := 10) (v := ?_) rfl (by kernel_rfl) (by kernel_rfl) (by kernel_rfl) (by kernel_rfl) (fun _ _ _ h => h) (Or.inl ⟨by rfl, ?_⟩) hSq2 ?_
        rotate_left
        · intro w hSw; (try dsimp only at hSw); go_simp; (try with_reducible rfl)
        simp only [Act.put, List.setIfInBounds_toArray, List.set_cons_zero, List.set_cons_succ, List.getElem_toArray, List.getElem_cons_zero, List.getElem_cons_succ]
        refine HeldTill.take (i := 15) (n := 9) (v := ?_) rfl (by kernel_rfl) (by kernel_rfl) (by kernel_rfl) (by kernel_rfl) (fun _ _ _ h => h) (Or.inl ⟨by rfl, ?_⟩) hSq2 ?_
        rotate_left
        · intro w hSw; (try dsimp only at hSw); go_simp; (try with_reducible rfl)
        simp only [Act.put, List.setIfInBounds_toArray, List.set_cons_zero, List.set_cons_succ, List.getElem_toArray, List.getElem_cons_zero, List.getElem_cons_succ]
        refine HeldTill.take (i := 16) (n := 8) (v := ?_) rfl (by kernel_rfl) (by kernel_rfl) (by kernel_rfl) (by kernel_rfl) (fun _ _ _ h => h) (Or.inl ⟨by rfl, ?_⟩) hSq2 ?_
        rotate_left
        · intro w hSw; (try dsimp only at hSw); go_simp; (try with_reducible rfl)
        simp only [Act.put, List.setIfInBounds_toArray, List.set_cons_zero, List.set_cons_succ, List.getElem_toArray, List.getElem_cons_zero, List.getElem_cons_succ]
        refine HeldTill.take (i := 17) (n := 7) (v := ?_) rfl (by kernel_rfl) (by kernel_rfl) (by kernel_rfl) (by kernel_rfl) (fun _ _ _ h => h) (Or.inl ⟨by rfl, ?_⟩) hSq2 ?_
        rotate_left
        · intro w hSw; (try dsimp only at hSw); go_simp; (try with_reducible rfl)
        simp only [Act.put, List.setIfInBounds_toArray, List.set_cons_zero, List.set_cons_succ, List.getElem_toArray, List.getElem_cons_zero, List.getElem_cons_succ]
        refine HeldTill.next (j := 13) (n := 6) (by kernel_rfl) rfl ?_
        go_wp2_with (go_at_call 29; (with_reducible refine (LM.touch HC.out H62.out 3 rfl HVa.out.fit kk).mono ?_); rintro e w63 ⟨A63, k63, rfl, hL⟩; have H63 := Aside0.mk hL; clear hL)
        have hSq3 : (fun (w' : World) => w'.cell? ⟨bc, 0, none⟩ = some (.int .i64 S) ∧ w'.cell? ⟨bc, 1, none⟩ = some (.int .i64 W) ∧ w'.cell? ⟨bc, 2, none⟩ = some (.int .i64 L) ∧ w'.cell? ⟨pa, 0, none⟩ = some (.slice Aa Xa.length ka)) _ := ⟨LM.cell H63.out 2 rfl 0 rfl, LM.cell H63.out 2 rfl 1 rfl, LM.cell H63.out 2 rfl 2 rfl, LM.cell H63.out 1 rfl 0 rfl⟩
        refine ⟨fun _ => hSq3, ?_⟩
        refine HeldTill.take (i := 14) (n := 5) (v := ?_) rfl (by kernel_rfl) (by kernel_rfl) (by kernel_rfl) (by kernel_rfl) (fun _ _ _ h => h) (Or.inl ⟨by rfl, ?_⟩) hSq3 ?_
        rotate_left
        · intro w hSw; (try dsimp only at hSw); go_simp; (try with_reducible rfl)
        simp only [Act.put, List.setIfInBounds_toArray, List.set_cons_zero, List.set_cons_succ, List.getElem_toArray, List.getElem_cons_zero, List.getElem_cons_succ]
        refine HeldTill.next (j := 18) (n := 4) (by kernel_rfl) rfl ?_
        go_wp2_with (go_at_call 44; (with_reducible refine (LM.rtouch HC.out H63.out 4 rfl HVa.out.fit kk).mono ?_); rintro e w64 ⟨A64, k64, rfl, hL⟩; have H64 := Aside0.mk hL; clear hL)
        have hSq4 : (fun (w' : World) => w'.cell? ⟨bc, 0, none⟩ = some (.int .i64 S) ∧ w'.cell? ⟨bc, 1, none⟩ = some (.int .i64 W) ∧ w'.cell? ⟨bc, 2, none⟩ = some (.int .i64 L) ∧ w'.cell? ⟨pa, 0, none⟩ = some (.slice Aa Xa.length ka)) _ := ⟨LM.cell H64.out 2 rfl 0 rfl, LM.cell H64.out 2 rfl 1 rfl, LM.cell H64.out 2 rfl 2 rfl, LM.cell H64.out 1 rfl 0 rfl⟩
        refine ⟨fun _ => hSq4, ?_⟩
        refine HeldTill.take (i := 19) (n := 3) (v := ?_) rfl (by kernel_rfl) (by kernel_rfl) (by kernel_rfl) (by kernel_rfl) (fun _ _ _ h => h) (Or.inl ⟨by rfl, ?_⟩) hSq4 ?_
        rotate_left
        · intro w hSw; (try dsimp only at hSw); go_simp; (try with_reducible rfl)
        simp only [Act.put, List.setIfInBounds_toArray, List.set_cons_zero, List.set_cons_succ, List.getElem_toArray, List.getElem_cons_zero, List.getElem_cons_succ]
        refine HeldTill.next (j := 20) (n := 2) (by kernel_rfl) rfl ?_
        go_wp2_with (go_at_call 33; (with_reducible refine (LM.same H64.out 1 0 rfl rfl HVt.out.fit hS8 hW4).mono ?_); rintro e w65 ⟨rfl, hL⟩; have H65 := Aside0.mk hL; clear hL)
        have hSq5 : (fun (w' : World) => w'.cell? ⟨bc, 0, none⟩ = some (.int .i64 S) ∧ w'.cell? ⟨bc, 1, none⟩ = some (.int .i64 W) ∧ w'.cell? ⟨bc, 2, none⟩ = some (.int .i64 L) ∧ w'.cell? ⟨pa, 0, none⟩ = some (.slice Aa Xa.length ka)) _ := ⟨LM.cell H65.out 2 rfl 0 rfl, LM.cell H65.out 2 rfl 1 rfl, LM.cell H65.out 2 rfl 2 rfl, LM.cell H65.out 1 rfl 0 rfl⟩
        refine ⟨fun _ => hSq5, ?_⟩
        refine HeldTill.take (i := 21) (n := 1) (v := ?_) rfl (by kernel_rfl) (by kernel_rfl) (by kernel_rfl) (by kernel_rfl) (fun _ _ _ h => h) (Or.inl ⟨by rfl, ?_⟩) hSq5 ?_
        rotate_left
        · intro w hSw; (try dsimp only at hSw); go_simp; (try with_reducible rfl)
        simp only [Act.put, List.setIfInBounds_toArray, List.set_cons_zero, List.set_cons_succ, List.getElem_toArray, List.getElem_cons_zero, List.getElem_cons_succ]
        refine HeldTill.take (i := 22) (n := 0) (v := ?_) rfl (by kernel_rfl) (by kernel_rfl) (by kernel_rfl) (by kernel_rfl) (fun _ _ _ h => h) (Or.inl ⟨by rfl, ?_⟩) hSq5 ?_
        rotate_left
        · intro w hSw; (try dsimp only at hSw); go_simp; (try with_reducible rfl)
        simp only [Act.put, List.setIfInBounds_toArray, List.set_cons_zero, List.set_cons_succ, List.getElem_toArray, List.getElem_cons_zero, List.getElem_cons_succ]
        refine ⟨by kernel_rfl, ?_⟩
        have HEN : Aside0 (LM w w65 g l [(pb, #[.slice Ab Xb.length kb], 39), (pa, #[.slice Aa Xa.length ka], 39), (bc, #[.int .i64 S, .int .i64 W, .int .i64 L], 26), (w.heap.size, #[.slice Ar xr.length cr], 39)] [.s1 (.slice (some ⟨pl, 0, none⟩) 2 2) [(n : Int), (v : Int)], .s1 (.slice Af ls.length cf) ls, .s3 (.slice Ab Xb.length kb) Xb, .s3 (.slice Aa Xa.length ka) Xa]) := ⟨LM.drop H65.out (by simp +contextual)⟩
        go_wp2
        go_roundw
        case rel => exact ⟨j + 1, by omega, by go_num, HEN⟩
        case measure => simp [RowKit.intOf]; omega
      · obtain rfl : j = 2 := by omega
        have qbc0 := LM.cell HE.out 2 rfl 0 rfl
        have qbc1 := LM.cell HE.out 2 rfl 1 rfl
        have qbc2 := LM.cell HE.out 2 rfl 2 rfl
        go_upto_region 12 with (first | (go_at_call 36; (with_reducible refine (LM.contents HC.out HE.out).mono ?_); rintro e w81 ⟨A81, k81, x0, rfl, hV, hL⟩; have HVx0 := Aside0.mk hV; have H81 := Aside0.mk hL; clear hV hL))
        clear qbc0 qbc1 qbc2
        have H82 := Aside0.mk (LM.newB H81.out #[.slice A81 x0.length k81] 54 (by unfold BoxT; decide))
        generalize w81.heap.size = px at *
        generalize w81.alloc (.cells #[.slice A81 x0.length k81] 54) = w82 at *
        have hfd := field39
        have HVR := Aside0.mk (fun w1 Tx Bx (h : LM w w1 g l Bx Tx) => LM.mvalidr HC.out h HRAW.out hcr b1 HB2.out HB3.out)
        have HRR := Aside0.mk (fun w1 Tx Bx (h : LM w w1 g l Bx Tx) => LM.rvalidr HC.out h HRAW.out hcr b1 HB2.out HB3.out)
        have HBB := Aside0.mk (fun w1 Tx Bx i j A k B m (h : LM w w1 g l Bx Tx) (hi : Tx[i]? = some (.s3 (.slice A Xa.length k) Xa)) (hj : Tx[j]? = some (.s3 (.slice B Xb.length m) Xb)) => LM.belb HC.out h i j hi hj HVa.out.fit HVb.out.fit)
        have HRB := Aside0.mk (fun w1 Tx Bx i j A k B m (h : LM w w1 g l Bx Tx) (hi : Tx[i]? = some (.s3 (.slice A Xa.length k) Xa)) (hj : Tx[j]? = some (.s3 (.slice B Xb.length m) Xb)) => LM.rbelb HC.out h i j hi hj HVa.out.fit HVb.out.fit)
        have hn1 : (valb S W xr != valb S W xr) = false := by simp
        have hn2 : (belb Xa Xb != belb Xa Xb) = false := by simp
        generalize valb S W xr = rv at *
        generalize belb Xa Xb = bb at *
        have Hd := Aside0.mk (LM.drew H82.out)
        refine HeldTill.begin_ (S := fun (w' : World) => w'.cell? ⟨bc, 0, none⟩ = some (.int .i64 S) ∧ w'.cell? ⟨bc, 1, none⟩ = some (.int .i64 W) ∧ w'.cell? ⟨bc, 2, none⟩ = some (.int .i64 L) ∧ w'.cell? ⟨pa, 0, none⟩ = some (.slice Aa Xa.length ka) ∧ w'.cell? ⟨pb, 0, none⟩ = some (.slice Ab Xb.length kb) ∧ w'.cell? ⟨w.heap.size, 0, none⟩ = some (.slice Ar xr.length cr)) (F := fun _ => true) (by kernel_rfl) ?_
        have hSq0 : (fun (w' : World) => w'.cell? ⟨bc, 0, none⟩ = some (.int .i64 S) ∧ w'.cell? ⟨bc, 1, none⟩ = some (.int .i64 W) ∧ w'.cell? ⟨bc, 2, none⟩ = some (.int .i64 L) ∧ w'.cell? ⟨pa, 0, none⟩ = some (.slice Aa Xa.length ka) ∧ w'.cell? ⟨pb, 0, none⟩ = some (.slice Ab Xb.length kb) ∧ w'.cell? ⟨w.heap.size, 0, none⟩ = some (.slice Ar xr.length cr)) w82.drew := ⟨LM.cell Hd.out 3 rfl 0 rfl, LM.cell Hd.out 3 rfl 1 rfl, LM.cell Hd.out 3 rfl 2 rfl, LM.cell Hd.out 2 rfl 0 rfl, LM.cell Hd.out 1 rfl 0 rfl, LM.cell Hd.out 4 rfl 0 rfl⟩
        refine HeldTill.take (i := 0) (n := 26) (v := ?_) rfl (by kernel_rfl) (by kernel_rfl) (by kernel_rfl) (by kernel_rfl) (fun _ _ _ h => h) (Or.inl ⟨by rfl, ?_⟩) hSq0 ?_
        rotate_left
        · intro w hSw; (try dsimp only at hSw); go_simp; (try with_reducible rfl)
        simp only [Act.put, List.setIfInBounds_toArray, List.set_cons_zero, List.set_cons_succ, List.getElem_toArray, List.getElem_cons_zero, List.getElem_cons_succ]
        refine HeldTill.take (i := 1) (n := 25) (v := ?_) rfl (by kernel_rfl) (by kernel_rfl) (by kernel_rfl) (by kernel_rfl) (fun _ _ _ h => h) (Or.inl ⟨by rfl, ?_⟩) hSq0 ?_
        rotate_left
        · intro w hSw; (try dsimp only at hSw); go_simp; (try with_reducible rfl)
        simp only [Act.put, List.setIfInBounds_toArray, List.set_cons_zero, List.set_cons_succ, List.getElem_toArray, List.getElem_cons_zero, List.getElem_cons_succ]
        refine HeldTill.take (i := 3) (n := 24) (v := ?_) rfl (by kernel_rfl) (by kernel_rfl) (by kernel_rfl) (by kernel_rfl) (fun _ _ _ h => h) (Or.inl ⟨by rfl, ?_⟩) hSq0 ?_
        rotate_left
        · intro w hSw; (try dsimp only at hSw); go_simp; (try with_reducible rfl)
        simp only [Act.put, List.setIfInBounds_toArray, List.set_cons_zero, List.set_cons_succ, List.getElem_toArray, List.getElem_cons_zero, List.getElem_cons_succ]
        refine HeldTill.take (i := 4) (n := 23) (v := ?_) rfl (by kernel_rfl) (by kernel_rfl) (by kernel_rfl) (by kernel_rfl) (fun _ _ _ h => h) (Or.inl ⟨by rfl, ?_⟩) hSq0 ?_
        rotate_left
        · intro w hSw; (try dsimp only at hSw); go_simp; (try with_reducible rfl)
        simp only [Act.put, List.setIfInBounds_toArray, List.set_cons_zero, List.set_cons_succ, List.getElem_toArray, List.getElem_cons_zero, List.getElem_cons_succ]
        refine HeldTill.next (j := 2) (n := 22) (by kernel_rfl) rfl ?_
        go_wp2_with (go_at_call 25; (with_reducible refine (HVR.out _ _ _ Hd.out).mono ?_); rintro e w83 ⟨rfl, hL⟩; have H83 := Aside0.mk hL; clear hL)
        have hSq1 : (fun (w' : World) => w'.cell? ⟨bc, 0, none⟩ = some (.int .i64 S) ∧ w'.cell? ⟨bc, 1, none⟩ = some (.int .i64 W) ∧ w'.cell? ⟨bc, 2, none⟩ = some (.int .i64 L) ∧ w'.cell? ⟨pa, 0, none⟩ = some (.slice Aa Xa.length ka) ∧ w'.cell? ⟨pb, 0, none⟩ = some (.slice Ab Xb.length kb) ∧ w'.cell? ⟨w.heap.size, 0, none⟩ = some (.slice Ar xr.length cr)) _ := ⟨LM.cell H83.out 3 rfl 0 rfl, LM.cell H83.out 3 rfl 1 rfl, LM.cell H83.out 3 rfl 2 rfl, LM.cell H83.out 2 rfl 0 rfl, LM.cell H83.out 1 rfl 0 rfl, LM.cell H83.out 4 rfl 0 rfl⟩
        refine ⟨fun _ => hSq1, ?_⟩
        refine HeldTill.next (j := 5) (n := 21) (by kernel_rfl) rfl ?_
        go_wp2_with (go_at_call 26; (with_reducible refine (HRR.out _ _ _ H83.out).mono ?_); rintro e w84 ⟨rfl, hL⟩; have H84 := Aside0.mk hL; clear hL)
        have hSq2 : (fun (w' : World) => w'.cell? ⟨bc, 0, none⟩ = some (.int .i64 S) ∧ w'.cell? ⟨bc, 1, none⟩ = some (.int .i64 W) ∧ w'.cell? ⟨bc, 2, none⟩ = some (.int .i64 L) ∧ w'.cell? ⟨pa, 0, none⟩ = some (.slice Aa Xa.length ka) ∧ w'.cell? ⟨pb, 0, none⟩ = some (.slice Ab Xb.length kb) ∧ w'.cell? ⟨w.heap.size, 0, none⟩ = some (.slice Ar xr.length cr)) _ := ⟨LM.cell H84.out 3 rfl 0 rfl, LM.cell H84.out 3 rfl 1 rfl, LM.cell H84.out 3 rfl 2 rfl, LM.cell H84.out 2 rfl 0 rfl, LM.cell H84.out 1 rfl 0 rfl, LM.cell H84.out 4 rfl 0 rfl⟩
        refine ⟨fun _ => hSq2, ?_⟩
        refine HeldTill.take (i := 6) (n := 20) (v := ?_) rfl (by kernel_rfl) (by kernel_rfl) (by kernel_rfl) (by kernel_rfl) (fun _ _ _ h => h) (Or.inl ⟨by rfl, ?_⟩) hSq2 ?_
        rotate_left
        · intro w hSw; (try dsimp only at hSw); go_simp; (try with_reducible rfl)
        simp only [Act.put, List.setIfInBounds_toArray, List.set_cons_zero, List.set_cons_succ, List.getElem_toArray, List.getElem_cons_zero, List.getElem_cons_succ]
        refine HeldTill.take (i := 7) (n := 19) (v := ?_) rfl (by kernel_rfl) (by kernel_rfl) (by kernel_rfl) (by kernel_rfl) (fun _ _ _ h => h) (Or.inl ⟨by rfl, ?_⟩) hSq2 ?_
        rotate_left
        · intro w hSw; (try dsimp only at hSw); go_simp; (try with_reducible rfl)
        simp only [Act.put, List.setIfInBounds_toArray, List.set_cons_zero, List.set_cons_succ, List.getElem_toArray, List.getElem_cons_zero, List.getElem_cons_succ]
        refine HeldTill.take (i := 8) (n := 18) (v := ?_) rfl (by kernel_rfl) (by kernel_rfl) (by kernel_rfl) (by kernel_rfl) (fun _ _ _ h => h) (Or.inl ⟨by rfl, ?_⟩) hSq2 ?_
        rotate_left
        · intro w hSw; (try dsimp only at hSw); go_simp; (try with_reducible rfl)
        simp only [Act.put, List.setIfInBounds_toArray, List.set_cons_zero, List.set_cons_succ, List.getElem_toArray, List.getElem_cons_zero, List.getElem_cons_succ]
        refine HeldTill.take (i := 9) (n := 17) (v := ?_) rfl (by kernel_rfl) (by kernel_rfl) (by kernel_rfl) (by kernel_rfl) (fun _ _ _ h => h) (Or.inl ⟨by rfl, ?_⟩) hSq2 ?_
        rotate_left
        · intro w hSw; (try dsimp only at hSw); go_simp; (try with_reducible rfl)
        simp only [Act.put, List.setIfInBounds_toArray, List.set_cons_zero, List.set_cons_succ, List.getElem_toArray, List.getElem_cons_zero, List.getElem_cons_succ]
        refine HeldTill.take (i := 11) (n := 16) (v := ?_) rfl (by kernel_rfl) (by kernel_rfl) (by kernel_rfl) (by kernel_rfl) (fun _ _ _ h => h) (Or.inl ⟨by rfl, ?_⟩) hSq2 ?_
        rotate_left
        · intro w hSw; (try dsimp only at hSw); go_simp; (try with_reducible rfl)
        simp only [Act.put, List.setIfInBounds_toArray, List.set_cons_zero, List.set_cons_succ, List.getElem_toArray, List.getElem_cons_zero, List.getElem_cons_succ]
        refine HeldTill.take (i := 12) (n := 15) (v := ?_) rfl (by kernel_rfl) (by kernel_rfl) (by kernel_rfl) (by kernel_rfl) (fun _ _ _ h => h) (Or.inl ⟨by rfl, ?_⟩) hSq2 ?_
        rotate_left
        · intro w hSw; (try dsimp only at hSw); go_simp; (try with_reducible rfl)
        simp only [Act.put, List.setIfInBounds_toArray, List.set_cons_zero, List.set_cons_succ, List.getElem_toArray, List.getElem_cons_zero, List.getElem_cons_succ]
        refine HeldTill.next (j := 10) (n := 14) (by kernel_rfl) rfl ?_
        go_wp2_with (go_at_call 25; (with_reducible refine (LM.mvalid HC.out H84.out 4 rfl HVa.out).mono ?_); rintro e w85 ⟨rfl, hL⟩; have H85 := Aside0.mk hL; clear hL)
        have hSq3 : (fun (w' : World) => w'.cell? ⟨bc, 0, none⟩ = some (.int .i64 S) ∧ w'.cell? ⟨bc, 1, none⟩ = some (.int .i64 W) ∧ w'.cell? ⟨bc, 2, none⟩ = some (.int .i64 L) ∧ w'.cell? ⟨pa, 0, none⟩ = some (.slice Aa Xa.length ka) ∧ w'.cell? ⟨pb, 0, none⟩ = some (.slice Ab Xb.length kb) ∧ w'.cell? ⟨w.heap.size, 0, none⟩ = some (.slice Ar xr.length cr)) _ := ⟨LM.cell H85.out 3 rfl 0 rfl, LM.cell H85.out 3 rfl 1 rfl, LM.cell H85.out 3 rfl 2 rfl, LM.cell H85.out 2 rfl 0 rfl, LM.cell H85.out 1 rfl 0 rfl, LM.cell H85.out 4 rfl 0 rfl⟩
        refine ⟨fun _ => hSq3, ?_⟩
        refine HeldTill.next (j := 13) (n := 13) (by kernel_rfl) rfl ?_
        go_wp2_with (go_at_call 26; (with_reducible refine (LM.rvalid HC.out H85.out 4 rfl HVa.out).mono ?_); rintro e w86 ⟨rfl, hL⟩; have H86 := Aside0.mk hL; clear hL)
        have hSq4 : (fun (w' : World) => w'.cell? ⟨bc, 0, none⟩ = some (.int .i64 S) ∧ w'.cell? ⟨bc, 1, none⟩ = some (.int .i64 W) ∧ w'.cell? ⟨bc, 2, none⟩ = some (.int .i64 L) ∧ w'.cell? ⟨pa, 0, none⟩ = some (.slice Aa Xa.length ka) ∧ w'.cell? ⟨pb, 0, none⟩ = some (.slice Ab Xb.length kb) ∧ w'.cell? ⟨w.heap.size, 0, none⟩ = some (.slice Ar xr.length cr)) _ := ⟨LM.cell H86.out 3 rfl 0 rfl, LM.cell H86.out 3 rfl 1 rfl, LM.cell H86.out 3 rfl 2 rfl, LM.cell H86.out 2 rfl 0 rfl, LM.cell H86.out 1 rfl 0 rfl, LM.cell H86.out 4 rfl 0 rfl⟩
        refine ⟨fun _ => hSq4, ?_⟩
        refine HeldTill.take (i := 14) (n := 12) (v := ?_) rfl (by kernel_rfl) (by kernel_rfl) (by kernel_rfl) (by kernel_rfl) (fun _ _ _ h => h) (Or.inl ⟨by rfl, ?_⟩) hSq4 ?_
        rotate_left
        · intro w hSw; (try dsimp only at hSw); go_simp; (try with_reducible rfl)
        simp only [Act.put, List.setIfInBounds_toArray, List.set_cons_zero, List.set_cons_succ, List.getElem_toArray, List.getElem_cons_zero, List.getElem_cons_succ]
        refine HeldTill.take (i := 15) (n := 11) (v := ?_) rfl (by kernel_rfl) (by kernel_rfl) (by kernel_rfl) (by kernel_rfl) (fun _ _ _ h => h) (Or.inl ⟨by rfl, ?_⟩) hSq4 ?_
        rotate_left
        · intro w hSw; (try dsimp only at hSw); go_simp; (try with_reducible rfl)
        simp only [Act.put, List.setIfInBounds_toArray, List.set_cons_zero, List.set_cons_succ, List.getElem_toArray, List.getElem_cons_zero, List.getElem_cons_succ]
        refine HeldTill.take (i := 16) (n := 10) (v := ?_) rfl (by kernel_rfl) (by kernel_rfl) (by kernel_rfl) (by kernel_rfl) (fun _ _ _ h => h) (Or.inl ⟨by rfl, ?_⟩) hSq4 ?_
        rotate_left
        · intro w hSw; (try dsimp only at hSw); go_simp; (try with_reducible rfl)
        simp only [Act.put, List.setIfInBounds_toArray, List.set_cons_zero, List.set_cons_succ, List.getElem_toArray, List.getElem_cons_zero, List.getElem_cons_succ]
        refine HeldTill.take (i := 17) (n := 9) (v := ?_) rfl (by kernel_rfl) (by kernel_rfl) (by kernel_rfl) (by kernel_rfl) (fun _ _ _ h => h) (Or.inl ⟨by rfl, ?_⟩) hSq4 ?_
        rotate_left
        · intro w hSw; (try dsimp only at hSw); go_simp; (try with_reducible rfl)
        simp only [Act.put, List.setIfInBounds_toArray, List.set_cons_zero, List.set_cons_succ, List.getElem_toArray, List.getElem_cons_zero, List.getElem_cons_succ]
        refine HeldTill.take (i := 18) (n := 8) (v := ?_) rfl (by kernel_rfl) (by kernel_rfl) (by kernel_rfl) (by kernel_rfl) (fun _ _ _ h => h) (Or.inl ⟨by rfl, ?_⟩) hSq4 ?_
        rotate_left
        · intro w hSw; (try dsimp only at hSw); go_simp; (try with_reducible rfl)
        simp only [Act.put, List.setIfInBounds_toArray, List.set_cons_zero, List.set_cons_succ, List.getElem_toArray, List.getElem_cons_zero, List.getElem_cons_succ]
        refine HeldTill.take (i := 19) (n := 7) (v := ?_) rfl (by kernel_rfl) (by kernel_rfl) (by kernel_rfl) (by kernel_rfl) (fun _ _ _ h => h) (Or.inl ⟨by rfl, ?_⟩) hSq4 ?_
        rotate_left
        · intro w hSw; (try dsimp only at hSw); go_simp; (try with_reducible rfl)
        simp only [Act.put, List.setIfInBounds_toArray, List.set_cons_zero, List.set_cons_succ, List.getElem_toArray, List.getElem_cons_zero, List.getElem_cons_succ]
        refine HeldTill.take (i := 21) (n := 6) (v := ?_) rfl (by kernel_rfl) (by kernel_rfl) (by kernel_rfl) (by kernel_rfl) (fun _ _ _ h => h) (Or.inl ⟨by rfl, ?_⟩) hSq4 ?_
        rotate_left
        · intro w hSw; (try dsimp only at hSw); go_simp; (try with_reducible rfl)
        simp only [Act.put, List.setIfInBounds_toArray, List.set_cons_zero, List.set_cons_succ, List.getElem_toArray, List.getElem_cons_zero, List.getElem_cons_succ]
        refine HeldTill.take (i := 22) (n := 5) (v := ?_) rfl (by kernel_rfl) (by kernel_rfl) (by kernel_rfl) (by kernel_rfl) (fun _ _ _ h => h) (Or.inl ⟨by rfl, ?_⟩) hSq4 ?_
        rotate_left
        · intro w hSw; (try dsimp only at hSw); go_simp; (try with_reducible rfl)
        simp only [Act.put, List.setIfInBounds_toArray, List.set_cons_zero, List.set_cons_succ, List.getElem_toArray, List.getElem_cons_zero, List.getElem_cons_succ]
        refine HeldTill.take (i := 23) (n := 4) (v := ?_) rfl (by kernel_rfl) (by kernel_rfl) (by kernel_rfl) (by kernel_rfl) (fun _ _ _ h => h) (Or.inl ⟨by rfl, ?_⟩) hSq4 ?_
        rotate_left
        · intro w hSw; (try dsimp only at hSw); go_simp; (try with_reducible rfl)
        simp only [Act.put, List.setIfInBounds_toArray, List.set_cons_zero, List.set_cons_succ, List.getElem_toArray, List.getElem_cons_zero, List.getElem_cons_succ]
        refine HeldTill.next (j := 20) (n := 3) (by kernel_rfl) rfl ?_
        go_wp2_with (go_at_call 32; (with_reducible refine (HBB.out _ _ _ 4 3 _ _ _ _ H86.out rfl rfl).mono ?_); rintro e w87 ⟨rfl, hL⟩; have H87 := Aside0.mk hL; clear hL)
        have hSq5 : (fun (w' : World) => w'.cell? ⟨bc, 0, none⟩ = some (.int .i64 S) ∧ w'.cell? ⟨bc, 1, none⟩ = some (.int .i64 W) ∧ w'.cell? ⟨bc, 2, none⟩ = some (.int .i64 L) ∧ w'.cell? ⟨pa, 0, none⟩ = some (.slice Aa Xa.length ka) ∧ w'.cell? ⟨pb, 0, none⟩ = some (.slice Ab Xb.length kb) ∧ w'.cell? ⟨w.heap.size, 0, none⟩ = some (.slice Ar xr.length cr)) _ := ⟨LM.cell H87.out 3 rfl 0 rfl, LM.cell H87.out 3 rfl 1 rfl, LM.cell H87.out 3 rfl 2 rfl, LM.cell H87.out 2 rfl 0 rfl, LM.cell H87.out 1 rfl 0 rfl, LM.cell H87.out 4 rfl 0 rfl⟩
        refine ⟨fun _ => hSq5, ?_⟩
        refine HeldTill.next (j := 24) (n := 2) (by kernel_rfl) rfl ?_
        go_wp2_with (go_at_call 45; (with_reducible refine (HRB.out _ _ _ 4 3 _ _ _ _ H87.out rfl rfl).mono ?_); rintro e w88 ⟨rfl, hL⟩; have H88 := Aside0.mk hL; clear hL)
        have hSq6 : (fun (w' : World) => w'.cell? ⟨bc, 0, none⟩ = some (.int .i64 S) ∧ w'.cell? ⟨bc, 1, none⟩ = some (.int .i64 W) ∧ w'.cell? ⟨bc, 2, none⟩ = some (.int .i64 L) ∧ w'.cell? ⟨pa, 0, none⟩ = some (.slice Aa Xa.length ka) ∧ w'.cell? ⟨pb, 0, none⟩ = some (.slice Ab Xb.length kb) ∧ w'.cell? ⟨w.heap.size, 0, none⟩ = some (.slice Ar xr.length cr)) _ := ⟨LM.cell H88.out 3 rfl 0 rfl, LM.cell H88.out 3 rfl 1 rfl, LM.cell H88.out 3 rfl 2 rfl, LM.cell H88.out 2 rfl 0 rfl, LM.cell H88.out 1 rfl 0 rfl, LM.cell H88.out 4 rfl 0 rfl⟩
        refine ⟨fun _ => hSq6, ?_⟩
        refine HeldTill.take (i := 25) (n := 1) (v := ?_) rfl (by kernel_rfl) (by kernel_rfl) (by kernel_rfl) (by kernel_rfl) (fun _ _ _ h => h) (Or.inl ⟨by rfl, ?_⟩) hSq6 ?_
        rotate_left
        · intro w hSw; (try dsimp only at hSw); go_simp; (try with_reducible rfl)
        simp only [Act.put, List.setIfInBounds_toArray, List.set_cons_zero, List.set_cons_succ, List.getElem_toArray, List.getElem_cons_zero, List.getElem_cons_succ]
        refine HeldTill.take (i := 26) (n := 0) (v := ?_) rfl (by kernel_rfl) (by kernel_rfl) (by kernel_rfl) (by kernel_rfl) (fun _ _ _ h => h) (Or.inl ⟨by rfl, ?_⟩) hSq6 ?_
        rotate_left
        · intro w hSw; (try dsimp only at hSw); go_simp; (try with_reducible rfl)
        simp only [Act.put, List.setIfInBounds_toArray, List.set_cons_zero, List.set_cons_succ, List.getElem_toArray, List.getElem_cons_zero, List.getElem_cons_succ]
        refine ⟨by kernel_rfl, ?_⟩
        go_upto_region 14 with (fail)
        have HVj := Aside0.mk (HVa.out.join Xb)
        have HVe := Aside0.mk (HVa.out.either HLS.out)
        have HVt := Aside0.mk (Val.top S W)
        have HVo := Aside0.mk HVx0.out.of
        have Hd := Aside0.mk (LM.drew H88.out)
        refine HeldTill.begin_ (S := fun (w' : World) => w'.cell? ⟨bc, 0, none⟩ = some (.int .i64 S) ∧ w'.cell? ⟨bc, 1, none⟩ = some (.int .i64 W) ∧ w'.cell? ⟨bc, 2, none⟩ = some (.int .i64 L) ∧ w'.cell? ⟨pa, 0, none⟩ = some (.slice Aa Xa.length ka) ∧ w'.cell? ⟨pb, 0, none⟩ = some (.slice Ab Xb.length kb) ∧ w'.cell? ⟨px, 0, none⟩ = some (.slice A81 x0.length k81)) (F := fun _ => true) (by kernel_rfl) ?_
        have hSq0 : (fun (w' : World) => w'.cell? ⟨bc, 0, none⟩ = some (.int .i64 S) ∧ w'.cell? ⟨bc, 1, none⟩ = some (.int .i64 W) ∧ w'.cell? ⟨bc, 2, none⟩ = some (.int .i64 L) ∧ w'.cell? ⟨pa, 0, none⟩ = some (.slice Aa Xa.length ka) ∧ w'.cell? ⟨pb, 0, none⟩ = some (.slice Ab Xb.length kb) ∧ w'.cell? ⟨px, 0, none⟩ = some (.slice A81 x0.length k81)) w88.drew := ⟨LM.cell Hd.out 3 rfl 0 rfl, LM.cell Hd.out 3 rfl 1 rfl, LM.cell Hd.out 3 rfl 2 rfl, LM.cell Hd.out 2 rfl 0 rfl, LM.cell Hd.out 1 rfl 0 rfl, LM.cell Hd.out 0 rfl 0 rfl⟩
        refine HeldTill.take (i := 0) (n := 47) (v := ?_) rfl (by kernel_rfl) (by kernel_rfl) (by kernel_rfl) (by kernel_rfl) (fun _ _ _ h => h) (Or.inl ⟨by rfl, ?_⟩) hSq0 ?_
        rotate_left
        · intro w hSw; (try dsimp only at hSw); go_simp; (try with_reducible rfl)
        simp only [Act.put, List.setIfInBounds_toArray, List.set_cons_zero, List.set_cons_succ, List.getElem_toArray, List.getElem_cons_zero, List.getElem_cons_succ]
        refine HeldTill.take (i := 1) (n := 46) (v := ?_) rfl (by kernel_rfl) (by kernel_rfl) (by kernel_rfl) (by kernel_rfl) (fun _ _ _ h => h) (Or.inl ⟨by rfl, ?_⟩) hSq0 ?_
        rotate_left
        · intro w hSw; (try dsimp only at hSw); go_simp; (try with_reducible rfl)
        simp only [Act.put, List.setIfInBounds_toArray, List.set_cons_zero, List.set_cons_succ, List.getElem_toArray, List.getElem_cons_zero, List.getElem_cons_succ]
        refine HeldTill.take (i := 2) (n := 45) (v := ?_) rfl (by kernel_rfl) (by kernel_rfl) (by kernel_rfl) (by kernel_rfl) (fun _ _ _ h => h) (Or.inl ⟨by rfl, ?_⟩) hSq0 ?_
        rotate_left
        · intro w hSw; (try dsimp only at hSw); go_simp; (try with_reducible rfl)
        simp only [Act.put, List.setIfInBounds_toArray, List.set_cons_zero, List.set_cons_succ, List.getElem_toArray, List.getElem_cons_zero, List.getElem_cons_succ]
        refine HeldTill.take (i := 5) (n := 44) (v := ?_) rfl (by kernel_rfl) (by kernel_rfl) (by kernel_rfl) (by kernel_rfl) (fun _ _ _ h => h) (Or.inl ⟨by rfl, ?_⟩) hSq0 ?_
        rotate_left
        · intro w hSw; (try dsimp only at hSw); go_simp; (try with_reducible rfl)
        simp only [Act.put, List.setIfInBounds_toArray, List.set_cons_zero, List.set_cons_succ, List.getElem_toArray, List.getElem_cons_zero, List.getElem_cons_succ]
        refine HeldTill.take (i := 6) (n := 43) (v := ?_) rfl (by kernel_rfl) (by kernel_rfl) (by kernel_rfl) (by kernel_rfl) (fun _ _ _ h => h) (Or.inl ⟨by rfl, ?_⟩) hSq0 ?_
        rotate_left
        · intro w hSw; (try dsimp only at hSw); go_simp; (try with_reducible rfl)
        simp only [Act.put, List.setIfInBounds_toArray, List.set_cons_zero, List.set_cons_succ, List.getElem_toArray, List.getElem_cons_zero, List.getElem_cons_succ]
        refine HeldTill.take (i := 7) (n := 42) (v := ?_) rfl (by kernel_rfl) (by kernel_rfl) (by kernel_rfl) (by kernel_rfl) (fun _ _ _ h => h) (Or.inl ⟨by rfl, ?_⟩) hSq0 ?_
        rotate_left
        · intro w hSw; (try dsimp only at hSw); go_simp; (try with_reducible rfl)
        simp only [Act.put, List.setIfInBounds_toArray, List.set_cons_zero, List.set_cons_succ, List.getElem_toArray, List.getElem_cons_zero, List.getElem_cons_succ]
        refine HeldTill.next (j := 3) (n := 41) (by kernel_rfl) rfl ?_
        go_wp2_with (go_at_call 34; (with_reducible refine (LM.join HC.out Hd.out 4 3 rfl rfl HVa.out.fit HVb.out.fit).mono ?_); rintro e w89 ⟨A89, k89, rfl, hL⟩; have H89 := Aside0.mk hL; clear hL)
        have hSq1 : (fun (w' : World) => w'.cell? ⟨bc, 0, none⟩ = some (.int .i64 S) ∧ w'.cell? ⟨bc, 1, none⟩ = some (.int .i64 W) ∧ w'.cell? ⟨bc, 2, none⟩ = some (.int .i64 L) ∧ w'.cell? ⟨pa, 0, none⟩ = some (.slice Aa Xa.length ka) ∧ w'.cell? ⟨pb, 0, none⟩ = some (.slice Ab Xb.length kb) ∧ w'.cell? ⟨px, 0, none⟩ = some (.slice A81 x0.length k81)) _ := ⟨LM.cell H89.out 3 rfl 0 rfl, LM.cell H89.out 3 rfl 1 rfl, LM.cell H89.out 3 rfl 2 rfl, LM.cell H89.out 2 rfl 0 rfl, LM.cell H89.out 1 rfl 0 rfl, LM.cell H89.out 0 rfl 0 rfl⟩
        refine ⟨fun _ => hSq1, ?_⟩
        refine HeldTill.take (i := 4) (n := 40) (v := ?_) rfl (by kernel_rfl) (by kernel_rfl) (by kernel_rfl) (by kernel_rfl) (fun _ _ _ h => h) (Or.inl ⟨by rfl, ?_⟩) hSq1 ?_
        rotate_left
        · intro w hSw; (try dsimp only at hSw); go_simp; (try with_reducible rfl)
        simp only [Act.put, List.setIfInBounds_toArray, List.set_cons_zero, List.set_cons_succ, List.getElem_toArray, List.getElem_cons_zero, List.getElem_cons_succ]
        refine HeldTill.next (j := 8) (n := 39) (by kernel_rfl) rfl ?_
        go_wp2_with (go_at_call 31; (with_reducible refine (LM.rjoin HC.out H89.out 5 4 rfl rfl HVa.out.fit HVb.out.fit).mono ?_); rintro e w90 ⟨A90, k90, rfl, hL⟩; have H90 := Aside0.mk hL; clear hL)
        have hSq2 : (fun (w' : World) => w'.cell? ⟨bc, 0, none⟩ = some (.int .i64 S) ∧ w'.cell? ⟨bc, 1, none⟩ = some (.int .i64 W) ∧ w'.cell? ⟨bc, 2, none⟩ = some (.int .i64 L) ∧ w'.cell? ⟨pa, 0, none⟩ = some (.slice Aa Xa.length ka) ∧ w'.cell? ⟨pb, 0, none⟩ = some (.slice Ab Xb.length kb) ∧ w'.cell? ⟨px, 0, none⟩ = some (.slice A81 x0.length k81)) _ := ⟨LM.cell H90.out 3 rfl 0 rfl, LM.cell H90.out 3 rfl 1 rfl, LM.cell H90.out 3 rfl 2 rfl, LM.cell H90.out 2 rfl 0 rfl, LM.cell H90.out 1 rfl 0 rfl, LM.cell H90.out 0 rfl 0 rfl⟩
        refine ⟨fun _ => hSq2, ?_⟩
        refine HeldTill.take (i := 9) (n := 38) (v := ?_) rfl (by kernel_rfl) (by kernel_rfl) (by kernel_rfl) (by kernel_rfl) (fun _ _ _ h => h) (Or.inl ⟨by rfl, ?_⟩) hSq2 ?_
        rotate_left
        · intro w hSw; (try dsimp only at hSw); go_simp; (try with_reducible rfl)
        simp only [Act.put, List.setIfInBounds_toArray, List.set_cons_zero, List.set_cons_succ, List.getElem_toArray, List.getElem_cons_zero, List.getElem_cons_succ]
        refine HeldTill.next (j := 10) (n := 37) (by kernel_rfl) rfl ?_
        go_wp2_with (go_at_call 33; (with_reducible refine (LM.same H90.out 1 0 rfl rfl HVj.out.fit hS8 hW4).mono ?_); rintro e w91 ⟨rfl, hL⟩; have H91 := Aside0.mk hL; clear hL)
        have hSq3 : (fun (w' : World) => w'.cell? ⟨bc, 0, none⟩ = some (.int .i64 S) ∧ w'.cell? ⟨bc, 1, none⟩ = some (.int .i64 W) ∧ w'.cell? ⟨bc, 2, none⟩ = some (.int .i64 L) ∧ w'.cell? ⟨pa, 0, none⟩ = some (.slice Aa Xa.length ka) ∧ w'.cell? ⟨pb, 0, none⟩ = some (.slice Ab Xb.length kb) ∧ w'.cell? ⟨px, 0, none⟩ = some (.slice A81 x0.length k81)) _ := ⟨LM.cell H91.out 3 rfl 0 rfl, LM.cell H91.out 3 rfl 1 rfl, LM.cell H91.out 3 rfl 2 rfl, LM.cell H91.out 2 rfl 0 rfl, LM.cell H91.out 1 rfl 0 rfl, LM.cell H91.out 0 rfl 0 rfl⟩
        refine ⟨fun _ => hSq3, ?_⟩
        refine HeldTill.take (i := 11) (n := 36) (v := ?_) rfl (by kernel_rfl) (by kernel_rfl) (by kernel_rfl) (by kernel_rfl) (fun _ _ _ h => h) (Or.inl ⟨by rfl, ?_⟩) hSq3 ?_
        rotate_left
        · intro w hSw; (try dsimp only at hSw); go_simp; (try with_reducible rfl)
        simp only [Act.put, List.setIfInBounds_toArray, List.set_cons_zero, List.set_cons_succ, List.getElem_toArray, List.getElem_cons_zero, List.getElem_cons_succ]
        refine HeldTill.take (i := 12) (n := 35) (v := ?_) rfl (by kernel_rfl) (by kernel_rfl) (by kernel_rfl) (by kernel_rfl) (fun _ _ _ h => h) (Or.inl ⟨by rfl, ?_⟩) hSq3 ?_
        rotate_left
        · intro w hSw; (try dsimp only at hSw); go_simp; (try with_reducible rfl)
        simp only [Act.put, List.setIfInBounds_toArray, List.set_cons_zero, List.set_cons_succ, List.getElem_toArray, List.getElem_cons_zero, List.getElem_cons_succ]
        refine HeldTill.take (i := 13) (n := 34) (v := ?_) rfl (by kernel_rfl) (by kernel_rfl) (by kernel_rfl) (by kernel_rfl) (fun _ _ _ h => h) (Or.inl ⟨by rfl, ?_⟩) hSq3 ?_
        rotate_left
        · intro w hSw; (try dsimp only at hSw); go_simp; (try with_reducible rfl)
        simp only [Act.put, List.setIfInBounds_toArray, List.set_cons_zero, List.set_cons_succ, List.getElem_toArray, List.getElem_cons_zero, List.getElem_cons_succ]
        refine HeldTill.take (i := 14) (n := 33) (v := ?_) rfl (by kernel_rfl) (by kernel_rfl) (by kernel_rfl) (by kernel_rfl) (fun _ _ _ h => h) (Or.inl ⟨by rfl, ?_⟩) hSq3 ?_
        rotate_left
        · intro w hSw; (try dsimp only at hSw); go_simp; (try with_reducible rfl)
        simp only [Act.put, List.setIfInBounds_toArray, List.set_cons_zero, List.set_cons_succ, List.getElem_toArray, List.getElem_cons_zero, List.getElem_cons_succ]
        refine HeldTill.take (i := 17) (n := 32) (v := ?_) rfl (by kernel_rfl) (by kernel_rfl) (by kernel_rfl) (by kernel_rfl) (fun _ _ _ h => h) (Or.inl ⟨by rfl, ?_⟩) hSq3 ?_
        rotate_left
        · intro w hSw; (try dsimp only at hSw); go_simp; (try with_reducible rfl)
        simp only [Act.put, List.setIfInBounds_toArray, List.set_cons_zero, List.set_cons_succ, List.getElem_toArray, List.getElem_cons_zero, List.getElem_cons_succ]
        refine HeldTill.take (i := 18) (n := 31) (v := ?_) rfl (by kernel_rfl) (by kernel_rfl) (by kernel_rfl) (by kernel_rfl) (fun _ _ _ h => h) (Or.inl ⟨by rfl, ?_⟩) hSq3 ?_
        rotate_left
        · intro w hSw; (try dsimp only at hSw); go_simp; (try with_reducible rfl)
        simp only [Act.put, List.setIfInBounds_toArray, List.set_cons_zero, List.set_cons_succ, List.getElem_toArray, List.getElem_cons_zero, List.getElem_cons_succ]
        refine HeldTill.take (i := 19) (n := 30) (v := ?_) rfl (by kernel_rfl) (by kernel_rfl) (by kernel_rfl) (by kernel_rfl) (fun _ _ _ h => h) (Or.inl ⟨by rfl, ?_⟩) hSq3 ?_
        rotate_left
        · intro w hSw; (try dsimp only at hSw); go_simp; (try with_reducible rfl)
        simp only [Act.put, List.setIfInBounds_toArray, List.set_cons_zero, List.set_cons_succ, List.getElem_toArray, List.getElem_cons_zero, List.getElem_cons_succ]
        refine HeldTill.next (j := 15) (n := 29) (by kernel_rfl) rfl ?_
        go_wp2_with (go_at_call 39; (with_reducible refine (LM.either HC.out H91.out 6 4 rfl rfl HVa.out HLS.out (by omega)).mono ?_); rintro e w92 ⟨A92, k92, rfl, hL⟩; have H92 := Aside0.mk hL; clear hL)
        have hSq4 : (fun (w' : World) => w'.cell? ⟨bc, 0, none⟩ = some (.int .i64 S) ∧ w'.cell? ⟨bc, 1, none⟩ = some (.int .i64 W) ∧ w'.cell? ⟨bc, 2, none⟩ = some (.int .i64 L) ∧ w'.cell? ⟨pa, 0, none⟩ = some (.slice Aa Xa.length ka) ∧ w'.cell? ⟨pb, 0, none⟩ = some (.slice Ab Xb.length kb) ∧ w'.cell? ⟨px, 0, none⟩ = some (.slice A81 x0.length k81)) _ := ⟨LM.cell H92.out 3 rfl 0 rfl, LM.cell H92.out 3 rfl 1 rfl, LM.cell H92.out 3 rfl 2 rfl, LM.cell H92.out 2 rfl 0 rfl, LM.cell H92.out 1 rfl 0 rfl, LM.cell H92.out 0 rfl 0 rfl⟩
        refine ⟨fun _ => hSq4, ?_⟩
        refine HeldTill.take (i := 16) (n := 28) (v := ?_) rfl (by kernel_rfl) (by kernel_rfl) (by kernel_rfl) (by kernel_rfl) (fun _ _ _ h => h) (Or.inl ⟨by rfl, ?_⟩) hSq4 ?_
        rotate_left
        · intro w hSw; (try dsimp only at hSw); go_simp; (try with_reducible rfl)
        simp only [Act.put, List.setIfInBounds_toArray, List.set_cons_zero, List.set_cons_succ, List.getElem_toArray, List.getElem_cons_zero, List.getElem_cons_succ]
        refine HeldTill.next (j := 20) (n := 27) (by kernel_rfl) rfl ?_
        go_wp2_with (go_at_call 46; (with_reducible refine (LM.reither HC.out H92.out 7 5 rfl rfl HVa.out HLS.out (by omega)).mono ?_); rintro e w93 ⟨A93, k93, rfl, hL⟩; have H93 := Aside0.mk hL; clear hL)
        have hSq5 : (fun (w' : World) => w'.cell? ⟨bc, 0, none⟩ = some (.int .i64 S) ∧ w'.cell? ⟨bc, 1, none⟩ = some (.int .i64 W) ∧ w'.cell? ⟨bc, 2, none⟩ = some (.int .i64 L) ∧ w'.cell? ⟨pa, 0, none⟩ = some (.slice Aa Xa.length ka) ∧ w'.cell? ⟨pb, 0, none⟩ = some (.slice Ab Xb.length kb) ∧ w'.cell? ⟨px, 0, none⟩ = some (.slice A81 x0.length k81)) _ := ⟨LM.cell H93.out 3 rfl 0 rfl, LM.cell H93.out 3 rfl 1 rfl, LM.cell H93.out 3 rfl 2 rfl, LM.cell H93.out 2 rfl 0 rfl, LM.cell H93.out 1 rfl 0 rfl, LM.cell H93.out 0 rfl 0 rfl⟩
        refine ⟨fun _ => hSq5, ?_⟩
        refine HeldTill.take (i := 21) (n := 26) (v := ?_) rfl (by kernel_rfl) (by kernel_rfl) (by kernel_rfl) (by kernel_rfl) (fun _ _ _ h => h) (Or.inl ⟨by rfl, ?_⟩) hSq5 ?_
        rotate_left
        · intro w hSw; (try dsimp only at hSw); go_simp; (try with_reducible rfl)
        simp only [Act.put, List.setIfInBounds_toArray, List.set_cons_zero, List.set_cons_succ, List.getElem_toArray, List.getElem_cons_zero, List.getElem_cons_succ]
        refine HeldTill.next (j := 22) (n := 25) (by kernel_rfl) rfl ?_
        go_wp2_with (go_at_call 33; (with_reducible refine (LM.same H93.out 1 0 rfl rfl HVe.out.fit hS8 hW4).mono ?_); rintro e w94 ⟨rfl, hL⟩; have H94 := Aside0.mk hL; clear hL)
        have hSq6 : (fun (w' : World) => w'.cell? ⟨bc, 0, none⟩ = some (.int .i64 S) ∧ w'.cell? ⟨bc, 1, none⟩ = some (.int .i64 W) ∧ w'.cell? ⟨bc, 2, none⟩ = some (.int .i64 L) ∧ w'.cell? ⟨pa, 0, none⟩ = some (.slice Aa Xa.length ka) ∧ w'.cell? ⟨pb, 0, none⟩ = some (.slice Ab Xb.length kb) ∧ w'.cell? ⟨px, 0, none⟩ = some (.slice A81 x0.length k81)) _ := ⟨LM.cell H94.out 3 rfl 0 rfl, LM.cell H94.out 3 rfl 1 rfl, LM.cell H94.out 3 rfl 2 rfl, LM.cell H94.out 2 rfl 0 rfl, LM.cell H94.out 1 rfl 0 rfl, LM.cell H94.out 0 rfl 0 rfl⟩
        refine ⟨fun _ => hSq6, ?_⟩
        refine HeldTill.take (i := 23) (n := 24) (v := ?_) rfl (by kernel_rfl) (by kernel_rfl) (by kernel_rfl) (by kernel_rfl) (fun _ _ _ h => h) (Or.inl ⟨by rfl, ?_⟩) hSq6 ?_
        rotate_left
        · intro w hSw; (try dsimp only at hSw); go_simp; (try with_reducible rfl)
        simp only [Act.put, List.setIfInBounds_toArray, List.set_cons_zero, List.set_cons_succ, List.getElem_toArray, List.getElem_cons_zero, List.getElem_cons_succ]
        refine HeldTill.take (i := 24) (n := 23) (v := ?_) rfl (by kernel_rfl) (by kernel_rfl) (by kernel_rfl) (by kernel_rfl) (fun _ _ _ h => h) (Or.inl ⟨by rfl, ?_⟩) hSq6 ?_
        rotate_left
        · intro w hSw; (try dsimp only at hSw); go_simp; (try with_reducible rfl)
        simp only [Act.put, List.setIfInBounds_toArray, List.set_cons_zero, List.set_cons_succ, List.getElem_toArray, List.getElem_cons_zero, List.getElem_cons_succ]
        refine HeldTill.take (i := 25) (n := 22) (v := ?_) rfl (by kernel_rfl) (by kernel_rfl) (by kernel_rfl) (by kernel_rfl) (fun _ _ _ h => h) (Or.inl ⟨by rfl, ?_⟩) hSq6 ?_
        rotate_left
        · intro w hSw; (try dsimp only at hSw); go_simp; (try with_reducible rfl)
        simp only [Act.put, List.setIfInBounds_toArray, List.set_cons_zero, List.set_cons_succ, List.getElem_toArray, List.getElem_cons_zero, List.getElem_cons_succ]
        refine HeldTill.take (i := 28) (n := 21) (v := ?_) rfl (by kernel_rfl) (by kernel_rfl) (by kernel_rfl) (by kernel_rfl) (fun _ _ _ h => h) (Or.inl ⟨by rfl, ?_⟩) hSq6 ?_
        rotate_left
        · intro w hSw; (try dsimp only at hSw); go_simp; (try with_reducible rfl)
        simp only [Act.put, List.setIfInBounds_toArray, List.set_cons_zero, List.set_cons_succ, List.getElem_toArray, List.getElem_cons_zero, List.getElem_cons_succ]
        refine HeldTill.next (j := 26) (n := 20) (by kernel_rfl) rfl ?_
        go_wp2_with (go_at_call 35; (with_reducible refine (LM.mtop HC.out H94.out).mono ?_); rintro e w95 ⟨A95, k95, rfl, hL⟩; have H95 := Aside0.mk hL; clear hL)
        have hSq7 : (fun (w' : World) => w'.cell? ⟨bc, 0, none⟩ = some (.int .i64 S) ∧ w'.cell? ⟨bc, 1, none⟩ = some (.int .i64 W) ∧ w'.cell? ⟨bc, 2, none⟩ = some (.int .i64 L) ∧ w'.cell? ⟨pa, 0, none⟩ = some (.slice Aa Xa.length ka) ∧ w'.cell? ⟨pb, 0, none⟩ = some (.slice Ab Xb.length kb) ∧ w'.cell? ⟨px, 0, none⟩ = some (.slice A81 x0.length k81)) _ := ⟨LM.cell H95.out 3 rfl 0 rfl, LM.cell H95.out 3 rfl 1 rfl, LM.cell H95.out 3 rfl 2 rfl, LM.cell H95.out 2 rfl 0 rfl, LM.cell H95.out 1 rfl 0 rfl, LM.cell H95.out 0 rfl 0 rfl⟩
        refine ⟨fun _ => hSq7, ?_⟩
        refine HeldTill.take (i := 27) (n := 19) (v := ?_) rfl (by kernel_rfl) (by kernel_rfl) (by kernel_rfl) (by kernel_rfl) (fun _ _ _ h => h) (Or.inl ⟨by rfl, ?_⟩) hSq7 ?_
        rotate_left
        · intro w hSw; (try dsimp only at hSw); go_simp; (try with_reducible rfl)
        simp only [Act.put, List.setIfInBounds_toArray, List.set_cons_zero, List.set_cons_succ, List.getElem_toArray, List.getElem_cons_zero, List.getElem_cons_succ]
        refine HeldTill.next (j := 29) (n := 18) (by kernel_rfl) rfl ?_
        go_wp2_with (go_at_call 47; (with_reducible refine (LM.rtop HC.out H95.out).mono ?_); rintro e w96 ⟨A96, k96, rfl, hL⟩; have H96 := Aside0.mk hL; clear hL)
        have hSq8 : (fun (w' : World) => w'.cell? ⟨bc, 0, none⟩ = some (.int .i64 S) ∧ w'.cell? ⟨bc, 1, none⟩ = some (.int .i64 W) ∧ w'.cell? ⟨bc, 2, none⟩ = some (.int .i64 L) ∧ w'.cell? ⟨pa, 0, none⟩ = some (.slice Aa Xa.length ka) ∧ w'.cell? ⟨pb, 0, none⟩ = some (.slice Ab Xb.length kb) ∧ w'.cell? ⟨px, 0, none⟩ = some (.slice A81 x0.length k81)) _ := ⟨LM.cell H96.out 3 rfl 0 rfl, LM.cell H96.out 3 rfl 1 rfl, LM.cell H96.out 3 rfl 2 rfl, LM.cell H96.out 2 rfl 0 rfl, LM.cell H96.out 1 rfl 0 rfl, LM.cell H96.out 0 rfl 0 rfl⟩
        refine ⟨fun _ => hSq8, ?_⟩
        refine HeldTill.take (i := 30) (n := 17) (v := ?_) rfl (by kernel_rfl) (by kernel_rfl) (by kernel_rfl) (by kernel_rfl) (fun _ _ _ h => h) (Or.inl ⟨by rfl, ?_⟩) hSq8 ?_
        rotate_left
        · intro w hSw; (try dsimp only at hSw); go_simp; (try with_reducible rfl)
        simp only [Act.put, List.setIfInBounds_toArray, List.set_cons_zero, List.set_cons_succ, List.getElem_toArray, List.getElem_cons_zero, List.getElem_cons_succ]
        refine HeldTill.next (j := 31) (n := 16) (by kernel_rfl) rfl ?_
        go_wp2_with (go_at_call 33; (with_reducible refine (LM.same H96.out 1 0 rfl rfl HVt.out.fit hS8 hW4).mono ?_); rintro e w97 ⟨rfl, hL⟩; have H97 := Aside0.mk hL; clear hL)
        have hSq9 : (fun (w' : World) => w'.cell? ⟨bc, 0, none⟩ = some (.int .i64 S) ∧ w'.cell? ⟨bc, 1, none⟩ = some (.int .i64 W) ∧ w'.cell? ⟨bc, 2, none⟩ = some (.int .i64 L) ∧ w'.cell? ⟨pa, 0, none⟩ = some (.slice Aa Xa.length ka) ∧ w'.cell? ⟨pb, 0, none⟩ = some (.slice Ab Xb.length kb) ∧ w'.cell? ⟨px, 0, none⟩ = some (.slice A81 x0.length k81)) _ := ⟨LM.cell H97.out 3 rfl 0 rfl, LM.cell H97.out 3 rfl 1 rfl, LM.cell H97.out 3 rfl 2 rfl, LM.cell H97.out 2 rfl 0 rfl, LM.cell H97.out 1 rfl 0 rfl, LM.cell H97.out 0 rfl 0 rfl⟩
        refine ⟨fun _ => hSq9, ?_⟩
        refine HeldTill.take (i := 32) (n := 15) (v := ?_) rfl (by kernel_rfl) (by kernel_rfl) (by kernel_rfl) (by kernel_rfl) (fun _ _ _ h => h) (Or.inl ⟨by rfl, ?_⟩) hSq9 ?_
        rotate_left
        · intro w hSw; (try dsimp only at hSw); go_simp; (try with_reducible rfl)
        simp only [Act.put, List.setIfInBounds_toArray, List.set_cons_zero, List.set_cons_succ, List.getElem_toArray, List.getElem_cons_zero, List.getElem_cons_succ]
        refine HeldTill.take (i := 33) (n := 14) (v := ?_) rfl (by kernel_rfl) (by kernel_rfl) (by kernel_rfl) (by kernel_rfl) (fun _ _ _ h => h) (Or.inl ⟨by rfl, ?_⟩) hSq9 ?_
        rotate_left
        · intro w hSw; (try dsimp only at hSw); go_simp; (try with_reducible rfl)
        simp only [Act.put, List.setIfInBounds_toArray, List.set_cons_zero, List.set_cons_succ, List.getElem_toArray, List.getElem_cons_zero, List.getElem_cons_succ]
        refine HeldTill.take (i := 34) (n := 13) (v := ?_) rfl (by kernel_rfl) (by kernel_rfl) (by kernel_rfl) (by kernel_rfl) (fun _ _ _ h => h) (Or.inl ⟨by rfl, ?_⟩) hSq9 ?_
        rotate_left
        · intro w hSw; (try dsimp only at hSw); go_simp; (try with_reducible rfl)
        simp only [Act.put, List.setIfInBounds_toArray, List.set_cons_zero, List.set_cons_succ, List.getElem_toArray, List.getElem_cons_zero, List.getElem_cons_succ]
        refine HeldTill.take (i := 35) (n := 12) (v := ?_) rfl (by kernel_rfl) (by kernel_rfl) (by kernel_rfl) (by kernel_rfl) (fun _ _ _ h => h) (Or.inl ⟨by rfl, ?_⟩) hSq9 ?_
        rotate_left
        · intro w hSw; (try dsimp only at hSw); go_simp; (try with_reducible rfl)
        simp only [Act.put, List.setIfInBounds_toArray, List.set_cons_zero, List.set_cons_succ, List.getElem_toArray, List.getElem_cons_zero, List.getElem_cons_succ]
        refine HeldTill.take (i := 38) (n := 11) (v := ?_) rfl (by kernel_rfl) (by kernel_rfl) (by kernel_rfl) (by kernel_rfl) (fun _ _ _ h => h) (Or.inl ⟨by rfl, ?_⟩) hSq9 ?_
        rotate_left
        · intro w hSw; (try dsimp only at hSw); go_simp; (try with_reducible rfl)
        simp only [Act.put, List.setIfInBounds_toArray, List.set_cons_zero, List.set_cons_succ, List.getElem_toArray, List.getElem_cons_zero, List.getElem_cons_succ]
        refine HeldTill.take (i := 39) (n := 10) (v := ?_) rfl (by kernel_rfl) (by kernel_rfl) (by kernel_rfl) (by kernel_rfl) (fun _ _ _ h => h) (Or.inl ⟨by rfl, ?_⟩) hSq9 ?_
        rotate_left
        · intro w hSw; (try dsimp only at hSw); go_simp; (try with_reducible rfl)
        simp only [Act.put, List.setIfInBounds_toArray, List.set_cons_zero, List.set_cons_succ, List.getElem_toArray, List.getElem_cons_zero, List.getElem_cons_succ]
        refine HeldTill.next (j := 36) (n := 9) (by kernel_rfl) rfl ?_
        go_wp2_with (go_at_call 37; (with_reducible refine (LM.of HC.out H97.out 6 rfl HVx0.out).mono ?_); rintro e w98 ⟨A98, k98, rfl, hL⟩; have H98 := Aside0.mk hL; clear hL)
        have hSq10 : (fun (w' : World) => w'.cell? ⟨bc, 0, none⟩ = some (.int .i64 S) ∧ w'.cell? ⟨bc, 1, none⟩ = some (.int .i64 W) ∧ w'.cell? ⟨bc, 2, none⟩ = some (.int .i64 L) ∧ w'.cell? ⟨pa, 0, none⟩ = some (.slice Aa Xa.length ka) ∧ w'.cell? ⟨pb, 0, none⟩ = some (.slice Ab Xb.length kb) ∧ w'.cell? ⟨px, 0, none⟩ = some (.slice A81 x0.length k81)) _ := ⟨LM.cell H98.out 3 rfl 0 rfl, LM.cell H98.out 3 rfl 1 rfl, LM.cell H98.out 3 rfl 2 rfl, LM.cell H98.out 2 rfl 0 rfl, LM.cell H98.out 1 rfl 0 rfl, LM.cell H98.out 0 rfl 0 rfl⟩
        refine ⟨fun _ => hSq10, ?_⟩
        refine HeldTill.take (i := 37) (n := 8) (v := ?_) rfl (by kernel_rfl) (by kernel_rfl) (by kernel_rfl) (by kernel_rfl) (fun _ _ _ h => h) (Or.inl ⟨by rfl, ?_⟩) hSq10 ?_
        rotate_left
        · intro w hSw; (try dsimp only at hSw); go_simp; (try with_reducible rfl)
        simp only [Act.put, List.setIfInBounds_toArray, List.set_cons_zero, List.set_cons_succ, List.getElem_toArray, List.getElem_cons_zero, List.getElem_cons_succ]
        refine HeldTill.next (j := 40) (n := 7) (by kernel_rfl) rfl ?_
        go_wp2_with (go_at_call 48; (with_reducible refine (LM.rof HC.out H98.out 7 rfl HVx0.out).mono ?_); rintro e w99 ⟨A99, k99, rfl, hL⟩; have H99 := Aside0.mk hL; clear hL)
        have hSq11 : (fun (w' : World) => w'.cell? ⟨bc, 0, none⟩ = some (.int .i64 S) ∧ w'.cell? ⟨bc, 1, none⟩ = some (.int .i64 W) ∧ w'.cell? ⟨bc, 2, none⟩ = some (.int .i64 L) ∧ w'.cell? ⟨pa, 0, none⟩ = some (.slice Aa Xa.length ka) ∧ w'.cell? ⟨pb, 0, none⟩ = some (.slice Ab Xb.length kb) ∧ w'.cell? ⟨px, 0, none⟩ = some (.slice A81 x0.length k81)) _ := ⟨LM.cell H99.out 3 rfl 0 rfl, LM.cell H99.out 3 rfl 1 rfl, LM.cell H99.out 3 rfl 2 rfl, LM.cell H99.out 2 rfl 0 rfl, LM.cell H99.out 1 rfl 0 rfl, LM.cell H99.out 0 rfl 0 rfl⟩
        refine ⟨fun _ => hSq11, ?_⟩
        refine HeldTill.take (i := 41) (n := 6) (v := ?_) rfl (by kernel_rfl) (by kernel_rfl) (by kernel_rfl) (by kernel_rfl) (fun _ _ _ h => h) (Or.inl ⟨by rfl, ?_⟩) hSq11 ?_
        rotate_left
        · intro w hSw; (try dsimp only at hSw); go_simp; (try with_reducible rfl)
        simp only [Act.put, List.setIfInBounds_toArray, List.set_cons_zero, List.set_cons_succ, List.getElem_toArray, List.getElem_cons_zero, List.getElem_cons_succ]
        refine HeldTill.next (j := 42) (n := 5) (by kernel_rfl) rfl ?_
        go_wp2_with (go_at_call 33; (with_reducible refine (LM.same H99.out 1 0 rfl rfl HVo.out.fit hS8 hW4).mono ?_); rintro e w100 ⟨rfl, hL⟩; have H100 := Aside0.mk hL; clear hL)
        have hSq12 : (fun (w' : World) => w'.cell? ⟨bc, 0, none⟩ = some (.int .i64 S) ∧ w'.cell? ⟨bc, 1, none⟩ = some (.int .i64 W) ∧ w'.cell? ⟨bc, 2, none⟩ = some (.int .i64 L) ∧ w'.cell? ⟨pa, 0, none⟩ = some (.slice Aa Xa.length ka) ∧ w'.cell? ⟨pb, 0, none⟩ = some (.slice Ab Xb.length kb) ∧ w'.cell? ⟨px, 0, none⟩ = some (.slice A81 x0.length k81)) _ := ⟨LM.cell H100.out 3 rfl 0 rfl, LM.cell H100.out 3 rfl 1 rfl, LM.cell H100.out 3 rfl 2 rfl, LM.cell H100.out 2 rfl 0 rfl, LM.cell H100.out 1 rfl 0 rfl, LM.cell H100.out 0 rfl 0 rfl⟩
        refine ⟨fun _ => hSq12, ?_⟩
        refine HeldTill.take (i := 43) (n := 4) (v := ?_) rfl (by kernel_rfl) (by kernel_rfl) (by kernel_rfl) (by kernel_rfl) (fun _ _ _ h => h) (Or.inl ⟨by rfl, ?_⟩) hSq12 ?_
        rotate_left
        · intro w hSw; (try dsimp only at hSw); go_simp; (try with_reducible rfl)
        simp only [Act.put, List.setIfInBounds_toArray, List.set_cons_zero, List.set_cons_succ, List.getElem_toArray, List.getElem_cons_zero, List.getElem_cons_succ]
        refine HeldTill.take (i := 44) (n := 3) (v := ?_) rfl (by kernel_rfl) (by kernel_rfl) (by kernel_rfl) (by kernel_rfl) (fun _ _ _ h => h) (Or.inl ⟨by rfl, ?_⟩) hSq12 ?_
        rotate_left
        · intro w hSw; (try dsimp only at hSw); go_simp; (try with_reducible rfl)
        simp only [Act.put, List.setIfInBounds_toArray, List.set_cons_zero, List.set_cons_succ, List.getElem_toArray, List.getElem_cons_zero, List.getElem_cons_succ]
        refine HeldTill.next (j := 45) (n := 2) (by kernel_rfl) rfl ?_
        go_wp2_with (go_at_call 27; (with_reducible refine (LM.awake H100.out).mono ?_); rintro e w101 ⟨rfl, hL⟩; have H101 := Aside0.mk hL; clear hL)
        have hSq13 : (fun (w' : World) => w'.cell? ⟨bc, 0, none⟩ = some (.int .i64 S) ∧ w'.cell? ⟨bc, 1, none⟩ = some (.int .i64 W) ∧ w'.cell? ⟨bc, 2, none⟩ = some (.int .i64 L) ∧ w'.cell? ⟨pa, 0, none⟩ = some (.slice Aa Xa.length ka) ∧ w'.cell? ⟨pb, 0, none⟩ = some (.slice Ab Xb.length kb) ∧ w'.cell? ⟨px, 0, none⟩ = some (.slice A81 x0.length k81)) _ := ⟨LM.cell H101.out 3 rfl 0 rfl, LM.cell H101.out 3 rfl 1 rfl, LM.cell H101.out 3 rfl 2 rfl, LM.cell H101.out 2 rfl 0 rfl, LM.cell H101.out 1 rfl 0 rfl, LM.cell H101.out 0 rfl 0 rfl⟩
        refine ⟨fun _ => hSq13, ?_⟩
        refine HeldTill.take (i := 46) (n := 1) (v := ?_) rfl (by kernel_rfl) (by kernel_rfl) (by kernel_rfl) (by kernel_rfl) (fun _ _ _ h => h) (Or.inl ⟨by rfl, ?_⟩) hSq13 ?_
        rotate_left
        · intro w hSw; (try dsimp only at hSw); go_simp; (try with_reducible rfl)
        simp only [Act.put, List.setIfInBounds_toArray, List.set_cons_zero, List.set_cons_succ, List.getElem_toArray, List.getElem_cons_zero, List.getElem_cons_succ]
        refine HeldTill.take (i := 47) (n := 0) (v := ?_) rfl (by kernel_rfl) (by kernel_rfl) (by kernel_rfl) (by kernel_rfl) (fun _ _ _ h => h) (Or.inl ⟨by rfl, ?_⟩) hSq13 ?_
        rotate_left
        · intro w hSw; (try dsimp only at hSw); go_simp; (try with_reducible rfl)
        simp only [Act.put, List.setIfInBounds_toArray, List.set_cons_zero, List.set_cons_succ, List.getElem_toArray, List.getElem_cons_zero, List.getElem_cons_succ]
        refine ⟨by kernel_rfl, ?_⟩
        go_wp2
        go_ret
        exact ⟨rfl, LM.below H101.out⟩
end Go.Proofs.Ytkgocbmnjlfkoaa.M
end
section
namespace Go.Proofs.YtkgocbmnjlfkoaaW.PrintWords
open Go.ChangeShapes Go.WideShapes
theorem sized_ints {H : Type} {enc : TypeId × Value → H} {P : Program} {W : World} {base : Nat} {spare : Nat → Bool} {held : Bool} {t e : TypeId} {k : IntKind} {a : Option Addr} {len cap : Nat} {d : DataW H} {ps : List MemPlace} {ts : List TypeId} {ds : List (DataW H)} {j : Nat}
    (hsz : (DataW.weightsEach P ts ds).all (· ≤ reachBytes) = true) (ht : ts[j]? = some t) (hd : ds[j]? = some d) (hu : P.underlying t = some (.slice e)) (he : P.underlying e = some (.int k)) (hc : P.cellsOf e = 1) {B : Nat} (hB : P.bytesOf e = B)
    (h : DataW.Trod enc P W base spare held t (.slice a len cap) d ps) : len * B ≤ 140737488351232 := by
  obtain ⟨fuel, hf⟩ := h
  rcases open_ints hu he hc hf with ⟨hcs, _⟩ | ⟨x, l, c, zs, hcs, _, hl, _, hz, hx, _, _⟩
  · simp [Value.cells] at hcs
    obtain ⟨rfl, rfl, rfl⟩ := hcs
    simp
  · simp [Value.cells] at hcs
    obtain ⟨rfl, rfl, rfl⟩ := hcs
    obtain ⟨hx, _⟩ := Prod.mk.inj hx
    subst hx
    have z := sized_slice hsz ht hd hu
    rw [hB] at z
    have hl2 : len ≤ zs.length := by
      rw [hz]
      split
      · exact hl
      · exact Nat.le_refl _
    have h1 : (lits (H := H) k (zs.take len)).length + (lits (H := H) k (zs.drop len)).length = zs.length := by
      simp [lits]
      omega
    rw [h1] at z
    exact Nat.le_trans (Nat.mul_le_mul_right _ hl2) z
end Go.Proofs.YtkgocbmnjlfkoaaW.PrintWords
end
section
namespace Go.Proofs.Ytkgocbmnjlfkoaa.M
open Go.RowKit Go.Deep Go.ChangeShapes Go.WideShapes Go.Proofs.Ytkgocbmnjlfkoaa.X Go.Proofs.YtkgocbmnjlfkoaaW.PrintWords Go.Proofs.YtkgocbmnjlfkoaaW.PrintLast Go.Proofs.YtkgocbmnjlfkoaaW.PrintMore
set_option linter.unusedVariables false
set_option linter.unusedSimpArgs false
section
variable {H : Type} {enc : TypeId × Value → H} {w : World} {base : Nat} {held : Bool}
def Wt (t : TypeId) (d : DataW H) : Prop := ∀ n ∈ d.weights Try.prog t, n ≤ reachBytes
theorem weights_all {P : Program} {e : TypeId} {d : DataW H} : ∀ {l : List (DataW H)}, d ∈ l → ∀ n ∈ d.weights P e, n ∈ DataW.weightsAll P e l
  | d0 :: l, hd, n, hn => by
    simp only [DataW.weightsAll, List.mem_append]
    rcases List.mem_cons.1 hd with rfl | hd
    · exact .inl hn
    · exact .inr (weights_all hd n hn)
theorem open_list {α : Type} [Inhabited α] {kd : Kd α} {t e : TypeId} {Bd : α → Prop} (ht : Try.prog.underlying t = some (.slice e)) (hc : Try.prog.cellsOf e = 1) (hsz : kd.sz = 1)
    (elem : ∀ fuel v (y : DataW H × List MemPlace), DataW.trod enc Try.prog w base (fun _ => true) held fuel e [v] = some y → Wt e y.1 → ∃ x : α, kd.K w x [v] ∧ Bd x)
    {fuel : Nat} {v : Value} {y : DataW H × List MemPlace} (h : DataW.trod enc Try.prog w base (fun _ => true) held fuel t [v] = some y) (hw : Wt t y.1) :
    ∃ xs : List α, (Kd.slice e kd).K w xs [v] ∧ xs.length * Try.prog.bytesOf e ≤ reachBytes ∧ ∀ x ∈ xs, Bd x := by
  rcases open_slice1 ht hc h with ⟨h1, rfl⟩ | ⟨a, len, cap, m, n, V, D, Pl, h1, hb, hl, hm, hmm, rfl, hx⟩
  · injection h1 with h1
    subst h1
    exact ⟨[], ⟨none, 0, rfl, Nat.le_refl _, rfl, by simp, fun h => absurd h (by simp)⟩, by simp, fun x hx => by cases hx⟩
  · injection h1 with h1
    subst h1
    simp only [if_true] at hmm
    subst hmm
    have hwe : ∀ i, i < len → Wt e (D i) := fun i hi k hk => hw k (by
      simp only [DataW.weights, ht, List.mem_cons, List.mem_append]
      exact .inr (.inl (weights_all (List.mem_map.2 ⟨i, List.mem_range.2 hi, rfl⟩) k hk)))
    obtain ⟨f, hf⟩ := choose_lt (α := α) (n := len) (p := fun i x => kd.K w x [V i] ∧ Bd x) (fun i hi => elem n (V i) (D i, Pl i) (hx i (by omega)).2 (hwe i hi))
    have hlen : ((List.range len).map f).length = len := by simp
    have hC : kd.C w (some a) ((List.range len).map f).length ((List.range len).map f) := by
      refine ⟨rfl, by rw [hlen]; unfold maxLen at hm; omega, fun _ => ⟨a, rfl, fun j p hj => ?_⟩⟩
      obtain ⟨hj1, hj2⟩ := List.getElem?_eq_some_iff.1 hj
      rw [hlen] at hj1
      rw [List.getElem_map, List.getElem_range] at hj2
      subst hj2
      refine ⟨[V j], hsz.symm, (hf j hj1).1, fun i u hu => ?_⟩
      obtain ⟨hi1, hi2⟩ := List.getElem?_eq_some_iff.1 hu
      have hi0 : i = 0 := by simpa using hi1
      subst hi0
      rw [hsz]
      simp at hi2
      subst hi2
      simpa using (hx j (by omega)).1
    refine ⟨(List.range len).map f, ⟨some a, m, by rw [hlen], by rw [hlen]; exact hl, hC⟩, ?_, fun x hx => ?_⟩
    · have := hw _ (by simp only [DataW.weights, ht]; exact List.mem_cons_self)
      rw [hlen]
      simp only [List.length_map, List.length_range] at this
      exact Nat.le_trans (Nat.mul_le_mul_right _ (Nat.le_add_right _ _)) this
    · obtain ⟨i, hi, rfl⟩ := List.mem_map.1 hx
      exact (hf i (List.mem_range.1 hi)).2
set_option maxRecDepth 100000 in
theorem open_num {fuel : Nat} {v : Value} {y : DataW H × List MemPlace} (h : DataW.trod enc Try.prog w base (fun _ => true) held fuel 3 [v] = some y) : ∃ x : Int, (Kd.int .i64).K w x [v] ∧ True := by
  cases fuel with
  | zero => simp [DataW.trod] at h
  | succ n =>
    unfold DataW.trod at h
    rw [Try.underlying3] at h
    split at h
    case h_2 k1 k2 n1 h1 h2 =>
      injection h1 with h1
      injection h1 with h1
      injection h2 with h2
      subst h1
      subst h2
      split at h
      · rename_i h3
        rw [h3.1]
        exact ⟨_, rfl, trivial⟩
      · cases h
    all_goals first
      | (rename_i h1 _; injection h1 with h1; cases h1; done)
      | (rename_i h1 _ _; injection h1 with h1; cases h1; done)
      | (rename_i h1; injection h1 with h1; cases h1; done)
      | (exfalso; clear h; simp_all; done)
      | cases h
def Bd1 (l : List Int) : Prop := l.length ≤ 17592186044416
def Bd2 (r : List (List Int)) : Prop := r.length < 1152921504606846976 ∧ ∀ l ∈ r, Bd1 l
theorem open1 {fuel : Nat} {v : Value} {y : DataW H × List MemPlace} (h : DataW.trod enc Try.prog w base (fun _ => true) held fuel 22 [v] = some y) (hw : Wt 22 y.1) : ∃ x : List Int, (Kd.slice 3 (Kd.int .i64)).K w x [v] ∧ Bd1 x := by
  obtain ⟨x, h1, h2, _⟩ := open_list (kd := Kd.int .i64) (Bd := fun _ => True) Try.underlying22 (by kernel_rfl) rfl (fun fuel v y h _ => open_num h) h hw
  refine ⟨x, h1, ?_⟩
  have hb : Try.prog.bytesOf 3 = 8 := by kernel_rfl
  rw [hb] at h2
  unfold Bd1
  unfold reachBytes at h2
  omega
theorem open2 {fuel : Nat} {v : Value} {y : DataW H × List MemPlace} (h : DataW.trod enc Try.prog w base (fun _ => true) held fuel 43 [v] = some y) (hw : Wt 43 y.1) : ∃ x : List (List Int), (Kd.slice 22 (Kd.slice 3 (Kd.int .i64))).K w x [v] ∧ Bd2 x := by
  obtain ⟨x, h1, h2, h3⟩ := open_list (kd := Kd.slice 3 (Kd.int .i64)) (Bd := Bd1) Try.underlying43 (by kernel_rfl) rfl (fun fuel v y h hw => open1 h hw) h hw
  refine ⟨x, h1, ?_, h3⟩
  have hb : Try.prog.bytesOf 22 = 24 := by kernel_rfl
  rw [hb] at h2
  unfold reachBytes at h2
  omega
theorem open3 {fuel : Nat} {v : Value} {y : DataW H × List MemPlace} (h : DataW.trod enc Try.prog w base (fun _ => true) held fuel 29 [v] = some y) (hw : Wt 29 y.1) : ∃ (A : Option Addr) (c : Nat) (x : List (List (List Int))), v = .slice A x.length c ∧ x.length ≤ c ∧ C3 w A x ∧
    x.length < 1152921504606846976 ∧ (∀ r ∈ x, r.length < 1152921504606846976) ∧ (∀ r ∈ x, ∀ l ∈ r, l.length ≤ 17592186044416) := by
  obtain ⟨x, h1, h2, h3⟩ := open_list (kd := Kd.slice 22 (Kd.slice 3 (Kd.int .i64))) (Bd := Bd2) Try.underlying29 (by kernel_rfl) rfl (fun fuel v y h hw => open2 h hw) h hw
  obtain ⟨A, c, h4, h5, h6⟩ := h1
  injection h4 with h4
  have hb : Try.prog.bytesOf 43 = 24 := by kernel_rfl
  rw [hb] at h2
  unfold reachBytes at h2
  exact ⟨A, c, x, h4, h5, h6, by omega, fun r hr => (h3 r hr).1, fun r hr l hl => (h3 r hr).2 l hl⟩
set_option maxRecDepth 100000 in
theorem open_must {W : World} {v : Value} {d : DataW H} {ps : List MemPlace} (hv : Value.okWide Try.prog W .any base 39 v) (h : DataW.Trod enc Try.prog W 0 (fun _ => true) true 39 v d ps) (hw : Wt 39 d) : ∃ (A : Option Addr) (c : Nat) (x : List (List (List Int))), v = .agg #[.slice A x.length c] ∧ x.length ≤ c ∧ C3 W A x ∧
    x.length < 1152921504606846976 ∧ (∀ r ∈ x, r.length < 1152921504606846976) ∧ (∀ r ∈ x, ∀ l ∈ r, l.length ≤ 17592186044416) := by
  obtain ⟨cs, rfl, hsz⟩ := okWide_struct Try.underlying39 hv
  have hc : Try.prog.cellsOf 39 = 1 := by kernel_rfl
  rw [hc] at hsz
  obtain ⟨v0, rfl⟩ : ∃ v0, cs = #[v0] := by
    match cs, hsz with
    | ⟨[v0]⟩, _ => exact ⟨v0, rfl⟩
  obtain ⟨fuel, hf⟩ := h
  obtain ⟨y0, n, hx, hlen, h0⟩ := trod_struct1 Try.underlying39 hf
  have hd : d = .agg [y0.1] := (Prod.mk.inj hx).1
  subst hd
  have h1 : DataW.trod enc Try.prog W 0 (fun _ => true) true n 29 [v0] = some y0 := h0
  obtain ⟨A, c, x, rfl, h2, h3, h4, h5, h6⟩ := open3 h1 (fun k hk => hw k (by
    simp only [DataW.weights, Try.underlying39]
    show k ∈ DataW.weightsEach Try.prog [29] [y0.1]
    simp only [DataW.weightsEach, List.append_nil]
    exact hk))
  exact ⟨A, c, x, rfl, h2, h3, h4, h5, h6⟩
end
end Go.Proofs.Ytkgocbmnjlfkoaa.M
end
section
namespace Go.Proofs.Ytkgocbmnjlfkoaa.mustSteps
open Go.ChangeShapes Go.WideShapes Go.ChangeAt Go.RowKit
open Go.ChangeMaps (open_string shut_string)
set_option linter.unusedVariables false
theorem own : ownKnob Try.prog.godebug = none := by kernel_rfl
theorem laidOut : laidOutB Try.prog = true := by kernel_rfl
def IsRow (k : IntKind) (w : World) (a : Option Addr) (len cap : Nat) (zs : List Int) : Prop :=
  (a = none ∧ len = 0 ∧ cap = 0 ∧ zs = []) ∨
  ∃ x, a = some x ∧ len ≤ cap ∧ cap ≤ maxLen ∧ zs.length = cap ∧ (∀ i, i < zs.length → w.cell? (x.add i) = some (.int k (zs.getD i 0))) ∧ ∀ n ∈ zs, (Lit.int k n).wf = true
theorem walk (w : World) (a0 : Option Addr) (cap0 : Nat) (z0 : List (List (List Int))) (hk0 : z0.length ≤ cap0) (hr0 : M.C3 w a0 z0) (b0 : z0.length < 1152921504606846976) (c0 : ∀ r ∈ z0, r.length < 1152921504606846976) (d0 : ∀ r ∈ z0, ∀ l ∈ r, l.length ≤ 17592186044416) (a1 : Option Addr) (len1 cap1 : Nat) (z1 : List Int) (w1 : IsRow .i64 w a1 len1 cap1 z1) (y1 : len1 * 8 ≤ 140737488351232) (x2 : Int) (w2 : (Lit.int .i64 x2).wf = true) :
    Calls Try.prog 9 #[.agg #[.slice a0 z0.length cap0], .slice a1 len1 cap1, .int .i64 x2] w fun e w' => e = .returned (.bool true) ∧ Below w.heap.size w w' := by
  obtain ⟨l1, rfl, hr1, hm1, hw1, hc1⟩ := Go.Proofs.YtkgocbmnjlfkoaaW.PrintWords.ReadsInt.ofRowC w1
  exact M.mustSteps_walk a0 cap0 z0 a1 cap1 l1 x2 w hr0 hk0 b0 c0 d0 (Go.Proofs.YtkgocbmnjlfkoaaW.PrintWords.Kd.C_of_reads (d := (0 : Int)) (h1 := fun _ => rfl) hr1) hc1 (by omega)
set_option maxRecDepth 100000 in
theorem lifted (os : Os) (started : os.Started) (H : Type) (enc : TypeId × Value → H) :
    ReturnsInHanded {} Try.checked os 9 .any (Rows.mustStepsSpec.pre6 enc Try.prog Try.f9 Rows.mustStepsRow.domain false) (Rows.mustStepsSpec.post enc Try.prog Try.f9 false true false false) := by
  refine returnsInHanded_of_change_sized (C := Try.checked) own started (by kernel_rfl) Try.func9
    (ChangeSpec.witness6 (enc := enc) (C := Try.checked) false ⟨#[], #[.agg #[.slice none 0 0], .slice none 0 0, .int .i64 0], []⟩ 8 (by kernel_rfl) (by kernel_rfl) (by kernel_rfl) (by kernel_rfl)) ?_
  intro W base args ds gs before hval0 hW hcnd hsz0 _
  have hsz : (DataW.weightsEach Try.prog (Try.f9.params.toList ++ Rows.mustStepsSpec.plain.varTypes Try.prog) (ds ++ gs)).all (· ≤ reachBytes) = true := hsz0
  have hval : ∀ (j : Nat) t v, Try.f9.params[j]? = some t → args[j]? = some v → Value.okWide Try.prog W .any base t v := hval0
  have hW' := hW
  obtain ⟨p, q, hA0, hV, rfl, hfz, hnd⟩ := hW
  have hA : DataW.TrodAll enc Try.prog W 0 (fun _ => true) true Try.f9.params.toList args.toList ds p := hA0
  rw [Try.params9] at hA hval hsz
  obtain ⟨v0, vs0, d0, ds0, p0, q0, hargs, rfl, rfl, h0, r0⟩ := trodAll_cons hA
  obtain ⟨v1, vs1, d1, ds1, p1, q1, rfl, rfl, rfl, h1, r1⟩ := trodAll_cons r0
  obtain ⟨v2, vs2, d2, ds2, p2, q2, rfl, rfl, rfl, h2, r2⟩ := trodAll_cons r1
  obtain ⟨rfl, rfl, rfl⟩ := trodAll_nil r2
  obtain rfl : args = #[v0, v1, v2] := by cases args; simp_all
  obtain ⟨rfl, rfl⟩ := trodVars_none hV
  have k0 := h0
  have lt0 : ∀ x ∈ p0, x.block < W.heap.size := by obtain ⟨m, hm⟩ := k0; exact DataW.trod_lt m _ _ _ hm
  obtain ⟨a0, cap0, z0, rfl, e0, f0, g0, i0, j0⟩ := M.open_must (hval 0 39 v0 rfl rfl) h0 (fun n hn => by simpa using List.all_eq_true.1 hsz n (DataW.weights_mem_each (j := 0) (t := 39) rfl rfl n hn))
  have k1 := h1
  have lt1 : ∀ x ∈ p1, x.block < W.heap.size := by obtain ⟨m, hm⟩ := k1; exact DataW.trod_lt m _ _ _ hm
  obtain ⟨a1, len1, cap1, rfl⟩ := okWide_slice Try.underlying22 (hval 1 22 v1 rfl rfl)
  obtain ⟨z1, w1⟩ : ∃ zs, IsRow .i64 W a1 len1 cap1 zs := by
    obtain ⟨fuel, hf⟩ := h1
    rcases open_ints Try.underlying22 Try.underlying3 (by kernel_rfl) hf with ⟨hcs, _⟩ | ⟨x, l, c, zs, hcs, _, hl, hm, hz, _, hcell, hwz⟩
    · simp [Value.cells] at hcs
      obtain ⟨rfl, rfl, rfl⟩ := hcs
      exact ⟨[], .inl ⟨rfl, rfl, rfl, rfl⟩⟩
    · simp [Value.cells] at hcs
      obtain ⟨rfl, rfl, rfl⟩ := hcs
      exact ⟨zs, .inr ⟨_, rfl, hl, hm, by simpa using hz, hcell, hwz⟩⟩
  have y1 : len1 * 8 ≤ 140737488351232 := Go.Proofs.YtkgocbmnjlfkoaaW.PrintWords.sized_ints hsz (j := 1) (t := 22) rfl rfl Try.underlying22 Try.underlying3 (by kernel_rfl) (by kernel_rfl) h1
  obtain ⟨x2, rfl, rfl, rfl, w2⟩ := open_int Try.underlying3 (hval 2 3 v2 rfl rfl) h2
  clear hA0 hval0 hsz0 hsz
  refine (walk W a0 cap0 z0 e0 f0 g0 i0 j0 a1 len1 cap1 z1 w1 y1 x2 w2).mono fun e W' ⟨he, bel⟩ => ?_
  subst he
  exact ⟨_, rfl, _, _, _, [], _, [], hW', trodAll_mk1 (shut_bool Try.underlying4 _), (trodAll_cons_mk (Below.trod laidOut (by kernel_rfl) (of_decide_eq_true (by kernel_rfl)) k0 bel lt0) (trodAll_cons_mk (Below.trod laidOut (by kernel_rfl) (of_decide_eq_true (by kernel_rfl)) k1 bel lt1) (trodAll_cons_mk (shut_int Try.underlying3 w2) trodAll_mk0))), rfl, bel.frame _, fun h => by cases h⟩
theorem over : Rows.mustStepsRow.holds Try.pinned (OpenSpec.ofChange Rows.mustStepsSpec) :=
  OpenClaim.holds_of_wide 9 Try.f9 rfl rfl rfl rfl rfl rfl rfl ⟨rfl, rfl, rfl, rfl, rfl⟩ rfl rfl rfl rfl rfl (by kernel_rfl) Try.func9 (by kernel_rfl)
    (of_decide_eq_true (by kernel_rfl)) (by unfold Func.isWrapper; first | (rw [if_pos (by decide +kernel)]; kernel_rfl) | (rw [if_neg (by decide +kernel)]; exact ⟨rfl, rfl⟩))
    (fun os started H enc _ => lifted os started H enc)
theorem proved : Rows.MustStepsSaid := over
#print axioms proved
end Go.Proofs.Ytkgocbmnjlfkoaa.mustSteps
namespace Go.Proofs.Ytkgocbmnjlfkoaa
theorem mustSteps_holds : Rows.MustStepsSaid := mustSteps.proved
end Go.Proofs.Ytkgocbmnjlfkoaa
end
