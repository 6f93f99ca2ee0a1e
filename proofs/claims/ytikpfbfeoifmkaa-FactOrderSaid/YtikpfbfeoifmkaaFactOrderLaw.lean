/- The law FactOrder (the order of terms does not matter, what Of returns is valid and stays as it is, terms that cancel are left out) tells true for every input, in every world, as the given statement FactOrderSaid says. Conditions: those of the given statement and no others. -/
import Derived.Test.YtikpfbfeoifmkaaFactOrderPart4
import Derived.SizedLaws
import Derived.ChangeSlices
import Derived.Test.YtikpfbfeoifmkaaRows
import Derived.WalkKit
import Derived.ProofKit
import Derived.OpenShut
import Derived.ShutString
import Derived.ChangeOld
import Derived.Below
section
namespace Go.Proofs.Ytikpfbfeoifmkaa.X
open Go.RowKit Go.Proofs.YtikpfbfeoifmkaaW.PrintWords Go.Proofs.YtikpfbfeoifmkaaW.PrintLast Go.Proofs.YtikpfbfeoifmkaaW.PrintMore
attribute [local go_sem] max2_int min2_int max_two min_two max_three min_three max_four min_four
set_option linter.unusedVariables false
set_option linter.unusedSimpArgs false
def fact_Add.j0 : Nat → Int → Int → Bool → List (S44) → Int → List (S44) → Int → Option ((List (S44)) × Int × Int)
  | 0, _, _, _, _, _, _, _ => none
  | k + 1, x2, x3, x37, x102000, x102001, x103000, x103001 => if x37 = true then (some (([] : List (S44)), 0, 3)) else ((fact_times.f k x102000 x102001 x2).bind fun t106 => ((fact_times.f k x103000 x103001 x3).bind fun t109 => (if t106.length + t109.length < 8796093022208 then ((fact_Of.f k (t106 ++ t109) (wrap64 ((wrap64 (x2 * x102001)) + (wrap64 (x3 * x103001))))).bind fun bt115 => (some (bt115.1, bt115.2.1, bt115.2.2))) else (none))))
def fact_Add.f (k : Nat) (l0_0 : List (S44)) (a0_1 : Int) (l1_0 : List (S44)) (a1_1 : Int) (a2 : Int) (a3 : Int) : Option ((List (S44)) × Int × Int) := (fact_Check.f k l0_0 a0_1).bind fun t104 => (if t104 = 0 then ((fact_Check.f k l1_0 a1_1).bind fun t105 => (if t105 = 0 then (if a2 < 0 then (fact_Add.j0 k a2 a3 true l0_0 a0_1 l1_0 a1_1) else (if a2 > 1048576 then (fact_Add.j0 k a2 a3 true l0_0 a0_1 l1_0 a1_1) else (if a3 < 0 then (fact_Add.j0 k a2 a3 true l0_0 a0_1 l1_0 a1_1) else (fact_Add.j0 k a2 a3 (decide (a3 > 1048576)) l0_0 a0_1 l1_0 a1_1)))) else (some (([] : List (S44)), 0, t105)))) else (some (([] : List (S44)), 0, t104)))
end Go.Proofs.Ytikpfbfeoifmkaa.X
end
section
namespace Go.Proofs.Ytikpfbfeoifmkaa.Z
open Go.RowKit Go.Proofs.Ytikpfbfeoifmkaa.X Go.Proofs.YtikpfbfeoifmkaaW.PrintWords Go.Proofs.YtikpfbfeoifmkaaW.PrintLast
set_option linter.unusedVariables false
set_option linter.unusedSimpArgs false
theorem cf_bound {l : List S44} {M : Int} (h : ∀ t ∈ l, -M ≤ t.f1 ∧ t.f1 ≤ M) (b : Int) : -(l.length * M) ≤ cf l b ∧ cf l b ≤ l.length * M := by
  induction l with
  | nil => simp [cf]
  | cons t l ih =>
   have h1 := h t (by simp)
   have h2 := ih fun x hx => h x (by simp [hx])
   simp only [cf, List.length_cons]
   rw [show ((l.length + 1 : Nat) : Int) * M = l.length * M + M from by rw [Int.natCast_add, Int.add_mul]; simp]
   by_cases e : t.f0 = b
   ·rw [if_pos e]; omega
   ·rw [if_neg e]; omega
theorem Canon.cf_eq {r : List S44} {c : Int → Int} (h : Canon r c) {t : S44} (ht : t ∈ r) : t.f1 = c t.f0 := by
  rw [← h.sums]
  have key : ∀ r : List S44, (r.Pairwise fun x y => x.f0 < y.f0) → t ∈ r → t.f1 = cf r t.f0 := by
   intro r
   induction r with
   | nil => intro _ h; simp at h
   | cons a r ih =>
    intro hp ht
    rcases List.mem_cons.1 ht with rfl | ht'
    ·exact (cf_head hp).symm
    ·have h1 := ih (List.pairwise_cons.1 hp).2 ht'
     have h2 := (List.pairwise_cons.1 hp).1 t ht'
     show _ = (if a.f0 = t.f0 then a.f1 else 0) + cf r t.f0
     rw [if_neg (by omega), ← h1]
     omega
  exact key r h.inc ht
structure Made (l : List S44) (r : List S44) (m : Int) : Prop where
  good : Good r m
  len : r.length ≤ l.length
  short : r.length ≤ 64
  cf_ : ∀ b, cf r b = cf l b
  canon : Canon r (cf l)
theorem Made.bd {l r : List S44} {m : Int} (h : Made l r m) {M : Int} (hM : ∀ t ∈ l, -M ≤ t.f1 ∧ t.f1 ≤ M) : ∀ t ∈ r, -(l.length * M) ≤ t.f1 ∧ t.f1 ≤ l.length * M := fun t ht => by
  rw [h.canon.cf_eq ht]
  exact cf_bound hM _
theorem Made.chk {l r : List S44} {m : Int} (h : Made l r m) : ChkIs r m 0 := Or.inr (Or.inr ⟨h.short, h.good, rfl⟩)
theorem OfIs.made {l : List S44} {m M : Int} {x : List S44 × Int × Int} (h : OfIs l m x) (hl : l.length ≤ 1024) (hm : sml m = true) (hb : ∀ t ∈ l, blk t.f0 = true)
   (hM : ∀ t ∈ l, -M ≤ t.f1 ∧ t.f1 ≤ M) (hM1 : M ≤ 1048576) (hM2 : l.length * M ≤ 1048576) (h64 : ∀ r, Canon r (cf l) → r.length ≤ l.length → r.length ≤ 64) : ∃ r, x = (r, m, 0) ∧ Made l r m := by
  have hF : Fine l m := ⟨hm, fun t ht => okT_iff.2 ⟨hb t ht, sml_iff.2 (by have := hM t ht; omega)⟩⟩
  rcases h with ⟨a, rfl⟩ | ⟨a, b, rfl⟩ | ⟨a, b, r, c1, c2, c3, c4⟩
  ·omega
  ·contradiction
  ·have small : ∀ t ∈ r, sml t.f1 = true := fun t ht => sml_iff.2 (by
    rw [c1.cf_eq ht]
    have := cf_bound hM t.f0
    omega)
   have hs := h64 r c1 c3
   rcases c4 with ⟨d, rfl⟩ | ⟨d, e, rfl⟩ | ⟨d, e, rfl⟩
   ·omega
   ·refine ⟨r, rfl, Good.mk hm c1.inc c1.nz fun t ht => okT_iff.2 ⟨blk_iff.2 (c2.mem t ht), small t ht⟩, c3, hs, c1.sums, c1⟩
   ·contradiction
end Go.Proofs.Ytikpfbfeoifmkaa.Z
end
section
namespace Go.Proofs.Ytikpfbfeoifmkaa.X
open Go.RowKit Go.Proofs.YtikpfbfeoifmkaaW.PrintWords Go.Proofs.YtikpfbfeoifmkaaW.PrintLast Go.Proofs.YtikpfbfeoifmkaaW.PrintMore
attribute [local go_sem] max2_int min2_int max_two min_two max_three min_three max_four min_four
set_option linter.unusedVariables false
set_option linter.unusedSimpArgs false
def timeboundlaw11_some.l0 : Nat → Int → List (S44) → Int → List Int → Int → Option ((List (S44)) × Int × Int)
  | 0, _, _, _, _, _ => none
  | k + 1, x1, x5, x6, x1000, x1001 => if x6 < x1 then ((timeboundmake_Deck_Next.f x1000 x1001 2).bind fun bt110 => (if bt110.1 = 1 then ((timeboundmake_Deck_Next.f x1000 bt110.2 9).bind fun bt112 => (if x5.length < 8796093022208 then (timeboundlaw11_some.l0 k x1 (x5 ++ [(⟨x6, wrap64 (bt112.1 - 4)⟩ : S44)]) (wrap64 (x6 + 1)) x1000 bt112.2) else (none))) else (timeboundlaw11_some.l0 k x1 x5 (wrap64 (x6 + 1)) x1000 bt110.2))) else ((timeboundmake_Deck_Next.f x1000 x1001 30).bind fun bt102 => ((timeboundref11_Of.f k x5 (wrap64 (bt102.1 - 5))).bind fun bt104 => (some (bt104.1, bt104.2.1, bt102.2))))
def timeboundlaw11_some.f (k : Nat) (s0_0 : List Int) (s0_1 : Int) (a1 : Int) : Option ((List (S44)) × Int × Int) := timeboundlaw11_some.l0 k a1 ([] : List (S44)) 0 s0_0 s0_1
mutual
def timeboundlaw11_maps.l0 : Nat → Int → List (List Int) → Int → Int → List Int → Int → Option ((List (List Int)) × Int)
  | 0, _, _, _, _, _, _ => none
  | k + 1, x1, x5, x6, x7, x1000, x1001 => if x7 < x1 then ((timeboundmake_Deck_Next.f x1000 x1001 3).bind fun bt101 => (timeboundlaw11_maps.l1 k x1 x5 x6 x7 ([] : List Int) bt101.1 x1000 bt101.2)) else (some (x5, x1001))
def timeboundlaw11_maps.l1 : Nat → Int → List (List Int) → Int → Int → List Int → Int → List Int → Int → Option ((List (List Int)) × Int)
  | 0, _, _, _, _, _, _, _, _ => none
  | k + 1, x1, x5, x6, x7, x8, x9, x1000, x1001 => if x9 > 0 then (if x8.length < 17592186044416 then (timeboundlaw11_maps.l1 k x1 x5 (wrap64 (x6 + 1)) x7 (x8 ++ [x6]) (wrap64 (x9 - 1)) x1000 x1001) else (none)) else ((timeboundmake_Deck_Next.f x1000 x1001 9).bind fun bt106 => (if bt106.1 = 8 then (if x6 > 0 then ((timeboundmake_Deck_Next.f x1000 bt106.2 x6).bind fun bt108 => (if x8.length < 17592186044416 then (if x5.length < 5864062014805 then (timeboundlaw11_maps.l0 k x1 (x5 ++ [(x8 ++ [bt108.1])]) x6 (wrap64 (x7 + 1)) x1000 bt108.2) else (none)) else (none))) else (if x5.length < 5864062014805 then (timeboundlaw11_maps.l0 k x1 (x5 ++ [x8]) x6 (wrap64 (x7 + 1)) x1000 bt106.2) else (none))) else (if x5.length < 5864062014805 then (timeboundlaw11_maps.l0 k x1 (x5 ++ [x8]) x6 (wrap64 (x7 + 1)) x1000 bt106.2) else (none))))
end
def timeboundlaw11_maps.f (k : Nat) (s0_0 : List Int) (s0_1 : Int) (a1 : Int) : Option ((List (List Int)) × Int) := timeboundlaw11_maps.l0 k a1 ([] : List (List Int)) 0 0 s0_0 s0_1
mutual
def timeboundref13_Sums.l0 : Nat → List (List Int) → List Int → List Int → Int → Option (List Int)
  | 0, _, _, _, _ => none
  | k + 1, x0, x1, x5, x6 => if x6 < (x0.length : Int) then (timeboundref13_Sums.l1 k x0 x1 x5 x6 0) else (some x5)
def timeboundref13_Sums.l1 : Nat → List (List Int) → List Int → List Int → Int → Int → Option (List Int)
  | 0, _, _, _, _, _ => none
  | k + 1, x0, x1, x5, x6, x7 => if 0 ≤ x6 then (if x6 < (x0.length : Int) then (if x7 < ((rd_L2 x0 x6).length : Int) then (if x6 < (x5.length : Int) then (if 0 ≤ x7 then (if 0 ≤ (rd (rd_L2 x0 x6) x7) then (if (rd (rd_L2 x0 x6) x7) < (x1.length : Int) then (timeboundref13_Sums.l1 k x0 x1 (x5.set (x6 : Int).toNat (wrap64 ((rd x5 x6) + (rd x1 (rd (rd_L2 x0 x6) x7))))) x6 (wrap64 (x7 + 1))) else (none)) else (none)) else (none)) else (none)) else (timeboundref13_Sums.l0 k x0 x1 x5 (wrap64 (x6 + 1)))) else (none)) else (none)
end
def timeboundref13_Sums.f (k : Nat) (l0 : List (List Int)) (l1 : List Int) : Option (List Int) := if 0 ≤ (l0.length : Int) then (if ((l0.length : Int) : Int).toNat ≤ 35184372088832 then (timeboundref13_Sums.l0 k l0 l1 (List.replicate ((l0.length : Int) : Int).toNat 0) 0) else (none)) else (none)
def timeboundmake_Sums.f (k : Nat) (l0 : List (List Int)) (l1 : List Int) : Option (List Int) := (timeboundref13_Sums.f k l0 l1).bind fun t101 => (some t101)
end Go.Proofs.Ytikpfbfeoifmkaa.X
end
section
namespace Go.Proofs.Ytikpfbfeoifmkaa.Z
open Go.RowKit Go.Proofs.Ytikpfbfeoifmkaa.X Go.Proofs.YtikpfbfeoifmkaaW.PrintWords Go.Proofs.YtikpfbfeoifmkaaW.PrintLast
set_option linter.unusedVariables false
set_option linter.unusedSimpArgs false
set_option maxRecDepth 100000 in
theorem awake1 : timeboundlaw11_awake.f 400 = some true := by decide +kernel
theorem awake_ : Ev (fun k => timeboundlaw11_awake.f k) true := Ev.of timeboundlaw11_awake.mono awake1
theorem u8_ {a : Int} (h : (Lit.int .u8 a).wf = true) : 0 ≤ a ∧ a ≤ 255 := by
  simp [Lit.wf, IntKind.min, IntKind.max, IntKind.signed, IntKind.bits] at h
  omega
theorem i16_ {a : Int} (h : (Lit.int .i16 a).wf = true) : -32768 ≤ a ∧ a ≤ 32767 := by
  simp [Lit.wf, IntKind.min, IntKind.max, IntKind.signed, IntKind.bits] at h
  omega
structure Deck (xs : List Int) (s : Int) : Prop where
  len : xs.length ≤ 400
  lo : 0 ≤ s
  hi : s ≤ xs.length
theorem mod_ (a n : Int) (h : 1 ≤ n) (h2 : n ≤ 1048576) : ∃ v, timeboundmake_Mod.f a n = some v ∧ 0 ≤ v ∧ v < n := by
  have h1 := Int.lt_tmod_of_pos a (b := n) (by omega)
  have h3 := Int.tmod_lt_of_pos a (b := n) (by omega)
  unfold timeboundmake_Mod.f
  rw [if_neg (by omega), w64 (by omega) (by omega)]
  exact ⟨_, rfl, Int.tmod_nonneg _ (by omega), Int.tmod_lt_of_pos _ (by omega)⟩
theorem next_ {xs : List Int} {s : Int} (h : Deck xs s) (n : Int) (h1 : 1 ≤ n) (h2 : n ≤ 1048576) : ∃ v s', timeboundmake_Deck_Next.f xs s n = some (v, s') ∧ 0 ≤ v ∧ v < n ∧ Deck xs s' := by
  obtain ⟨a, b, c⟩ := h
  unfold timeboundmake_Deck_Next.f
  by_cases h3 : s ≥ (xs.length : Int)
  ·rw [if_pos h3]
   exact ⟨0, s, rfl, by omega, by omega, a, b, c⟩
  ·rw [if_neg h3]
   by_cases h4 : n ≤ 1
   ·rw [if_pos h4]
    exact ⟨0, s, rfl, by omega, by omega, a, b, c⟩
   ·rw [if_neg h4, w64 (n := s + 1) (by omega) (by omega), w64 (n := s + 1 - 1) (by omega) (by omega), if_pos (by omega), if_pos (by omega)]
    obtain ⟨v, hv, k0, k1⟩ := mod_ (rd xs (s + 1 - 1)) n h1 h2
    rw [hv, Option.bind_some]
    exact ⟨v, s + 1, rfl, k0, k1, a, by omega, by omega⟩
structure Fact (r : List S44) (m : Int) (n : Nat) : Prop where
  good : Good r m
  len : r.length ≤ n
  coef : ∀ t ∈ r, -(n * 4 : Int) ≤ t.f1 ∧ t.f1 ≤ n * 4
  place : ∀ t ∈ r, 0 ≤ t.f0 ∧ t.f0 < n
  short : r.length ≤ 64
  cst : -5 ≤ m ∧ m ≤ 24
theorem Fact.chk {r : List S44} {m : Int} {n : Nat} (h : Fact r m n) : ChkIs r m 0 := Or.inr (Or.inr ⟨h.short, h.good, rfl⟩)
structure Rows (mp : List (List Int)) (n : Nat) (B : Int) : Prop where
  len : mp.length = n
  row : ∀ r ∈ mp, r.length ≤ 3 ∧ ∀ x ∈ r, 0 ≤ x ∧ x < B
theorem Rows.ok {mp : List (List Int)} {n : Nat} {B : Int} (h : Rows mp n B) (hn : n ≤ 256) (hB : B ≤ 256) : MapOk mp :=
  ⟨by have := h.len; omega, fun r hr => rowOk_iff.2 ⟨by have := (h.row r hr).1; omega, fun x hx => blk_iff.2 (by have := (h.row r hr).2 x hx; omega)⟩⟩
end Go.Proofs.Ytikpfbfeoifmkaa.Z
end
section
namespace Go.Proofs.Ytikpfbfeoifmkaa.Pure
open Go.RowKit Go.Proofs.Ytikpfbfeoifmkaa.X Go.Proofs.Ytikpfbfeoifmkaa.Z Go.Proofs.YtikpfbfeoifmkaaW.PrintWords Go.Proofs.YtikpfbfeoifmkaaW.PrintLast
set_option linter.unusedVariables false
def Drawn (l : List S44) : Prop := ∀ t ∈ l, (0 ≤ t.f0 ∧ t.f0 < 12) ∧ (-10 ≤ t.f1 ∧ t.f1 ≤ 10)
def both (l : List S44) : List S44 := l.flatMap fun t => [⟨t.f0, t.f1⟩, ⟨t.f0, -t.f1⟩]
theorem both_length (l : List S44) : (both l).length = 2 * l.length := by
  induction l with
  | nil => rfl
  | cons t l ih =>
   have e : both (t :: l) = ⟨t.f0, t.f1⟩ :: ⟨t.f0, -t.f1⟩ :: both l := rfl
   rw [e]
   simp only [List.length_cons, ih]
   omega
theorem both_cf (l : List S44) (b : Int) : cf (both l) b = 0 := by
  induction l with
  | nil => rfl
  | cons t l ih =>
   have e : both (t :: l) = ⟨t.f0, t.f1⟩ :: ⟨t.f0, -t.f1⟩ :: both l := rfl
   rw [e]
   simp only [cf, ih]
   by_cases h : t.f0 = b
   ·rw [if_pos h, if_pos h]; omega
   ·rw [if_neg h, if_neg h]; rfl
theorem both_take {l : List S44} {i : Nat} (h : i < l.length) : both (l.take (i + 1)) = both (l.take i) ++ [⟨(gd l i).f0, (gd l i).f1⟩, ⟨(gd l i).f0, -(gd l i).f1⟩] := by
  unfold both
  rw [take_succ_gd h, List.flatMap_append]
  rfl
theorem Drawn.made {l : List S44} (h : Drawn l) (hl : l.length ≤ 60) {m : Int} (hm : -32768 ≤ m ∧ m ≤ 32767) {x : List S44 × Int × Int} (k : OfIs l m x) : ∃ r, x = (r, m, 0) ∧ Made l r m :=
  k.made (M := 10) (by omega) (sml_iff.2 (by omega)) (fun t ht => blk_iff.2 (by have := (h t ht).1; omega)) (fun t ht => (h t ht).2) (by omega) (by omega) (fun r _ h => by omega)
theorem Drawn.both {l : List S44} (h : Drawn l) : Drawn (both l) := fun t ht => by
  obtain ⟨s, hs, ht⟩ := List.mem_flatMap.1 ht
  have := h s hs
  rcases List.mem_cons.1 ht with rfl | ht
  ·exact this
  ·rw [List.mem_singleton.1 ht]
   exact ⟨this.1, show -10 ≤ -s.f1 ∧ -s.f1 ≤ 10 by omega⟩
theorem last_ (L R : List S44) (hL : Drawn L) (hLl : L.length ≤ 30) (hR : L.Perm R) (m : Int) (hm : -32768 ≤ m ∧ m ≤ 32767) (d : Nat) : ∀ i : Nat, L.length - i = d → i ≤ L.length →
   Ev (fun k => timeboundlaw11_FactOrder.l2 k m L R (both (L.take i)) i) true := by
  have hRl := hR.length_eq
  have hRd : Drawn R := fun t ht => hL t (hR.mem_iff.2 ht)
  induction d with
  | zero =>
   intro i hd hi
   rw [List.take_of_length_le (by omega)]
   obtain ⟨x1, e1, k1⟩ := of_fact L m (by omega)
   obtain ⟨r1, rfl, q1⟩ := hL.made (by omega) hm k1
   obtain ⟨x2, e2, k2⟩ := of_fact R m (by omega)
   obtain ⟨r2, rfl, q2⟩ := hRd.made (by omega) hm k2
   have hs := q1.short
   obtain ⟨x3, e3, k3⟩ := of_fact r1 m (by omega)
   obtain ⟨r3, rfl, q3⟩ := k3.made (M := 300) (by omega) (sml_iff.2 (by omega)) (fun t ht => (okT_iff.1 (q1.good.fine.2 t ht)).1) (fun t ht => by have := q1.bd (fun t ht => (hL t ht).2) t ht; omega) (by omega) (by omega) (fun r _ h => by omega)
   obtain ⟨x4, e4, k4⟩ := of_fact (both L) m (by rw [both_length]; omega)
   obtain ⟨r4, rfl, q4⟩ := hL.both.made (by rw [both_length]; omega) hm k4
   have hr2 : r1 = r2 := q1.canon.unique ⟨q2.canon.inc, q2.canon.nz, fun b => by rw [q2.cf_, cf_perm hR]⟩
   have hr3 : r1 = r3 := q1.canon.unique ⟨q3.canon.inc, q3.canon.nz, fun b => by rw [q3.cf_, q1.cf_]⟩
   have hr4 : r4 = [] := q4.canon.unique ⟨List.Pairwise.nil, by simp, fun b => (both_cf L b).symm⟩
   subst hr2
   subst hr3
   subst hr4
   obtain ⟨e, he, ke⟩ := check_fact r1 m
   obtain rfl := ke.unique q1.chk
   refine Ev.step (fun k => by rw [timeboundlaw11_FactOrder.l2]) ?_
   have hw : wrap64 m = m := by rw [w64] <;> omega
   rw [hw]
   refine evn (by omega) (evb e1 (evb e2 (evb e3 (evb e4 (evp rfl (evp rfl (evp rfl (evp rfl (evb he (evp rfl ?_))))))))))
   have hsame := same_refl r1 m (by omega)
   refine evb hsame (evp rfl (evb hsame (evp rfl (evp rfl (evp rfl (evb awake_ ?_))))))
   exact Ev.step (fun k => by rw [timeboundlaw11_FactOrder.j3]) (evr _)
  | succ d ih =>
   intro i hd hi
   have hi1 : i < L.length := by omega
   have g := ih (i + 1) (by omega) (by omega)
   have ht := hL _ (List.getElem_mem hi1)
   rw [← gd_lt hi1] at ht
   rw [both_take hi1] at g
   have hlen : (both (L.take i)).length ≤ 60 := by rw [both_length, List.length_take]; omega
   refine Ev.step (fun k => by rw [timeboundlaw11_FactOrder.l2]) ?_
   refine evp (by omega) (evp (by omega) ?_)
   rw [rd_gd, show wrap64 (-(gd L i).f1) = -(gd L i).f1 from by rw [w64] <;> omega, show wrap64 ((i : Int) + 1) = ((i + 1 : Nat) : Int) from by rw [w64] <;> omega]
   refine evs (evp ?_ g)
   simp only [List.length_cons, List.length_nil]
   omega
theorem turn_ (L : List S44) (hL : Drawn L) (hLl : L.length ≤ 30) (a : Int) (ha : 0 ≤ a ∧ a ≤ 255) (m : Int) (hm : -32768 ≤ m ∧ m ≤ 32767) (d : Nat) : ∀ (i : Nat) (R : List S44), L.length - i = d → i ≤ L.length → R.length = i → (∀ j, j < i → gd R j = gd L ((j + a.toNat) % L.length)) →
   Ev (fun k => timeboundlaw11_FactOrder.l1 k a m L R i) true := by
  induction d with
  | zero =>
   intro i R hd hi hR h
   obtain rfl : i = L.length := by omega
   have hperm : L.Perm R := by
    by_cases h0 : L.length = 0
    ·rw [List.length_eq_zero_iff.1 h0, List.length_eq_zero_iff.1 (hR.trans h0)]
    ·have hc : a.toNat % L.length < L.length := Nat.mod_lt _ (by omega)
     have e : R = L.drop (a.toNat % L.length) ++ L.take (a.toNat % L.length) := by
      refine gd_ext (by rw [List.length_append, List.length_drop, List.length_take, hR]; omega) fun j hj => ?_
      rw [h j (by omega)]
      have hmod : (j + a.toNat) % L.length = if j + a.toNat % L.length < L.length then j + a.toNat % L.length else j + a.toNat % L.length - L.length := by
       rw [Nat.add_mod, Nat.mod_eq_of_lt (show j < L.length by omega)]
       by_cases hh : j + a.toNat % L.length < L.length
       ·rw [if_pos hh, Nat.mod_eq_of_lt hh]
       ·rw [if_neg hh, Nat.mod_eq_sub_mod (by omega), Nat.mod_eq_of_lt (by omega)]
      rw [hmod]
      unfold Z.gd
      simp only [List.getD_eq_getElem?_getD]
      by_cases hh : j + a.toNat % L.length < L.length
      ·rw [if_pos hh, List.getElem?_append_left (by rw [List.length_drop]; omega), List.getElem?_drop, Nat.add_comm j]
      ·rw [if_neg hh, List.getElem?_append_right (by rw [List.length_drop]; omega), List.length_drop, List.getElem?_take, if_pos (by omega), show j - (L.length - a.toNat % L.length) = j + a.toNat % L.length - L.length from by omega]
     rw [e]
     have := List.take_append_drop (a.toNat % L.length) L
     exact (List.Perm.of_eq this.symm).trans List.perm_append_comm
   have g : Ev (fun k => timeboundlaw11_FactOrder.l2 k m L R [] 0) true := last_ L R hL hLl hperm m hm _ 0 rfl (by omega)
   refine Ev.step (fun k => by rw [timeboundlaw11_FactOrder.l1]) ?_
   exact evn (by omega) g
  | succ d ih =>
   intro i R hd hi hR h
   have hi1 : i < L.length := by omega
   have hidx : Int.tmod (wrap64 ((i : Int) + wrap64 a)) (L.length : Int) = (((i + a.toNat) % L.length : Nat) : Int) := by
    rw [w64 (n := a) (by omega) (by omega), w64 (by omega) (by omega), show (i : Int) + a = ((i + a.toNat : Nat) : Int) from by omega]
    rfl
   have hlt : (i + a.toNat) % L.length < L.length := Nat.mod_lt _ (by omega)
   have g := ih (i + 1) (R ++ [gd L ((i + a.toNat) % L.length)]) (by omega) (by omega) (by rw [List.length_append, hR]; rfl) (fun j hj => by
    by_cases e : j = i
    ·subst e
     unfold Z.gd
     simp only [List.getD_eq_getElem?_getD]
     rw [List.getElem?_append_right (by omega), hR]
     simp
    ·rw [← h j (by omega)]
     unfold Z.gd
     simp only [List.getD_eq_getElem?_getD]
     rw [List.getElem?_append_left (by omega)])
   refine Ev.step (fun k => by rw [timeboundlaw11_FactOrder.l1]) ?_
   rw [hidx]
   refine evp (by omega) (evn (by omega) (evp (by omega) (evp (by omega) (evp (by omega) ?_))))
   rw [rd_gd, show wrap64 ((i : Int) + 1) = ((i + 1 : Nat) : Int) from by rw [w64] <;> omega]
   exact g
theorem draw_ (a : Int) (ha : 0 ≤ a ∧ a ≤ 255) (m : Int) (hm : -32768 ≤ m ∧ m ≤ 32767) (xs : List Int) (d : Nat) : ∀ (L : List S44) (s : Int), Deck xs s → Drawn L → L.length + d ≤ 30 →
   Ev (fun k => timeboundlaw11_FactOrder.l0 k a m L d xs s) true := by
  induction d with
  | zero =>
   intro L s hD hL hl
   have g : Ev (fun k => timeboundlaw11_FactOrder.l1 k a m L [] 0) true := turn_ L hL (by omega) a ha m hm _ 0 [] rfl (by omega) rfl (fun j hj => by omega)
   refine Ev.step (fun k => by rw [timeboundlaw11_FactOrder.l0]) ?_
   exact evn (by omega) g
  | succ d ih =>
   intro L s hD hL hl
   obtain ⟨v, s1, hv, v0, v1, hD1⟩ := next_ hD 12 (by omega) (by omega)
   obtain ⟨u, s2, hu, u0, u1, hD2⟩ := next_ hD1 21 (by omega) (by omega)
   have g := ih (L ++ [⟨v, u - 10⟩]) s2 hD2 (fun t ht => by
    rcases List.mem_append.1 ht with ht | ht
    ·exact hL t ht
    ·rw [List.mem_singleton.1 ht]
     exact ⟨⟨v0, v1⟩, show -10 ≤ u - 10 ∧ u - 10 ≤ 10 by omega⟩) (by rw [List.length_append]; simp; omega)
   refine Ev.step (fun k => by rw [timeboundlaw11_FactOrder.l0]) ?_
   refine evp (by omega) (evc (fun k => by rw [hv, Option.bind_some, hu, Option.bind_some]) (evp (by omega) ?_))
   rw [show wrap64 (u - 10) = u - 10 from by rw [w64] <;> omega, show wrap64 (((d + 1 : Nat) : Int) - 1) = (d : Int) from by rw [w64] <;> omega]
   exact g
theorem FactOrder : timeboundlaw11_FactOrder.Pure := by
  intro l0 a1 a2 hl hl2 hw h1 h2
  have h1 := u8_ h1
  have h2 := i16_ h2
  refine Ev.rounds ?_
  unfold timeboundlaw11_FactOrder.f timeboundmake_Few.f
  by_cases h : (l0.length : Int) ≤ 400
  ·rw [decide_eq_true h]
   have hD : Deck l0 0 := ⟨by omega, by omega, by omega⟩
   obtain ⟨v, s, hv, v0, v1, hD1⟩ := next_ hD 30 (by omega) (by omega)
   obtain ⟨n, rfl⟩ : ∃ n : Nat, v = n := ⟨v.toNat, by omega⟩
   refine evs (evp rfl ?_)
   unfold timeboundmake_New.f
   refine evs (evc (fun k => by rw [hv, Option.bind_some]) ?_)
   exact draw_ a1 h1 a2 h2 l0 n [] s hD1 (by simp [Drawn]) (by simp; omega)
  ·rw [decide_eq_false h]
   exact evs (evn (by simp) (evb awake_ (evr _)))
end Go.Proofs.Ytikpfbfeoifmkaa.Pure
end
section
namespace Go.Proofs.YtikpfbfeoifmkaaW.PrintWords
open Go.ChangeShapes Go.WideShapes
theorem sized_ints {H : Type} {enc : TypeId × Value → H} {P : Program} {W : World} {base : Nat} {spare : Nat → Bool} {held : Bool} {t e : TypeId} {k : IntKind} {a : Option Addr} {len cap : Nat} {d : DataW H} {ps : List MemPlace} {ts : List TypeId} {ds : List (DataW H)} {j : Nat}
   (hsz : (DataW.weightsEach P ts ds).all (· ≤ reachBytes) = true) (ht : ts[j]? = some t) (hd : ds[j]? = some d) (hu : P.underlying t = some (.slice e)) (he : P.underlying e = some (.int k)) (hc : P.cellsOf e = 1) {B : Nat} (hB : P.bytesOf e = B)
   (h : DataW.Trod enc P W base spare held t (.slice a len cap) d ps) : len * B ≤ 140737488351232 := by
  obtain ⟨fuel, hf⟩ := h
  rcases open_ints hu he hc hf with ⟨hcs, _⟩ | ⟨x, l, c, zs, hcs, _, hl, _, hz, hx, _, _⟩
  ·simp [Value.cells] at hcs
   obtain ⟨rfl, rfl, rfl⟩ := hcs
   simp
  ·simp [Value.cells] at hcs
   obtain ⟨rfl, rfl, rfl⟩ := hcs
   obtain ⟨hx, _⟩ := Prod.mk.inj hx
   subst hx
   have z := sized_slice hsz ht hd hu
   rw [hB] at z
   have hl2 : len ≤ zs.length := by
    rw [hz]
    split
    ·exact hl
    ·exact Nat.le_refl _
   have h1 : (lits (H := H) k (zs.take len)).length + (lits (H := H) k (zs.drop len)).length = zs.length := by
    simp [lits]
    omega
   rw [h1] at z
   exact Nat.le_trans (Nat.mul_le_mul_right _ hl2) z
end Go.Proofs.YtikpfbfeoifmkaaW.PrintWords
end
section
namespace Go.Proofs.Ytikpfbfeoifmkaa.factOrder
open Go.ChangeShapes Go.WideShapes Go.ChangeAt Go.RowKit
open Go.ChangeMaps (open_string shut_string)
set_option linter.unusedVariables false
theorem own : ownKnob Try.prog.godebug = none := by kernel_rfl
theorem laidOut : laidOutB Try.prog = true := by kernel_rfl
def IsRow (k : IntKind) (w : World) (a : Option Addr) (len cap : Nat) (zs : List Int) : Prop :=
  (a = none ∧ len = 0 ∧ cap = 0 ∧ zs = []) ∨
  ∃ x, a = some x ∧ len ≤ cap ∧ cap ≤ maxLen ∧ zs.length = cap ∧ (∀ i, i < zs.length → w.cell? (x.add i) = some (.int k (zs.getD i 0))) ∧ ∀ n ∈ zs, (Lit.int k n).wf = true
set_option maxRecDepth 100000 in
theorem lifted (os : Os) (started : os.Started) (H : Type) (enc : TypeId × Value → H) :
   ReturnsInHanded {} Try.checked os 4 .any (Rows.factOrderSpec.pre6 enc Try.prog Try.f4 Rows.factOrderRow.domain false) (Rows.factOrderSpec.post enc Try.prog Try.f4 false true false false) := by
  refine returnsInHanded_of_change_sized (C := Try.checked) own started (by kernel_rfl) Try.func4
   (ChangeSpec.witness6 (enc := enc) (C := Try.checked) false ⟨#[], #[.slice none 0 0, .int .u8 0, .int .i16 0], []⟩ 8 (by kernel_rfl) (by kernel_rfl) (by kernel_rfl) (by kernel_rfl)) ?_
  intro W base args ds gs before hval0 hW hcnd hsz0 _
  have hsz : (DataW.weightsEach Try.prog (Try.f4.params.toList ++ Rows.factOrderSpec.plain.varTypes Try.prog) (ds ++ gs)).all (· ≤ reachBytes) = true := hsz0
  have hval : ∀ (j : Nat) t v, Try.f4.params[j]? = some t → args[j]? = some v → Value.okWide Try.prog W .any base t v := hval0
  have hW' := hW
  obtain ⟨p, q, hA0, hV, rfl, hfz, hnd⟩ := hW
  have hA : DataW.TrodAll enc Try.prog W 0 (fun _ => true) true Try.f4.params.toList args.toList ds p := hA0
  rw [Try.params4] at hA hval hsz
  obtain ⟨v0, vs0, d0, ds0, p0, q0, hargs, rfl, rfl, h0, r0⟩ := trodAll_cons hA
  obtain ⟨v1, vs1, d1, ds1, p1, q1, rfl, rfl, rfl, h1, r1⟩ := trodAll_cons r0
  obtain ⟨v2, vs2, d2, ds2, p2, q2, rfl, rfl, rfl, h2, r2⟩ := trodAll_cons r1
  obtain ⟨rfl, rfl, rfl⟩ := trodAll_nil r2
  obtain rfl : args = #[v0, v1, v2] := by cases args; simp_all
  obtain ⟨rfl, rfl⟩ := trodVars_none hV
  obtain ⟨a0, len0, cap0, rfl⟩ := okWide_slice Try.underlying22 (hval 0 22 v0 rfl rfl)
  have k0 := h0
  have lt0 : ∀ x ∈ p0, x.block < W.heap.size := by obtain ⟨m, hm⟩ := k0; exact DataW.trod_lt m _ _ _ hm
  obtain ⟨z0, w0⟩ : ∃ zs, IsRow .i64 W a0 len0 cap0 zs := by
   obtain ⟨fuel, hf⟩ := h0
   rcases open_ints Try.underlying22 Try.underlying3 (by kernel_rfl) hf with ⟨hcs, _⟩ | ⟨x, l, c, zs, hcs, _, hl, hm, hz, _, hcell, hwz⟩
   ·simp [Value.cells] at hcs
    obtain ⟨rfl, rfl, rfl⟩ := hcs
    exact ⟨[], .inl ⟨rfl, rfl, rfl, rfl⟩⟩
   ·simp [Value.cells] at hcs
    obtain ⟨rfl, rfl, rfl⟩ := hcs
    exact ⟨zs, .inr ⟨_, rfl, hl, hm, by simpa using hz, hcell, hwz⟩⟩
  have y0 : len0 * 8 ≤ 140737488351232 := Go.Proofs.YtikpfbfeoifmkaaW.PrintWords.sized_ints hsz (j := 0) (t := 22) rfl rfl Try.underlying22 Try.underlying3 (by kernel_rfl) (by kernel_rfl) h0
  obtain ⟨a1, rfl, rfl, rfl, w1⟩ := open_int Try.underlying5 (hval 1 5 v1 rfl rfl) h1
  obtain ⟨a2, rfl, rfl, rfl, w2⟩ := open_int Try.underlying42 (hval 2 42 v2 rfl rfl) h2
  clear hA0 hval0 hsz0 hsz
  refine (X.timeboundlaw11_FactOrder.walk Pure.FactOrder a0 len0 cap0 z0 a1 a2 W w0 y0 w1 w2).mono fun e W' ⟨he, bel⟩ => ?_
  subst he
  exact ⟨_, rfl, _, _, _, [], _, [], hW', trodAll_mk1 (shut_bool Try.underlying4 _), (trodAll_cons_mk (Below.trod laidOut (by kernel_rfl) (of_decide_eq_true (by kernel_rfl)) k0 bel lt0) (trodAll_cons_mk (shut_int Try.underlying5 w1) (trodAll_cons_mk (shut_int Try.underlying42 w2) trodAll_mk0))), rfl, bel.frame _, fun h => by cases h⟩
theorem over : Rows.factOrderRow.holds Try.pinned (OpenSpec.ofChange Rows.factOrderSpec) :=
  OpenClaim.holds_of_wide 4 Try.f4 rfl rfl rfl rfl rfl rfl rfl ⟨rfl, rfl, rfl, rfl, rfl⟩ rfl rfl rfl rfl rfl (by kernel_rfl) Try.func4 (by kernel_rfl)
   (of_decide_eq_true (by kernel_rfl)) (by unfold Func.isWrapper; first | (rw [if_pos (by decide +kernel)]; kernel_rfl) | (rw [if_neg (by decide +kernel)]; exact ⟨rfl, rfl⟩))
   (fun os started H enc _ => lifted os started H enc)
theorem proved : Rows.FactOrderSaid := over
#print axioms proved
end Go.Proofs.Ytikpfbfeoifmkaa.factOrder
namespace Go.Proofs.Ytikpfbfeoifmkaa
theorem factOrder_holds : Rows.FactOrderSaid := factOrder.proved
end Go.Proofs.Ytikpfbfeoifmkaa
end
