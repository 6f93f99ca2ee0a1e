/- The law FactGoesAlong (a mapped fact has the same sum over counts that add up along the map, and holds exactly if the fact does) tells true for every input, in every world, as the given statement FactGoesAlongSaid says. Conditions: those of the given statement and no others. -/
import Derived.Test.YtikpfbfeoifmkaaFactGoesAlongPart5
import Derived.SizedLaws
import Derived.ChangeSlices
import Derived.Test.YtikpfbfeoifmkaaRows
import Derived.WalkKit
import Derived.ProofKit
import Derived.OpenShut
import Derived.ShutString
import Derived.ChangeOld
import Derived.Below
section
namespace Go.Proofs.Ytikpfbfeoifmkaa.X
open Go.RowKit Go.Proofs.YtikpfbfeoifmkaaW.PrintWords Go.Proofs.YtikpfbfeoifmkaaW.PrintLast Go.Proofs.YtikpfbfeoifmkaaW.PrintMore
attribute [local go_sem] max2_int min2_int max_two min_two max_three min_three max_four min_four
set_option linter.unusedVariables false
set_option linter.unusedSimpArgs false
def fact_Add.j0 : Nat → Int → Int → Bool → List (S44) → Int → List (S44) → Int → Option ((List (S44)) × Int × Int)
  | 0, _, _, _, _, _, _, _ => none
  | k + 1, x2, x3, x37, x102000, x102001, x103000, x103001 => if x37 = true then (some (([] : List (S44)), 0, 3)) else ((fact_times.f k x102000 x102001 x2).bind fun t106 => ((fact_times.f k x103000 x103001 x3).bind fun t109 => (if t106.length + t109.length < 8796093022208 then ((fact_Of.f k (t106 ++ t109) (wrap64 ((wrap64 (x2 * x102001)) + (wrap64 (x3 * x103001))))).bind fun bt115 => (some (bt115.1, bt115.2.1, bt115.2.2))) else (none))))
def fact_Add.f (k : Nat) (l0_0 : List (S44)) (a0_1 : Int) (l1_0 : List (S44)) (a1_1 : Int) (a2 : Int) (a3 : Int) : Option ((List (S44)) × Int × Int) := (fact_Check.f k l0_0 a0_1).bind fun t104 => (if t104 = 0 then ((fact_Check.f k l1_0 a1_1).bind fun t105 => (if t105 = 0 then (if a2 < 0 then (fact_Add.j0 k a2 a3 true l0_0 a0_1 l1_0 a1_1) else (if a2 > 1048576 then (fact_Add.j0 k a2 a3 true l0_0 a0_1 l1_0 a1_1) else (if a3 < 0 then (fact_Add.j0 k a2 a3 true l0_0 a0_1 l1_0 a1_1) else (fact_Add.j0 k a2 a3 (decide (a3 > 1048576)) l0_0 a0_1 l1_0 a1_1)))) else (some (([] : List (S44)), 0, t105)))) else (some (([] : List (S44)), 0, t104)))
end Go.Proofs.Ytikpfbfeoifmkaa.X
end
section
namespace Go.Proofs.Ytikpfbfeoifmkaa.Z
open Go.RowKit Go.Proofs.Ytikpfbfeoifmkaa.X Go.Proofs.YtikpfbfeoifmkaaW.PrintWords Go.Proofs.YtikpfbfeoifmkaaW.PrintLast
set_option linter.unusedVariables false
set_option linter.unusedSimpArgs false
def lsum (r : List Int) (w : Int → Int) : Int := (r.map w).sum
theorem lsum_append (r s : List Int) (w : Int → Int) : lsum (r ++ s) w = lsum r w + lsum s w := by simp [lsum, List.map_append, List.sum_append]
theorem wsum_put (c : Int) (r : List Int) (w : Int → Int) : wsum (put c r) w = c * lsum r w := by
  induction r with
  | nil => simp [put, wsum, lsum]
  | cons b r ih =>
   have e : put c (b :: r) = ⟨b, c⟩ :: put c r := rfl
   rw [e]
   simp only [wsum, ih, lsum, List.map_cons, List.sum_cons, Int.mul_add]
theorem wsum_flat (l : List S44) (mp : List (List Int)) (w : Int → Int) : wsum (flat l mp) w = wsum l (fun x => lsum (rd_L2 mp x) w) := by
  induction l with
  | nil => rfl
  | cons t l ih =>
   have e : flat (t :: l) mp = put t.f1 (rd_L2 mp t.f0) ++ flat l mp := by simp [flat]
   rw [e, wsum_append, wsum_put, ih]
   rfl
theorem wsum_congr {l : List S44} {w w' : Int → Int} (h : ∀ t ∈ l, w t.f0 = w' t.f0) : wsum l w = wsum l w' := by
  induction l with
  | nil => rfl
  | cons t l ih => simp only [wsum, h t (by simp), ih (fun x hx => h x (by simp [hx]))]
theorem cf_bound {l : List S44} {M : Int} (h : ∀ t ∈ l, -M ≤ t.f1 ∧ t.f1 ≤ M) (b : Int) : -(l.length * M) ≤ cf l b ∧ cf l b ≤ l.length * M := by
  induction l with
  | nil => simp [cf]
  | cons t l ih =>
   have h1 := h t (by simp)
   have h2 := ih fun x hx => h x (by simp [hx])
   simp only [cf, List.length_cons]
   rw [show ((l.length + 1 : Nat) : Int) * M = l.length * M + M from by rw [Int.natCast_add, Int.add_mul]; simp]
   by_cases e : t.f0 = b
   ·rw [if_pos e]; omega
   ·rw [if_neg e]; omega
theorem Canon.cf_eq {r : List S44} {c : Int → Int} (h : Canon r c) {t : S44} (ht : t ∈ r) : t.f1 = c t.f0 := by
  rw [← h.sums]
  have key : ∀ r : List S44, (r.Pairwise fun x y => x.f0 < y.f0) → t ∈ r → t.f1 = cf r t.f0 := by
   intro r
   induction r with
   | nil => intro _ h; simp at h
   | cons a r ih =>
    intro hp ht
    rcases List.mem_cons.1 ht with rfl | ht'
    ·exact (cf_head hp).symm
    ·have h1 := ih (List.pairwise_cons.1 hp).2 ht'
     have h2 := (List.pairwise_cons.1 hp).1 t ht'
     show _ = (if a.f0 = t.f0 then a.f1 else 0) + cf r t.f0
     rw [if_neg (by omega), ← h1]
     omega
  exact key r h.inc ht
structure Made (l : List S44) (r : List S44) (m : Int) : Prop where
  good : Good r m
  len : r.length ≤ l.length
  short : r.length ≤ 64
  cf_ : ∀ b, cf r b = cf l b
  canon : Canon r (cf l)
theorem Made.bd {l r : List S44} {m : Int} (h : Made l r m) {M : Int} (hM : ∀ t ∈ l, -M ≤ t.f1 ∧ t.f1 ≤ M) : ∀ t ∈ r, -(l.length * M) ≤ t.f1 ∧ t.f1 ≤ l.length * M := fun t ht => by
  rw [h.canon.cf_eq ht]
  exact cf_bound hM _
theorem OfIs.made {l : List S44} {m M : Int} {x : List S44 × Int × Int} (h : OfIs l m x) (hl : l.length ≤ 1024) (hm : sml m = true) (hb : ∀ t ∈ l, blk t.f0 = true)
   (hM : ∀ t ∈ l, -M ≤ t.f1 ∧ t.f1 ≤ M) (hM1 : M ≤ 1048576) (hM2 : l.length * M ≤ 1048576) (h64 : ∀ r, Canon r (cf l) → r.length ≤ l.length → r.length ≤ 64) : ∃ r, x = (r, m, 0) ∧ Made l r m := by
  have hF : Fine l m := ⟨hm, fun t ht => okT_iff.2 ⟨hb t ht, sml_iff.2 (by have := hM t ht; omega)⟩⟩
  rcases h with ⟨a, rfl⟩ | ⟨a, b, rfl⟩ | ⟨a, b, r, c1, c2, c3, c4⟩
  ·omega
  ·contradiction
  ·have small : ∀ t ∈ r, sml t.f1 = true := fun t ht => sml_iff.2 (by
    rw [c1.cf_eq ht]
    have := cf_bound hM t.f0
    omega)
   have hs := h64 r c1 c3
   rcases c4 with ⟨d, rfl⟩ | ⟨d, e, rfl⟩ | ⟨d, e, rfl⟩
   ·omega
   ·refine ⟨r, rfl, Good.mk hm c1.inc c1.nz fun t ht => okT_iff.2 ⟨blk_iff.2 (c2.mem t ht), small t ht⟩, c3, hs, c1.sums, c1⟩
   ·contradiction
end Go.Proofs.Ytikpfbfeoifmkaa.Z
end
section
namespace Go.Proofs.Ytikpfbfeoifmkaa.Z
open Go.RowKit Go.Proofs.Ytikpfbfeoifmkaa.X Go.Proofs.YtikpfbfeoifmkaaW.PrintWords Go.Proofs.YtikpfbfeoifmkaaW.PrintLast
set_option linter.unusedVariables false
set_option linter.unusedSimpArgs false
set_option maxRecDepth 100000 in
theorem awake1 : timeboundlaw11_awake.f 400 = some true := by decide +kernel
theorem awake_ : Ev (fun k => timeboundlaw11_awake.f k) true := Ev.of timeboundlaw11_awake.mono awake1
structure Deck (xs : List Int) (s : Int) : Prop where
  len : xs.length ≤ 400
  lo : 0 ≤ s
  hi : s ≤ xs.length
theorem mod_ (a n : Int) (h : 1 ≤ n) (h2 : n ≤ 1048576) : ∃ v, timeboundmake_Mod.f a n = some v ∧ 0 ≤ v ∧ v < n := by
  have h1 := Int.lt_tmod_of_pos a (b := n) (by omega)
  have h3 := Int.tmod_lt_of_pos a (b := n) (by omega)
  unfold timeboundmake_Mod.f
  rw [if_neg (by omega), w64 (by omega) (by omega)]
  exact ⟨_, rfl, Int.tmod_nonneg _ (by omega), Int.tmod_lt_of_pos _ (by omega)⟩
theorem next_ {xs : List Int} {s : Int} (h : Deck xs s) (n : Int) (h1 : 1 ≤ n) (h2 : n ≤ 1048576) : ∃ v s', timeboundmake_Deck_Next.f xs s n = some (v, s') ∧ 0 ≤ v ∧ v < n ∧ Deck xs s' := by
  obtain ⟨a, b, c⟩ := h
  unfold timeboundmake_Deck_Next.f
  by_cases h3 : s ≥ (xs.length : Int)
  ·rw [if_pos h3]
   exact ⟨0, s, rfl, by omega, by omega, a, b, c⟩
  ·rw [if_neg h3]
   by_cases h4 : n ≤ 1
   ·rw [if_pos h4]
    exact ⟨0, s, rfl, by omega, by omega, a, b, c⟩
   ·rw [if_neg h4, w64 (n := s + 1) (by omega) (by omega), w64 (n := s + 1 - 1) (by omega) (by omega), if_pos (by omega), if_pos (by omega)]
    obtain ⟨v, hv, k0, k1⟩ := mod_ (rd xs (s + 1 - 1)) n h1 h2
    rw [hv, Option.bind_some]
    exact ⟨v, s + 1, rfl, k0, k1, a, by omega, by omega⟩
structure Fact (r : List S44) (m : Int) (n : Nat) : Prop where
  good : Good r m
  len : r.length ≤ n
  coef : ∀ t ∈ r, -(n * 4 : Int) ≤ t.f1 ∧ t.f1 ≤ n * 4
  place : ∀ t ∈ r, 0 ≤ t.f0 ∧ t.f0 < n
  short : r.length ≤ 64
  cst : -5 ≤ m ∧ m ≤ 24
theorem Made.place {l r : List S44} {m : Int} (h : Made l r m) {P : Int → Prop} (hP : ∀ t ∈ l, P t.f0) : ∀ t ∈ r, P t.f0 := fun t ht => by
  refine Classical.byContradiction fun hn => h.good.nz t ht ?_
  rw [h.canon.cf_eq ht]
  exact cf_none fun x hx e => hn (by rw [← e]; exact hP x hx)
theorem some_l0 (n : Nat) (hn : n ≤ 64) (xs : List Int) (d : Nat) : ∀ (i : Nat) (l : List S44) (s : Int), n - i = d → i ≤ n → Deck xs s → l.length ≤ i → (∀ t ∈ l, 0 ≤ t.f0 ∧ t.f0 < i) → (∀ t ∈ l, -4 ≤ t.f1 ∧ t.f1 ≤ 4) →
   ∃ r m s', Ev (fun k => timeboundlaw11_some.l0 k n l i xs s) (r, m, s') ∧ Fact r m n ∧ Deck xs s' := by
  induction d with
  | zero =>
   intro i l s hd hi hD h1 h2 h3
   obtain ⟨v, s', hv, k0, k1, k2⟩ := next_ hD 30 (by omega) (by omega)
   obtain ⟨x, hx, kx⟩ := of_ref l (v - 5)
   obtain ⟨r, rfl, hM⟩ := kx.made (M := 4) (by omega) (sml_iff.2 (by omega)) (fun t ht => blk_iff.2 (by have := h2 t ht; omega)) h3 (by omega) (by omega) (fun r _ h => by omega)
   refine ⟨r, v - 5, s', ?_, ⟨hM.good, by have := hM.len; omega, fun t ht => ?_, hM.place (P := fun x => 0 ≤ x ∧ x < n) (fun t ht => by have := h2 t ht; omega), hM.short, by omega⟩, k2⟩
   ·refine Ev.step (fun k => by rw [timeboundlaw11_some.l0]) ?_
    refine evn (by omega) (evc (fun k => by rw [hv, Option.bind_some]) ?_)
    rw [show wrap64 (v - 5) = v - 5 from by rw [w64] <;> omega]
    exact evb hx (evr _)
   ·have := hM.bd h3 t ht
    omega
  | succ d ih =>
   intro i l s hd hi hD h1 h2 h3
   obtain ⟨v, s', hv, k0, k1, k2⟩ := next_ hD 2 (by omega) (by omega)
   by_cases h5 : v = 1
   ·obtain ⟨u, s'', hu, g0, g1, g2⟩ := next_ k2 9 (by omega) (by omega)
    obtain ⟨r, m, t, ht, q⟩ := ih (i + 1) (l ++ [⟨i, u - 4⟩]) s'' (by omega) (by omega) g2 (by rw [List.length_append]; simp; omega) (fun t ht => by
     rcases List.mem_append.1 ht with ht | ht
     ·have := h2 t ht; omega
     ·rw [List.mem_singleton.1 ht]
      show 0 ≤ (i : Int) ∧ (i : Int) < ((i + 1 : Nat) : Int)
      omega) (fun t ht => by
     rcases List.mem_append.1 ht with ht | ht
     ·exact h3 t ht
     ·rw [List.mem_singleton.1 ht]
      show -4 ≤ u - 4 ∧ u - 4 ≤ 4
      omega)
    refine ⟨r, m, t, ?_, q⟩
    refine Ev.step (fun k => by rw [timeboundlaw11_some.l0]) ?_
    refine evp (by omega) (evc (fun k => by rw [hv, Option.bind_some]) (evp h5 (evc (fun k => by rw [hu, Option.bind_some]) (evp (by omega) ?_))))
    rw [show wrap64 (u - 4) = u - 4 from by rw [w64] <;> omega, show wrap64 ((i : Int) + 1) = ((i + 1 : Nat) : Int) from by rw [w64] <;> omega]
    exact ht
   ·obtain ⟨r, m, t, ht, q⟩ := ih (i + 1) l s' (by omega) (by omega) k2 (by omega) (fun t ht => by have := h2 t ht; omega) h3
    refine ⟨r, m, t, ?_, q⟩
    refine Ev.step (fun k => by rw [timeboundlaw11_some.l0]) ?_
    refine evp (by omega) (evc (fun k => by rw [hv, Option.bind_some]) (evn h5 ?_))
    rw [show wrap64 ((i : Int) + 1) = ((i + 1 : Nat) : Int) from by rw [w64] <;> omega]
    exact ht
theorem some_ (n : Nat) (hn : n ≤ 64) {xs : List Int} {s : Int} (h : Deck xs s) : ∃ r m s', Ev (fun k => timeboundlaw11_some.f k xs s n) (r, m, s') ∧ Fact r m n ∧ Deck xs s' := by
  unfold timeboundlaw11_some.f
  exact some_l0 n hn xs _ 0 [] s rfl (by omega) h (by simp) (by simp) (by simp)
structure Rows (mp : List (List Int)) (n : Nat) (B : Int) : Prop where
  len : mp.length = n
  row : ∀ r ∈ mp, r.length ≤ 3 ∧ ∀ x ∈ r, 0 ≤ x ∧ x < B
theorem Rows.ok {mp : List (List Int)} {n : Nat} {B : Int} (h : Rows mp n B) (hn : n ≤ 256) (hB : B ≤ 256) : MapOk mp :=
  ⟨by have := h.len; omega, fun r hr => rowOk_iff.2 ⟨by have := (h.row r hr).1; omega, fun x hx => blk_iff.2 (by have := (h.row r hr).2 x hx; omega)⟩⟩
theorem maps_l0 (n : Nat) (hn : n ≤ 100) (xs : List Int) (d : Nat) : ∀ (i : Nat) (mp : List (List Int)) (y : Nat) (s : Int), n - i = d → i ≤ n → Deck xs s → Rows mp i (2 * n) → y ≤ 2 * i →
   ∃ r s', Ev (fun k => timeboundlaw11_maps.l0 k n mp y i xs s) (r, s') ∧ Rows r n (2 * n) ∧ Deck xs s' := by
  induction d with
  | zero =>
   intro i mp y s hd hi hD h1 h2
   obtain rfl : i = n := by omega
   refine ⟨mp, s, ?_, h1, hD⟩
   refine Ev.step (fun k => by rw [timeboundlaw11_maps.l0]) ?_
   exact evn (by omega) (evr _)
  | succ d ih =>
   intro i mp y s hd hi hD h1 h2
   have h1l := h1.len
   have done : ∀ (r : List Int) (y : Nat) (s : Int), Deck xs s → y ≤ 2 * (i + 1) → r.length ≤ 3 → (∀ x ∈ r, 0 ≤ x ∧ x < (2 * n : Int)) →
     ∃ q s', Ev (fun k => if mp.length < 5864062014805 then timeboundlaw11_maps.l0 k n (mp ++ [r]) y (wrap64 ((i : Int) + 1)) xs s else none) (q, s') ∧ Rows q n (2 * n) ∧ Deck xs s' := by
    intro r y s hD hy hr1 hr2
    obtain ⟨q, s', hq, k⟩ := ih (i + 1) (mp ++ [r]) y s (by omega) (by omega) hD ⟨by rw [List.length_append]; simp; omega, fun r' hr' => by
     rcases List.mem_append.1 hr' with hr' | hr'
     ·exact h1.row r' hr'
     ·rw [List.mem_singleton.1 hr']; exact ⟨hr1, hr2⟩⟩ hy
    refine ⟨q, s', evp (by omega) ?_, k⟩
    rw [show wrap64 ((i : Int) + 1) = ((i + 1 : Nat) : Int) from by rw [w64] <;> omega]
    exact hq
   have inner : ∀ (c : Nat) (r : List Int) (y : Nat) (s : Int), Deck xs s → c ≤ 2 → r.length + c ≤ 2 → y + c ≤ 2 * (i + 1) → (∀ x ∈ r, 0 ≤ x ∧ x < (y : Int)) →
     ∃ q s', Ev (fun k => timeboundlaw11_maps.l1 k n mp y i r c xs s) (q, s') ∧ Rows q n (2 * n) ∧ Deck xs s' := by
    intro c
    induction c with
    | zero =>
     intro r y s hD hc hrc hy hr
     have hr2 : ∀ x ∈ r, 0 ≤ x ∧ x < (2 * n : Int) := fun x hx => by have := hr x hx; omega
     obtain ⟨v, s1, hv, k0, k1, k2⟩ := next_ hD 9 (by omega) (by omega)
     by_cases h8 : v = 8
     ·by_cases hy0 : 0 < y
      ·obtain ⟨u, s2, hu, g0, g1, g2⟩ := next_ k2 y (by omega) (by omega)
       obtain ⟨q, s', hq, k⟩ := done (r ++ [u]) y s2 g2 (by omega) (by rw [List.length_append]; simp; omega) (fun x hx => by
        rcases List.mem_append.1 hx with hx | hx
        ·exact hr2 x hx
        ·rw [List.mem_singleton.1 hx]; omega)
       refine ⟨q, s', ?_, k⟩
       refine Ev.step (fun k => by rw [timeboundlaw11_maps.l1]) ?_
       exact evn (by omega) (evc (fun k => by rw [hv, Option.bind_some]) (evp h8 (evp (by omega) (evc (fun k => by rw [hu, Option.bind_some]) (evp (by omega) hq)))))
      ·obtain ⟨q, s', hq, k⟩ := done r y s1 k2 (by omega) (by omega) hr2
       refine ⟨q, s', ?_, k⟩
       refine Ev.step (fun k => by rw [timeboundlaw11_maps.l1]) ?_
       exact evn (by omega) (evc (fun k => by rw [hv, Option.bind_some]) (evp h8 (evn (by omega) hq)))
     ·obtain ⟨q, s', hq, k⟩ := done r y s1 k2 (by omega) (by omega) hr2
      refine ⟨q, s', ?_, k⟩
      refine Ev.step (fun k => by rw [timeboundlaw11_maps.l1]) ?_
      exact evn (by omega) (evc (fun k => by rw [hv, Option.bind_some]) (evn h8 hq))
    | succ c ihc =>
     intro r y s hD hc hrc hy hr
     obtain ⟨q, s', hq, k⟩ := ihc (r ++ [(y : Int)]) (y + 1) s hD (by omega) (by rw [List.length_append]; simp; omega) (by omega) (fun x hx => by
      rcases List.mem_append.1 hx with hx | hx
      ·have := hr x hx; omega
      ·rw [List.mem_singleton.1 hx]; omega)
     refine ⟨q, s', ?_, k⟩
     refine Ev.step (fun k => by rw [timeboundlaw11_maps.l1]) ?_
     refine evp (by omega) (evp (by omega) ?_)
     rw [show wrap64 ((y : Int) + 1) = ((y + 1 : Nat) : Int) from by rw [w64] <;> omega, show wrap64 (((c + 1 : Nat) : Int) - 1) = (c : Int) from by rw [w64] <;> omega]
     exact hq
   obtain ⟨v, s1, hv, k0, k1, k2⟩ := next_ hD 3 (by omega) (by omega)
   obtain ⟨c, rfl⟩ : ∃ c : Nat, v = c := ⟨v.toNat, by omega⟩
   obtain ⟨q, s', hq, k⟩ := inner c [] y s1 k2 (by omega) (by simp; omega) (by omega) (by simp)
   refine ⟨q, s', ?_, k⟩
   refine Ev.step (fun k => by rw [timeboundlaw11_maps.l0]) ?_
   exact evp (by omega) (evc (fun k => by rw [hv, Option.bind_some]) hq)
theorem maps_ (n : Nat) (hn : n ≤ 100) {xs : List Int} {s : Int} (h : Deck xs s) : ∃ r s', Ev (fun k => timeboundlaw11_maps.f k xs s n) (r, s') ∧ Rows r n (2 * n) ∧ Deck xs s' := by
  unfold timeboundlaw11_maps.f
  exact maps_l0 n hn xs _ 0 [] 0 s rfl (by omega) h ⟨rfl, by simp⟩ (by omega)
theorem gi_set {xs : List Int} {i : Nat} (x : Int) (j : Nat) (h : i < xs.length) : gi (xs.set i x) j = if i = j then x else gi xs j := by
  have := rd_set x j h
  rwa [rd_gi, rd_gi] at this
theorem lsum_take {r : List Int} {j : Nat} (h : j < r.length) (w : Int → Int) : lsum (r.take (j + 1)) w = lsum (r.take j) w + w (gi r j) := by
  rw [take_succ_gi h, lsum_append]
  simp [lsum]
theorem sums_l1 (mp : List (List Int)) (hl : mp.length ≤ 256) (c : List Int) (B : Int) (hB : 0 ≤ B ∧ B ≤ 1048576) (hc : ∀ x ∈ c, 0 ≤ x ∧ x ≤ B) (i : Nat) (hi : i < mp.length) (hr : (gl mp i).length ≤ 256) (hx : ∀ x ∈ gl mp i, 0 ≤ x ∧ x < c.length) (S : List Int) (hS : S.length = mp.length) (q : List Int)
   (n : Ev (fun k => timeboundref13_Sums.l0 k mp c (S.set i (lsum (gl mp i) (val c))) ((i + 1 : Nat) : Int)) q) (d : Nat) : ∀ j : Nat, (gl mp i).length - j = d → j ≤ (gl mp i).length → 0 ≤ lsum ((gl mp i).take j) (val c) → lsum ((gl mp i).take j) (val c) ≤ j * B →
   Ev (fun k => timeboundref13_Sums.l1 k mp c (S.set i (lsum ((gl mp i).take j) (val c))) i j) q := by
  induction d with
  | zero =>
   intro j hd hj h0 h1
   rw [List.take_of_length_le (by omega)]
   refine Ev.step (fun k => by rw [timeboundref13_Sums.l1]) ?_
   refine evp (by omega) (evp (by omega) ?_)
   rw [rd_gl]
   refine evn (by omega) ?_
   rw [show wrap64 ((i : Int) + 1) = ((i + 1 : Nat) : Int) from by rw [w64] <;> omega]
   exact n
  | succ d ih =>
   intro j hd hj h0 h1
   have hj1 : j < (gl mp i).length := by omega
   have hx1 := hx _ (List.getElem_mem hj1)
   rw [← gi_lt hj1] at hx1
   have hv : val c (gi (gl mp i) j) = rd c (gi (gl mp i) j) := by unfold val; rw [if_pos hx1.2]
   have hcb := hc _ (rd_mem hx1.1 hx1.2)
   have ht := lsum_take hj1 (val c)
   rw [hv] at ht
   have hjB : ((j + 1 : Nat) : Int) * B = j * B + B := by rw [Int.natCast_add, Int.add_mul]; simp
   have hjB2 : (j : Int) * B ≤ 256 * 1048576 := Int.le_trans (Int.mul_le_mul_of_nonneg_right (show (j : Int) ≤ 256 by omega) hB.1) (Int.mul_le_mul_of_nonneg_left hB.2 (by omega))
   have g := ih (j + 1) (by omega) (by omega) (by rw [ht]; omega) (by rw [ht, hjB]; omega)
   refine Ev.step (fun k => by rw [timeboundref13_Sums.l1]) ?_
   refine evp (by omega) (evp (by omega) ?_)
   rw [rd_gl]
   refine evp (by omega) (evp (by rw [List.length_set]; omega) (evp (by omega) ?_))
   rw [rd_gi, rd_gi]
   refine evp hx1.1 (evp hx1.2 ?_)
   rw [gi_set _ _ (by omega), if_pos rfl, Int.toNat_natCast, List.set_set, w64 (n := lsum ((gl mp i).take j) (val c) + rd c (gi (gl mp i) j)) (by omega) (by omega), ← ht, show wrap64 ((j : Int) + 1) = ((j + 1 : Nat) : Int) from by rw [w64] <;> omega]
   exact g
theorem lsum_b {r : List Int} {w : Int → Int} {B : Int} (h : ∀ x ∈ r, 0 ≤ w x ∧ w x ≤ B) : 0 ≤ lsum r w ∧ lsum r w ≤ r.length * B := by
  induction r with
  | nil => simp [lsum]
  | cons x r ih =>
   have h1 := h x (by simp)
   have h2 := ih fun y hy => h y (by simp [hy])
   have e : lsum (x :: r) w = w x + lsum r w := by simp [lsum]
   rw [e, List.length_cons, show ((r.length + 1 : Nat) : Int) * B = r.length * B + B from by rw [Int.natCast_add, Int.add_mul]; simp]
   omega
structure Summed (mp : List (List Int)) (c q : List Int) : Prop where
  len : q.length = mp.length
  at_ : ∀ i, i < mp.length → gi q i = lsum (gl mp i) (val c)
theorem sums_l0 (mp : List (List Int)) (hl : mp.length ≤ 256) (c : List Int) (B : Int) (hB : 0 ≤ B ∧ B ≤ 1048576) (hc : ∀ x ∈ c, 0 ≤ x ∧ x ≤ B) (hr : ∀ r ∈ mp, r.length ≤ 256 ∧ ∀ x ∈ r, 0 ≤ x ∧ x < c.length) (d : Nat) : ∀ (i : Nat) (S : List Int), mp.length - i = d → i ≤ mp.length → S.length = mp.length → (∀ j, j < i → gi S j = lsum (gl mp j) (val c)) → (∀ j, i ≤ j → gi S j = 0) →
   ∃ q, Ev (fun k => timeboundref13_Sums.l0 k mp c S i) q ∧ Summed mp c q := by
  induction d with
  | zero =>
   intro i S hd hi hS h1 h2
   refine ⟨S, ?_, hS, fun j hj => h1 j (by omega)⟩
   refine Ev.step (fun k => by rw [timeboundref13_Sums.l0]) ?_
   exact evn (by omega) (evr _)
  | succ d ih =>
   intro i S hd hi hS h1 h2
   have hi1 : i < mp.length := by omega
   have hri := hr _ (List.getElem_mem hi1)
   rw [← gl_lt hi1] at hri
   obtain ⟨q, hq, k⟩ := ih (i + 1) (S.set i (lsum (gl mp i) (val c))) (by omega) (by omega) (by rw [List.length_set]; exact hS) (fun j hj => by
    rw [gi_set _ _ (by omega)]
    by_cases e : i = j
    ·rw [if_pos e, e]
    ·rw [if_neg e]; exact h1 j (by omega)) (fun j hj => by
    rw [gi_set _ _ (by omega), if_neg (by omega)]
    exact h2 j (by omega))
   refine ⟨q, ?_, k⟩
   refine Ev.step (fun k => by rw [timeboundref13_Sums.l0]) ?_
   refine evp (by omega) ?_
   have g := sums_l1 mp hl c B hB hc i hi1 hri.1 hri.2 S hS q hq _ 0 rfl (by omega) (by simp [lsum]) (by simp [lsum])
   have e : S.set i (lsum ((gl mp i).take 0) (val c)) = S := by
    refine List.ext_getElem (by simp) fun j a b => ?_
    rw [List.getElem_set]
    split
    ·rename_i e
     subst e
     have := h2 i (Nat.le_refl _)
     rw [gi_lt b] at this
     rw [this]
     simp [lsum]
    ·rfl
   rw [e] at g
   exact g
theorem sums_ {mp : List (List Int)} {n : Nat} {B : Int} (h : Rows mp n B) (hn : n ≤ 256) {c : List Int} (hB : B ≤ c.length) (hc : ∀ x ∈ c, 0 ≤ x ∧ x ≤ 14) :
   ∃ q, Ev (fun k => timeboundmake_Sums.f k mp c) q ∧ Summed mp c q := by
  have hl := h.len
  obtain ⟨q, hq, k⟩ := sums_l0 mp (by omega) c 14 (by omega) hc (fun r hr => ⟨by have := (h.row r hr).1; omega, fun x hx => by have := (h.row r hr).2 x hx; omega⟩) _ 0 (List.replicate mp.length 0) rfl (by omega) List.length_replicate (fun j hj => by omega) (fun j _ => by rw [← rd_gi, rd_rep])
  refine ⟨q, ?_, k⟩
  unfold timeboundmake_Sums.f timeboundref13_Sums.f
  refine evb (a := q) ?_ (evr _)
  refine evp (by omega) (evp (by omega) ?_)
  rw [Int.toNat_natCast]
  exact hq
theorem sum_ok {l : List S44} {m : Int} (hl : l.length ≤ 64) (h : Good l m) {xs : List Int} (hx : Cnt xs) : Ev (fun k => fact_Sum.f k l m xs) (wsum l (val xs), 0) := by
  obtain ⟨q, hq, k⟩ := sum_fact l m xs
  rw [k.unique (Or.inr (Or.inr ⟨hl, h, hx, rfl⟩))] at hq
  exact hq
theorem holds_ok {l : List S44} {m : Int} (hl : l.length ≤ 64) (h : Good l m) {xs : List Int} (hx : Cnt xs) : Ev (fun k => fact_Holds.f k l m xs) (decide (wsum l (val xs) ≤ m)) := by
  obtain ⟨q, hq, k⟩ := holds_fact l m xs
  have k2 : HoldsIs l m xs (decide (wsum l (val xs) ≤ m)) := ⟨_, Or.inr (Or.inr ⟨hl, h, hx, rfl⟩), by simp⟩
  rw [k.unique k2] at hq
  exact hq
theorem flat_mem {l : List S44} {mp : List (List Int)} {t : S44} (h : t ∈ flat l mp) : ∃ s ∈ l, t.f0 ∈ rd_L2 mp s.f0 ∧ t.f1 = s.f1 := by
  obtain ⟨s, hs, ht⟩ := List.mem_flatMap.1 h
  obtain ⟨b, hb, rfl⟩ := List.mem_map.1 ht
  exact ⟨s, hs, hb, rfl⟩
theorem along {x : List S44} {m : Int} {N R : Nat} {M B : Int} {mp : List (List Int)} (hG : Good x m) (hl : x.length ≤ N) (hN : N * R ≤ 64) (hNl : N ≤ 64) (hMp : MapOk mp) (hp : ∀ t ∈ x, 0 ≤ t.f0 ∧ t.f0 < mp.length)
   (hrow : ∀ r ∈ mp, r.length ≤ R ∧ ∀ y ∈ r, 0 ≤ y ∧ y < B) (hM : ∀ t ∈ x, -M ≤ t.f1 ∧ t.f1 ≤ M) (hM0 : 0 ≤ M) (hM2 : 64 * M ≤ 1048576) :
   ∃ r, Ev (fun k => fact_Map.f k x m mp) (r, m, 0) ∧ Good r m ∧ r.length ≤ N * R ∧ (∀ t ∈ r, -((N * R : Nat) * M) ≤ t.f1 ∧ t.f1 ≤ (N * R : Nat) * M) ∧ (∀ t ∈ r, 0 ≤ t.f0 ∧ t.f0 < B) ∧ ∀ w, wsum r w = wsum x (fun y => lsum (rd_L2 mp y) w) := by
  obtain ⟨q, hq, k⟩ := map_fact x m mp (fun r hr => by have := (rowOk_iff.1 (hMp.2 r hr)).1; omega)
  have hx : ChkIs x m 0 := Or.inr (Or.inr ⟨by omega, hG, rfl⟩)
  rcases k with ⟨e, k1, k2, _⟩ | ⟨_, _, k1, _⟩ | ⟨_, _, _, ⟨t, ht, k1⟩, _⟩ | ⟨_, _, _, _, k⟩
  ·exact absurd (k1.unique hx) k2
  ·exact absurd hMp k1
  ·have := hp t ht
   omega
  ·have hfl := flat_length (l := x) (mp := mp) (B := R) fun t ht => (hrow _ (rdl_mem (hp t ht).1 (hp t ht).2)).1
   have hNR : x.length * R ≤ N * R := Nat.mul_le_mul_right _ hl
   have hb : ∀ t ∈ flat x mp, 0 ≤ t.f0 ∧ t.f0 < B := fun t ht => by
    obtain ⟨s, hs, h0, _⟩ := flat_mem ht
    exact (hrow _ (rdl_mem (hp s hs).1 (hp s hs).2)).2 _ h0
   have hbl : ∀ t ∈ flat x mp, blk t.f0 = true := fun t ht => by
    obtain ⟨s, hs, h0, _⟩ := flat_mem ht
    exact (rowOk_iff.1 (hMp.2 _ (rdl_mem (hp s hs).1 (hp s hs).2))).2 _ h0
   have hm : ∀ t ∈ flat x mp, -M ≤ t.f1 ∧ t.f1 ≤ M := fun t ht => by
    obtain ⟨s, hs, _, h1⟩ := flat_mem ht
    rw [h1]
    exact hM s hs
   have hle : ((flat x mp).length : Int) * M ≤ ((N * R : Nat) : Int) * M := Int.mul_le_mul_of_nonneg_right (by omega) hM0
   have hle2 : ((N * R : Nat) : Int) * M ≤ 64 * M := Int.mul_le_mul_of_nonneg_right (by omega) hM0
   obtain ⟨r, rfl, hr⟩ := k.made (M := M) (by omega) hG.1 hbl hm (by omega) (by omega) (fun r _ h => by omega)
   have hrl := hr.len
   refine ⟨r, hq, hr.good, by omega, fun t ht => ?_, hr.place (P := fun y => 0 ≤ y ∧ y < B) hb, fun w => by rw [wsum_of_cf hr.cf_ w, wsum_flat]⟩
   have := hr.bd hm t ht
   omega
end Go.Proofs.Ytikpfbfeoifmkaa.Z
end
section
namespace Go.Proofs.Ytikpfbfeoifmkaa.Pure
open Go.RowKit Go.Proofs.Ytikpfbfeoifmkaa.X Go.Proofs.Ytikpfbfeoifmkaa.Z Go.Proofs.YtikpfbfeoifmkaaW.PrintWords Go.Proofs.YtikpfbfeoifmkaaW.PrintLast
set_option linter.unusedVariables false
theorem count_ {x : List S44} {m : Int} {n : Nat} {mp : List (List Int)} (hn : n ≤ 9) (fx : Fact x m n) (r1 : Z.Rows mp n (2 * n)) (xs : List Int) (d : Nat) : ∀ (c : List Int) (i : Nat) (s : Int), 30 - i = d → i ≤ 30 → Deck xs s → c.length = 30 → (∀ y ∈ c, 0 ≤ y ∧ y ≤ 14) →
   Ev (fun k => timeboundlaw11_FactGoesAlong.l0 k mp c i xs s x m) true := by
  have ok1 := r1.ok (by omega) (by omega)
  have hl1 := r1.len
  have hxl := fx.len
  induction d with
  | zero =>
   intro c i s hd hi hD hc hc2
   obtain ⟨q, eq_, hq⟩ := sums_ r1 (by omega) (c := c) (by omega) hc2
   obtain ⟨a, ea, ga, la, ca, pa, wa⟩ := along (N := 9) (R := 3) (M := 36) (B := 18) fx.good (by omega) (by omega) (by omega) ok1 (fun t ht => by have := fx.place t ht; omega) (fun r hr => ⟨(r1.row r hr).1, fun y hy => by have := (r1.row r hr).2 y hy; omega⟩) (fun t ht => by have := fx.coef t ht; omega) (by omega) (by omega)
   have hC : Cnt c := ⟨by omega, fun y hy => by have := hc2 y hy; omega⟩
   have hqlen := hq.len
   have hQ : Cnt q := ⟨by omega, fun y hy => by
    obtain ⟨j, hj, rfl⟩ := List.mem_iff_getElem.1 hy
    have h1 := hq.at_ j (by omega)
    rw [gi_lt hj] at h1
    have hr := r1.row (gl mp j) (by rw [gl_lt (show j < mp.length by omega)]; exact List.getElem_mem _)
    have h2 := lsum_b (r := gl mp j) (w := val c) (B := 14) fun y hy => by
     have h3 := hr.2 y hy
     unfold val
     split
     ·exact hc2 _ (rd_mem h3.1 (by assumption))
     ·omega
    rw [h1]
    omega⟩
   have key : wsum x (val q) = wsum a (val c) := by
    rw [wa]
    refine wsum_congr fun t ht => ?_
    have hp := fx.place t ht
    obtain ⟨j, hj⟩ : ∃ j : Nat, t.f0 = j := ⟨t.f0.toNat, by omega⟩
    rw [hj, rd_gl, ← hq.at_ j (by omega)]
    unfold val
    rw [if_pos (by omega), rd_gi]
   refine Ev.step (fun k => by rw [timeboundlaw11_FactGoesAlong.l0]) ?_
   have chk : Ev (fun k => fact_Check.f k a m) 0 := by
    obtain ⟨e, he, ke⟩ := check_fact a m
    obtain rfl := ke.unique (Or.inr (Or.inr ⟨by omega, ga, rfl⟩))
    exact he
   refine evn (by omega) (evb eq_ (evb ea (evb (sum_ok fx.short fx.good hQ) (evb (sum_ok (by omega) ga hC) (evp rfl (evp rfl (evp rfl (evp key (evp rfl ?_)))))))))
   refine evb (holds_ok fx.short fx.good hQ) (evb (holds_ok (by omega) ga hC) (evp ?_ (evb chk (evp rfl (evb awake_ ?_)))))
   ·rw [key]; simp
   ·exact Ev.step (fun k => by rw [timeboundlaw11_FactGoesAlong.j1]) (evr _)
  | succ d ih =>
   intro c i s hd hi hD hc hc2
   obtain ⟨v, s1, hv, v0, v1, hD1⟩ := next_ hD 15 (by omega) (by omega)
   have g := ih (c.set i v) (i + 1) s1 (by omega) (by omega) hD1 (by rw [List.length_set]; exact hc) (fun y hy => by
    rcases List.mem_or_eq_of_mem_set hy with hy | rfl
    ·exact hc2 y hy
    ·omega)
   refine Ev.step (fun k => by rw [timeboundlaw11_FactGoesAlong.l0]) ?_
   refine evp (by omega) (evc (fun k => by rw [hv, Option.bind_some]) (evp (by omega) ?_))
   rw [Int.toNat_natCast, show wrap64 ((i : Int) + 1) = ((i + 1 : Nat) : Int) from by rw [w64] <;> omega]
   exact g
theorem FactGoesAlong : timeboundlaw11_FactGoesAlong.Pure := by
  intro l0 hl hl2 hw
  refine Ev.rounds ?_
  unfold timeboundlaw11_FactGoesAlong.f timeboundmake_Few.f
  by_cases h : (l0.length : Int) ≤ 400
  ·rw [decide_eq_true h]
   have hD : Deck l0 0 := ⟨by omega, by omega, by omega⟩
   obtain ⟨v, s0, hv, v0, v1, hD0⟩ := next_ hD 9 (by omega) (by omega)
   obtain ⟨n, rfl⟩ : ∃ n : Nat, v = n := ⟨v.toNat, by omega⟩
   have hwn : wrap64 (1 + (n : Int)) = ((n + 1 : Nat) : Int) := by rw [w64] <;> omega
   obtain ⟨x, m, s1, ex, fx, hD1⟩ := some_ (n + 1) (by omega) hD0
   obtain ⟨m1, s2, em1, r1, hD2⟩ := maps_ (n + 1) (by omega) hD1
   refine evs (evp rfl ?_)
   unfold timeboundmake_New.f
   refine evs (evc (fun k => by rw [hv, Option.bind_some]) ?_)
   rw [hwn]
   refine evb ex (evb em1 (evp (by omega) ?_))
   exact count_ (by omega) fx r1 l0 _ (List.replicate 30 0) 0 s2 rfl (by omega) hD2 List.length_replicate (fun y hy => by rw [List.eq_of_mem_replicate hy]; omega)
  ·rw [decide_eq_false h]
   exact evs (evn (by simp) (evb awake_ (evr _)))
end Go.Proofs.Ytikpfbfeoifmkaa.Pure
end
section
namespace Go.Proofs.YtikpfbfeoifmkaaW.PrintWords
open Go.ChangeShapes Go.WideShapes
theorem sized_ints {H : Type} {enc : TypeId × Value → H} {P : Program} {W : World} {base : Nat} {spare : Nat → Bool} {held : Bool} {t e : TypeId} {k : IntKind} {a : Option Addr} {len cap : Nat} {d : DataW H} {ps : List MemPlace} {ts : List TypeId} {ds : List (DataW H)} {j : Nat}
   (hsz : (DataW.weightsEach P ts ds).all (· ≤ reachBytes) = true) (ht : ts[j]? = some t) (hd : ds[j]? = some d) (hu : P.underlying t = some (.slice e)) (he : P.underlying e = some (.int k)) (hc : P.cellsOf e = 1) {B : Nat} (hB : P.bytesOf e = B)
   (h : DataW.Trod enc P W base spare held t (.slice a len cap) d ps) : len * B ≤ 140737488351232 := by
  obtain ⟨fuel, hf⟩ := h
  rcases open_ints hu he hc hf with ⟨hcs, _⟩ | ⟨x, l, c, zs, hcs, _, hl, _, hz, hx, _, _⟩
  ·simp [Value.cells] at hcs
   obtain ⟨rfl, rfl, rfl⟩ := hcs
   simp
  ·simp [Value.cells] at hcs
   obtain ⟨rfl, rfl, rfl⟩ := hcs
   obtain ⟨hx, _⟩ := Prod.mk.inj hx
   subst hx
   have z := sized_slice hsz ht hd hu
   rw [hB] at z
   have hl2 : len ≤ zs.length := by
    rw [hz]
    split
    ·exact hl
    ·exact Nat.le_refl _
   have h1 : (lits (H := H) k (zs.take len)).length + (lits (H := H) k (zs.drop len)).length = zs.length := by
    simp [lits]
    omega
   rw [h1] at z
   exact Nat.le_trans (Nat.mul_le_mul_right _ hl2) z
end Go.Proofs.YtikpfbfeoifmkaaW.PrintWords
end
section
namespace Go.Proofs.Ytikpfbfeoifmkaa.factGoesAlong
open Go.ChangeShapes Go.WideShapes Go.ChangeAt Go.RowKit
open Go.ChangeMaps (open_string shut_string)
set_option linter.unusedVariables false
theorem own : ownKnob Try.prog.godebug = none := by kernel_rfl
theorem laidOut : laidOutB Try.prog = true := by kernel_rfl
def IsRow (k : IntKind) (w : World) (a : Option Addr) (len cap : Nat) (zs : List Int) : Prop :=
  (a = none ∧ len = 0 ∧ cap = 0 ∧ zs = []) ∨
  ∃ x, a = some x ∧ len ≤ cap ∧ cap ≤ maxLen ∧ zs.length = cap ∧ (∀ i, i < zs.length → w.cell? (x.add i) = some (.int k (zs.getD i 0))) ∧ ∀ n ∈ zs, (Lit.int k n).wf = true
set_option maxRecDepth 100000 in
theorem lifted (os : Os) (started : os.Started) (H : Type) (enc : TypeId × Value → H) :
   ReturnsInHanded {} Try.checked os 3 .any (Rows.factGoesAlongSpec.pre6 enc Try.prog Try.f3 Rows.factGoesAlongRow.domain false) (Rows.factGoesAlongSpec.post enc Try.prog Try.f3 false true false false) := by
  refine returnsInHanded_of_change_sized (C := Try.checked) own started (by kernel_rfl) Try.func3
   (ChangeSpec.witness6 (enc := enc) (C := Try.checked) false ⟨#[], #[.slice none 0 0], []⟩ 8 (by kernel_rfl) (by kernel_rfl) (by kernel_rfl) (by kernel_rfl)) ?_
  intro W base args ds gs before hval0 hW hcnd hsz0 _
  have hsz : (DataW.weightsEach Try.prog (Try.f3.params.toList ++ Rows.factGoesAlongSpec.plain.varTypes Try.prog) (ds ++ gs)).all (· ≤ reachBytes) = true := hsz0
  have hval : ∀ (j : Nat) t v, Try.f3.params[j]? = some t → args[j]? = some v → Value.okWide Try.prog W .any base t v := hval0
  have hW' := hW
  obtain ⟨p, q, hA0, hV, rfl, hfz, hnd⟩ := hW
  have hA : DataW.TrodAll enc Try.prog W 0 (fun _ => true) true Try.f3.params.toList args.toList ds p := hA0
  rw [Try.params3] at hA hval hsz
  obtain ⟨v0, vs0, d0, ds0, p0, q0, hargs, rfl, rfl, h0, r0⟩ := trodAll_cons hA
  obtain ⟨rfl, rfl, rfl⟩ := trodAll_nil r0
  obtain rfl : args = #[v0] := by cases args; simp_all
  obtain ⟨rfl, rfl⟩ := trodVars_none hV
  obtain ⟨a0, len0, cap0, rfl⟩ := okWide_slice Try.underlying22 (hval 0 22 v0 rfl rfl)
  have k0 := h0
  have lt0 : ∀ x ∈ p0, x.block < W.heap.size := by obtain ⟨m, hm⟩ := k0; exact DataW.trod_lt m _ _ _ hm
  obtain ⟨z0, w0⟩ : ∃ zs, IsRow .i64 W a0 len0 cap0 zs := by
   obtain ⟨fuel, hf⟩ := h0
   rcases open_ints Try.underlying22 Try.underlying3 (by kernel_rfl) hf with ⟨hcs, _⟩ | ⟨x, l, c, zs, hcs, _, hl, hm, hz, _, hcell, hwz⟩
   ·simp [Value.cells] at hcs
    obtain ⟨rfl, rfl, rfl⟩ := hcs
    exact ⟨[], .inl ⟨rfl, rfl, rfl, rfl⟩⟩
   ·simp [Value.cells] at hcs
    obtain ⟨rfl, rfl, rfl⟩ := hcs
    exact ⟨zs, .inr ⟨_, rfl, hl, hm, by simpa using hz, hcell, hwz⟩⟩
  have y0 : len0 * 8 ≤ 140737488351232 := Go.Proofs.YtikpfbfeoifmkaaW.PrintWords.sized_ints hsz (j := 0) (t := 22) rfl rfl Try.underlying22 Try.underlying3 (by kernel_rfl) (by kernel_rfl) h0
  clear hA0 hval0 hsz0 hsz
  refine (X.timeboundlaw11_FactGoesAlong.walk Pure.FactGoesAlong a0 len0 cap0 z0 W w0 y0).mono fun e W' ⟨he, bel⟩ => ?_
  subst he
  exact ⟨_, rfl, _, _, _, [], _, [], hW', trodAll_mk1 (shut_bool Try.underlying4 _), (trodAll_cons_mk (Below.trod laidOut (by kernel_rfl) (of_decide_eq_true (by kernel_rfl)) k0 bel lt0) trodAll_mk0), rfl, bel.frame _, fun h => by cases h⟩
theorem over : Rows.factGoesAlongRow.holds Try.pinned (OpenSpec.ofChange Rows.factGoesAlongSpec) :=
  OpenClaim.holds_of_wide 3 Try.f3 rfl rfl rfl rfl rfl rfl rfl ⟨rfl, rfl, rfl, rfl, rfl⟩ rfl rfl rfl rfl rfl (by kernel_rfl) Try.func3 (by kernel_rfl)
   (of_decide_eq_true (by kernel_rfl)) (by unfold Func.isWrapper; first | (rw [if_pos (by decide +kernel)]; kernel_rfl) | (rw [if_neg (by decide +kernel)]; exact ⟨rfl, rfl⟩))
   (fun os started H enc _ => lifted os started H enc)
theorem proved : Rows.FactGoesAlongSaid := over
#print axioms proved
end Go.Proofs.Ytikpfbfeoifmkaa.factGoesAlong
namespace Go.Proofs.Ytikpfbfeoifmkaa
theorem factGoesAlong_holds : Rows.FactGoesAlongSaid := factGoesAlong.proved
end Go.Proofs.Ytikpfbfeoifmkaa
end
