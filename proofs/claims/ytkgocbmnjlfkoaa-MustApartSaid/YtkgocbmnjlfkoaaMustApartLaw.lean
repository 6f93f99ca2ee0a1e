/- The Must law on lines of other sets holds of the given program for every input. -/
import Derived.Test.YtkgocbmnjlfkoaaMustApartPart2
import Derived.BigQuiet
import Derived.Deep.CutRange
import Derived.Deep.Cut
import Derived.Maps.OwnOps
import Derived.Maps.Views
import Derived.SizedLaws
import Derived.ChangeSlices
import Derived.Test.YtkgocbmnjlfkoaaRows
import Derived.WalkKit
import Derived.ProofKit
import Derived.OpenShut
import Derived.ShutString
import Derived.ChangeOld
import Derived.Below
section
namespace Go.Proofs.Ytkgocbmnjlfkoaa.M
open Go.RowKit Go.Proofs.Ytkgocbmnjlfkoaa.X Go.Proofs.YtkgocbmnjlfkoaaW.PrintWords Go.Proofs.YtkgocbmnjlfkoaaW.PrintLast Go.Proofs.YtkgocbmnjlfkoaaW.PrintMore
set_option linter.unusedVariables false
set_option linter.unusedSimpArgs false
theorem T1.cell {w : World} {b g cap n i : Nat} {xs : List Int} (h : T1 w b (.slice (some ⟨g, 0, none⟩) n cap) xs) (hi : i < xs.length) : w.cell? ⟨g, i, none⟩ = some (.int .i64 (xs.getD i 0)) ∧ w.frozen? ⟨g, i, none⟩ = false := by
  rcases h.open_ with ⟨h0, _⟩ | ⟨g', cap', cur, h1, h2, h3, h4, h5, h6, h7⟩
  · cases h0
  · injection h1 with e1 e2 e3
    injection e1 with e1
    injection e1 with e1
    subst e1
    refine ⟨?_, blk_frozen h3 i⟩
    have h8 := congrArg (fun l => l[i]?) h7
    simp only [List.getElem?_take, if_pos hi, Array.getElem?_toList] at h8
    rw [blk_cell h3, Array.getElem?_eq_getElem (by omega)]
    rw [Array.getElem?_eq_getElem (by omega)] at h8
    rw [h8, getD_lt hi]
    simp [nums, hi]
set_option maxHeartbeats 4000000 in
theorem use41_calls {S W L : Nat} (h : CacheOk S W L) (v : Value) (vs : List Value) (l : List (List Int)) (b m : Nat) (w : World) (hT : T2 w b v vs l) (hb : b ≤ w.heap.size) (hl : l.length = S) (hlw : ∀ x ∈ l, x.length = W) (hm : m ≤ 1048576) :
    Calls Try.prog 41 #[.agg #[.int .i64 S, .int .i64 W, .int .i64 L], .agg #[v], .int .i64 m] w (fun e w' => (∃ r, e = .returned (.bool r)) ∧ T2 w' b v vs (useL S L l m) ∧ Fr (In2 v vs) w w') := by
  have hW1 := h.w1; have hW4 := h.w4; have hS8 := h.s8; have hL1 := h.l1; have hL8 := h.l8
  have HT := Aside0.mk hT
  have HB0 : Aside0 (Below w.heap.size w ((w.alloc (.cells #[.int .i64 S, .int .i64 W, .int .i64 L] 26)).alloc (.cells #[v] 54))) := ⟨((Below.refl _ _).alloc (Nat.le_refl _) _).alloc (by simp) _⟩
  by_cases hs : S = 0
  · subst hs
    have HU : Aside0 (useL 0 L l m = l) := ⟨if_pos rfl⟩
    clear hT hlw h
    have HL := Aside0.mk hl
    clear hl
    obtain ⟨A, c, rfl, _, _⟩ := HT.out.reads
    go_enter Try.func41, Try.ntmps41
    go_wp2
    go_ret
    exact ⟨⟨_, rfl⟩, by rw [HU.out]; exact HT.out.fr (S := fun _ => False) (Fr.ofBelow HB0.out) (fun _ _ h => h), Fr.ofBelow HB0.out⟩
  · obtain ⟨A, c, rfl, hc, hr⟩ := hT.reads
    have hns : m / L % S < l.length := by rw [hl]; exact Nat.mod_lt _ (Nat.pos_of_ne_zero hs)
    obtain ⟨ad, A0, c0, rfl, hcell0, hc0, hl0⟩ := C2.get hr hns
    have hlw0 := hlw _ (List.getElem_mem hns)
    have hq1 : Int.tdiv (m : Int) (L : Int) = ((m / L : Nat) : Int) := by rw [Int.tdiv_eq_ediv_of_nonneg (by omega)]; rfl
    have hq2 : (m : Int) / (L : Int) = ((m / L : Nat) : Int) := rfl
    have hq3 : ((m / L : Nat) : Int) % (S : Int) = ((m / L % S : Nat) : Int) := rfl
    have hq4 : Int.tmod ((m / L : Nat) : Int) (S : Int) = ((m / L % S : Nat) : Int) := by rw [Int.tmod_eq_emod_of_nonneg (Int.natCast_nonneg _)]; rfl
    have hdl : m / L ≤ 1048576 := Nat.le_trans (Nat.div_le_self _ _) hm
    have hcell := pw_cell_below HB0.out hcell0
    have HR0 := Aside0.mk hl0
    have HU : Aside0 (useL S L l m = l.set (m / L % S) (useC l[m / L % S] ((m / L : Nat) : Int))) := ⟨by rw [useL, if_neg hs, getD_lt hns]⟩
    have HL := Aside0.mk hl
    have HLW := Aside0.mk hlw0
    have hl9 : l.length < 9 := by omega
    have hx5 : l[m / L % S].length < 5 := by omega
    have hx0 : 0 < l[m / L % S].length := by omega
    have hg1 : ((S : Int) == 0) = false := beq_eq_false_iff_ne.2 (by omega)
    obtain ⟨gs, rfl, hvs⟩ : ∃ gs, A0 = some ⟨gs, 0, none⟩ ∧ vs.getD (m / L % S) undef = .slice (some ⟨gs, 0, none⟩) l[m / L % S].length c0 := by
      have hlen := hT.len
      rcases hT.open_ with ⟨h1, _⟩ | ⟨g, cap, cur, h1, _⟩
      · cases h1
      · injection h1 with e1 e2 e3
        injection e1 with e1
        subst e1
        have h2 := (hT.cell hns).1
        have h3 : w.cell? ⟨g, m / L % S, none⟩ = some (.slice A0 l[m / L % S].length c0) := by
          rw [show (⟨g, 0, none⟩ : Addr).add (m / L % S) = ⟨g, m / L % S, none⟩ by unfold Addr.add; split <;> simp [*]] at hcell0
          exact hcell0
        rw [h3] at h2
        injection h2 with h2
        have h4 := hT.el (m / L % S) (by omega)
        rw [← h2, getD_lt hns] at h4
        rcases h4.open_ with ⟨_, h5⟩ | ⟨gs, _, _, h5, _⟩
        · rw [h5] at hx0; exact absurd hx0 (by simp)
        · injection h5 with h5 _ _
          subst h5
          exact ⟨gs, rfl, h2.symm⟩
    have hx1 := hT.el (m / L % S) (by have := hT.len; omega)
    rw [hvs, getD_lt hns] at hx1
    have HX := Aside0.mk hx1
    have HVS := Aside0.mk hvs
    clear hl hlw hlw0 hl0 hr h hT hcell0 hx1 hvs HR0
    generalize l[m / L % S] = x at *
    generalize m / L % S = s at *
    generalize m / L = n at *
    go_enter Try.func41, Try.ntmps41
    go_wp2
    go_quiet (fail)
    have HBQ : Aside0 (Below w.heap.size w (((w.alloc (.cells #[.int .i64 S, .int .i64 W, .int .i64 L] 26)).alloc (.cells #[.slice (some ad) l.length c] 54)).drewN nq)) := ⟨pw_below_drewN HB0.out nq⟩
    clear hcell HB0
    generalize ((w.alloc (.cells #[.int .i64 S, .int .i64 W, .int .i64 L] 26)).alloc (.cells #[.slice (some ad) l.length c] 54)).drewN nq = W2 at *
    have HX2 : Aside0 (T1 W2 b (.slice (some ⟨gs, 0, none⟩) x.length c0) x) := ⟨HX.out.fr (S := fun _ => False) (Fr.ofBelow HBQ.out) (fun _ _ h => h)⟩
    have hat0 : ((x.length : Int) - 1) = ((atN x n 0 : Nat) : Int) := by rw [atN]; omega
    have HAT0 := Aside0.mk hat0
    clear hat0
    go_wp2
    go_loopw [9, 10, 11] (fun v9 v10 v11 wr => ∃ i : Nat, i ≤ x.length ∧ v9 = .int .i64 (atN x n i : Nat) ∧ v10 = .bool (hitN x n i) ∧ v11 = .int .i64 i ∧ W2 = wr) (fun _ _ v11 _ => x.length - (RowKit.intOf v11).toNat)
    case atStart => exact ⟨0, Nat.zero_le _, by rw [HAT0.out], rfl, rfl, rfl⟩
    case round =>
      clear HAT0
      obtain ⟨i, hi, rfl, rfl, rfl, rfl⟩ := hrel
      by_cases hlt : i < x.length
      · obtain ⟨hcx, hfx⟩ := HX2.out.cell hlt
        clear hfx
        by_cases he : x.getD i 0 = (n : Int)
        · have HA : Aside0 (atN x n (i + 1) = i ∧ hitN x n (i + 1) = true) := ⟨by rw [atN, if_pos he], by rw [hitN, if_pos he]⟩
          have g1 : (x.getD i 0 == (n : Int)) = true := beq_iff_eq.2 he
          clear he
          generalize x.getD i 0 = y at *
          go_wp2
          go_roundw
          case rel => exact ⟨i + 1, hlt, by rw [HA.out.1], by rw [HA.out.2], by go_num, trivial⟩
          case measure => simp [RowKit.intOf]; omega
        · have HA : Aside0 (atN x n (i + 1) = atN x n i ∧ hitN x n (i + 1) = hitN x n i) := ⟨by rw [atN, if_neg he], by rw [hitN, if_neg he]⟩
          have g1 : (x.getD i 0 == (n : Int)) = false := beq_eq_false_iff_ne.2 he
          clear he
          generalize x.getD i 0 = y at *
          go_wp2
          go_roundw
          case rel => exact ⟨i + 1, hlt, by rw [HA.out.1], by rw [HA.out.2], by go_num, trivial⟩
          case measure => simp [RowKit.intOf]; omega
      · obtain rfl : i = x.length := by omega
        have hal := atN_lt (n : Int) hx0 x.length (Nat.le_refl _)
        have HS0 : Aside0 (T1 W2 b (.slice (some ⟨gs, 0, none⟩) x.length c0) (shJ x (atN x n x.length) (atN x n x.length)) ∧ Fr (fun k => k = gs) W2 W2) := ⟨by rw [shJ_start]; exact HX2.out, Fr.refl _ _⟩
        have HUC : Aside0 (useC x n = (shJ x (atN x n x.length) 0).set 0 n) := ⟨rfl⟩
        generalize atN x n x.length = a at *
        generalize hitN x n x.length = hh at *
        go_wp2
        go_loopw [12] (fun v12 wr => ∃ j : Nat, j ≤ a ∧ v12 = .int .i64 j ∧ Aside0 (T1 wr b (.slice (some ⟨gs, 0, none⟩) x.length c0) (shJ x a j) ∧ Fr (fun k => k = gs) W2 wr)) (fun v12 _ => (RowKit.intOf v12).toNat)
        case atStart => exact ⟨a, Nat.le_refl _, rfl, HS0⟩
        case round =>
          clear HS0
          obtain ⟨j, hj, rfl, HJ⟩ := hrel
          by_cases hj0 : 0 < j
          · obtain ⟨j, rfl⟩ : ∃ k, j = k + 1 := ⟨j - 1, by omega⟩
            obtain ⟨c1, f1⟩ := HJ.out.1.cell (i := j) (by rw [shJ_length]; omega)
            obtain ⟨c2, f2⟩ := HJ.out.1.cell (i := j + 1) (by rw [shJ_length]; omega)
            have HN : Aside0 (T1 (wr.setCell ⟨gs, j + 1, none⟩ (.int .i64 ((shJ x a (j + 1)).getD j 0))) b (.slice (some ⟨gs, 0, none⟩) x.length c0) (shJ x a j) ∧ Fr (fun k => k = gs) W2 (wr.setCell ⟨gs, j + 1, none⟩ (.int .i64 ((shJ x a (j + 1)).getD j 0)))) := ⟨by rw [← shJ_step hj hal]; exact HJ.out.1.set _, HJ.out.2.trans (Fr.set _ rfl)⟩
            clear HJ f1
            generalize (shJ x a (j + 1)).getD j 0 = y at *
            generalize (shJ x a (j + 1)).getD (j + 1) 0 = z at *
            go_wp2
            go_roundw
            case rel => exact ⟨j, by omega, by go_num, HN⟩
            case measure => simp [RowKit.intOf]
          · obtain rfl : j = 0 := by omega
            obtain ⟨c2, f2⟩ := HJ.out.1.cell (i := 0) (by rw [shJ_length]; omega)
            generalize (shJ x a 0).getD 0 0 = z at *
            go_wp2
            go_ret
            have h1 : T1 (wr.setCell ⟨gs, 0, none⟩ (.int .i64 n)) b (.slice (some ⟨gs, 0, none⟩) x.length c0) (useC x n) := by rw [HUC.out]; exact HJ.out.1.set _
            have h2 : Fr (fun k => k = gs) W2 (wr.setCell ⟨gs, 0, none⟩ (.int .i64 n)) := HJ.out.2.trans (Fr.set _ rfl)
            have h3 : T2 W2 b (.slice (some ad) l.length c) vs l := HT.out.fr (S := fun _ => False) (Fr.ofBelow HBQ.out) (fun _ _ h => h)
            refine ⟨⟨_, rfl⟩, by rw [HU.out]; exact h3.setRow hns HVS.out h1 h2, (Fr.ofBelow HBQ.out).trans (h2.mono (fun k hk => .inr ⟨s, by rw [HT.out.len]; exact hns, ?_⟩))⟩
            rw [HVS.out, hk]
            rfl
end Go.Proofs.Ytkgocbmnjlfkoaa.M
end
section
namespace Go.Proofs.Ytkgocbmnjlfkoaa.M
open Go.RowKit
set_option linter.unusedVariables false
set_option linter.unusedSimpArgs false
structure RowC (S s W : Nat) (x : List Int) : Prop where
  len : x.length = W
  rng : ∀ p, p < W → x.getD p 0 = -1 ∨ (0 ≤ x.getD p 0 ∧ x.getD p 0 ≤ 1048576 ∧ x.getD p 0 % S = s)
  ne : ∀ p q, p < q → q < W → x.getD p 0 = x.getD q 0 → x.getD p 0 < 0
structure Con (S W : Nat) (l : List (List Int)) : Prop where
  len : l.length = S
  el : ∀ s, s < S → RowC S s W (l.getD s [])
theorem Con.row {S W : Nat} {l : List (List Int)} (h : Con S W l) : ∀ x ∈ l, x.length = W := fun x hx => by
  obtain ⟨i, hi, rfl⟩ := List.getElem_of_mem hx
  have := (h.el i (by rw [← h.len]; exact hi)).len
  rwa [getD_lt hi] at this
theorem atN_spec (x : List Int) (n : Int) : ∀ k, (atN x n k = x.length - 1 ∧ ∀ q, q < k → x.getD q 0 ≠ n) ∨ (x.getD (atN x n k) 0 = n ∧ atN x n k < k ∧ ∀ q, atN x n k < q → q < k → x.getD q 0 ≠ n)
  | 0 => .inl ⟨rfl, fun q h => absurd h (Nat.not_lt_zero _)⟩
  | k + 1 => by
    rw [atN]
    by_cases e : x.getD k 0 = n
    · rw [if_pos e]
      exact .inr ⟨e, by omega, fun q h1 h2 => absurd h1 (by omega)⟩
    · rw [if_neg e]
      rcases atN_spec x n k with ⟨h1, h2⟩ | ⟨h1, h2, h3⟩
      · refine .inl ⟨h1, fun q hq => ?_⟩
        by_cases e2 : q = k
        · subst e2; exact e
        · exact h2 q (by omega)
      · refine .inr ⟨h1, by omega, fun q hq hq2 => ?_⟩
        by_cases e2 : q = k
        · subst e2; exact e
        · exact h3 q hq (by omega)
def src (a p : Nat) : Nat := if p ≤ a then p - 1 else p
theorem useC_at {x : List Int} (n : Int) {p : Nat} (h : p < x.length) : (useC x n).getD p 0 = if p = 0 then n else x.getD (src (atC x n) p) 0 := by
  unfold useC src
  rw [getD_set _ _ _ _ (by rw [shJ_length]; omega), shJ_at h]
  by_cases e : p = 0
  · subst e
    rw [if_pos rfl, if_pos rfl]
  · rw [if_neg (Ne.symm e), if_neg e]
    by_cases h2 : p ≤ atC x n
    · rw [if_pos ⟨by omega, h2⟩, if_pos h2]
    · rw [if_neg (fun h => h2 h.2), if_neg h2]
theorem RowC.use {S s W : Nat} {x : List Int} (h : RowC S s W x) {n : Int} (h0 : 0 ≤ n) (h1 : n ≤ 1048576) (hn : n % S = s) : RowC S s W (useC x n) := by
  have hl := h.len
  have hat : ∀ p, p < W → 0 < p → src (atC x n) p < W := fun p hp hp0 => by unfold src; split <;> omega
  refine ⟨by rw [useC_length, hl], fun p hp => ?_, fun p q hpq hq => ?_⟩
  · rw [useC_at n (by omega)]
    by_cases e : p = 0
    · rw [if_pos e]
      exact .inr ⟨h0, h1, hn⟩
    · rw [if_neg e]
      exact h.rng _ (hat p hp (by omega))
  · rw [useC_at n (by omega), useC_at n (by omega), if_neg (show ¬ q = 0 by omega)]
    by_cases e : p = 0
    · rw [if_pos e]
      intro h2
      exfalso
      have hq2 := hat q hq (by omega)
      have hsp := atN_spec x n x.length
      rcases hsp with ⟨_, h3⟩ | ⟨h3, h4, h5⟩
      · exact h3 _ (by omega) h2.symm
      · have hne : src (atC x n) q ≠ atC x n := by unfold src; split <;> omega
        have h3' : x.getD (atC x n) 0 = n := h3
        have h4' : atC x n < x.length := h4
        rcases Nat.lt_or_gt_of_ne hne with h6 | h6
        · have := h.ne _ _ h6 (by omega) (by rw [← h2, h3'])
          omega
        · have := h.ne _ _ h6 (by omega) (by rw [← h2, h3'])
          omega
    · rw [if_neg e]
      intro h2
      exact h.ne _ _ (by unfold src; split <;> split <;> omega) (hat q hq (by omega)) h2
theorem Con.use {S W L : Nat} {l : List (List Int)} (h : Con S W l) {m : Nat} (hm : m ≤ 1048576) : Con S W (useL S L l m) := by
  refine ⟨by rw [useL_length, h.len], fun s hs => ?_⟩
  unfold useL
  rw [if_neg (by omega)]
  have hlt : m / L % S < S := Nat.mod_lt _ (by omega)
  rw [getD_set _ _ _ _ (by rw [h.len]; exact hlt)]
  by_cases e : m / L % S = s
  · rw [if_pos e]
    have := h.el s hs
    rw [e]
    have hd := Nat.div_le_self m L
    generalize m / L = n at *
    exact this.use (by omega) (by omega) (by rw [← e]; exact (Int.natCast_emod _ _).symm)
  · rw [if_neg e]
    exact h.el s hs
theorem Con.empty (S W : Nat) : Con S W (empty0 S W) := by
  refine ⟨by simp [empty0], fun s hs => ?_⟩
  have : (empty0 S W).getD s [] = List.replicate W (-1) := by
    rw [getD_lt (by simp [empty0]; exact hs)]
    simp [empty0]
  rw [this]
  have hg : ∀ p, p < W → (List.replicate W (-1 : Int)).getD p 0 = -1 := fun p hp => by
    rw [getD_lt (by simpa using hp)]
    simp
  refine ⟨by simp, fun p hp => .inl (hg p hp), fun p q hpq hq _ => ?_⟩
  rw [hg p (by omega)]
  decide
theorem mem_ofS {W : Nat} {x : List Int} {y : Int} {i : Nat} : y ∈ (ofS W x).getD i [] ↔ i < W ∧ 0 ≤ x.getD i 0 ∧ y = x.getD i 0 := by
  by_cases h : i < W
  · have : (ofS W x).getD i [] = if 0 ≤ x.getD i 0 then [x.getD i 0] else [] := by
      rw [getD_lt (by rw [ofS, ofR_length]; exact h)]
      simp [ofS, ofR, h]
    rw [this]
    by_cases h2 : 0 ≤ x.getD i 0
    · rw [if_pos h2, List.mem_singleton]
      exact ⟨fun e => ⟨h, h2, e⟩, fun e => e.2.2⟩
    · rw [if_neg h2]
      exact ⟨fun e => (by cases e), fun e => absurd e.2.1 h2⟩
  · have : (ofS W x).getD i [] = [] := by
      rw [List.getD_eq_getElem?_getD, List.getElem?_eq_none (by rw [ofS, ofR_length]; omega)]
      rfl
    rw [this]
    exact ⟨fun e => (by cases e), fun e => absurd e.1 h⟩
theorem RowC.of {S s W : Nat} {x : List Int} (h : RowC S s W x) : VS S s W (ofS W x) := by
  refine ⟨ofR_length _ _ _, fun i => ?_, fun i y hy => ?_, fun i j hij y hy hy2 => ?_⟩
  · by_cases hi : i < W
    · have : (ofS W x).getD i [] = if 0 ≤ x.getD i 0 then [x.getD i 0] else [] := by
        rw [getD_lt (by rw [ofS, ofR_length]; exact hi)]
        simp [ofS, ofR, hi]
      rw [this]
      split
      · exact List.pairwise_singleton _ _
      · exact List.Pairwise.nil
    · have : (ofS W x).getD i [] = [] := by
        rw [List.getD_eq_getElem?_getD, List.getElem?_eq_none (by rw [ofS, ofR_length]; omega)]
        rfl
      rw [this]
      exact List.Pairwise.nil
  · obtain ⟨h1, h2, rfl⟩ := mem_ofS.1 hy
    rcases h.rng i h1 with h3 | h3
    · omega
    · exact h3
  · obtain ⟨h1, h2, h3⟩ := mem_ofS.1 hy
    obtain ⟨h4, h5, h6⟩ := mem_ofS.1 hy2
    rcases Nat.lt_or_gt_of_ne hij with h7 | h7
    · have := h.ne i j h7 h4 (by rw [← h3, ← h6])
      omega
    · have := h.ne j i h7 h1 (by rw [← h3, ← h6])
      omega
theorem ofM_at {S W : Nat} (l : List (List Int)) {s : Nat} (hs : s < S) : (ofM S W l).getD s [] = ofS W (l.getD s []) := by
  unfold ofM
  rw [getD_lt (by rw [ofN_length]; exact hs)]
  simp [ofN, hs]
theorem Con.of {S W : Nat} {l : List (List Int)} (h : Con S W l) : Val S W (ofM S W l) := ⟨ofN_length _ _ _ _, fun s hs => by
  rw [ofM_at l hs]
  exact (h.el s hs).of⟩
end Go.Proofs.Ytkgocbmnjlfkoaa.M
end
section
namespace Go.Proofs.Ytkgocbmnjlfkoaa.M
open Go.RowKit Go.Proofs.Ytkgocbmnjlfkoaa.X Go.Proofs.YtkgocbmnjlfkoaaW.PrintWords Go.Proofs.YtkgocbmnjlfkoaaW.PrintLast Go.Proofs.YtkgocbmnjlfkoaaW.PrintMore
set_option linter.unusedVariables false
set_option linter.unusedSimpArgs false
def Dk (wD : World) (g : Nat) (xs : List Int) (w : World) : Prop := ∃ s, Deck xs s ∧ IsS72 wD w g xs s ∧ Below wD.heap.size wD w
section
variable {wD w w' : World} {g : Nat} {xs : List Int}
theorem Dk.below (h : Dk wD g xs w) (hb : Below w.heap.size w w') : Dk wD g xs w' := by
  obtain ⟨s, h1, h2, h3⟩ := h
  exact ⟨s, h1, h2.below hb, h3.trans (hb.mono h3.size)⟩
theorem Dk.ne (h : Dk wD g xs w) {k t : Nat} {cs : Array Value} {fr : Nat × Nat} (hk : w.heap[k]? = some (.cells cs t fr)) (ht : t ≠ 72) : k ≠ g := by
  obtain ⟨s, h1, h2, h3⟩ := h
  exact Ne.symm (h2.ne_blk hk ht)
theorem Dk.lt (h : Dk wD g xs w) : g < w.heap.size := by
  obtain ⟨s, h1, h2, h3⟩ := h
  exact h2.lt
theorem Dk.ge (h : Dk wD g xs w) : wD.heap.size ≤ g := by
  obtain ⟨s, h1, h2, h3⟩ := h
  exact h2.ge
theorem Dk.bel (h : Dk wD g xs w) : Below wD.heap.size wD w := by
  obtain ⟨s, h1, h2, h3⟩ := h
  exact h3
theorem Dk.blk (h : Dk wD g xs w) (hk : KeepBut w w' g none) {k t : Nat} {cs : Array Value} {fr : Nat × Nat} (hb : w.heap[k]? = some (.cells cs t fr)) (ht : t ≠ 72) : w'.heap[k]? = some (.cells cs t fr) :=
  (hk.2 k (blk_lt hb) (h.ne hb ht) (by simp)).trans hb
theorem T2.keepD {b : Nat} {v : Value} {vs : List Value} {l : List (List Int)} (hT : T2 w b v vs l) (h : Dk wD g xs w) (hk : KeepBut w w' g none) : T2 w' b v vs l := hT.keep fun k hi => by
  obtain ⟨c, e, h0, h1⟩ := In2.typed hT hi
  rw [h1]
  exact h.blk hk h1 (by rcases h0 with rfl | rfl <;> decide)
theorem T3.keepD {b : Nat} {v : Value} {vs : List Value} {us : List (List Value)} {x : List (List (List Int))} (hT : T3 w b v vs us x) (h : Dk wD g xs w) (hk : KeepBut w w' g none) : T3 w' b v vs us x := by
  have h2 : ∀ k, In3 v vs us k → w'.heap[k]? = w.heap[k]? := fun k hi => by
    rcases hi with hi | ⟨i, hi, h2⟩
    · obtain ⟨c, hc⟩ := own_typed hT.own k hi
      rw [hc]
      exact h.blk hk hc (by decide)
    · obtain ⟨c, e, h0, h1⟩ := In2.typed (hT.el i (by rw [← hT.len]; exact hi)) h2
      rw [h1]
      exact h.blk hk h1 (by rcases h0 with rfl | rfl <;> decide)
  exact hT.keep h2
theorem next_calls (h : Dk wD g xs w) (n : Int) (hn : n ≤ 1048577) : Calls Try.prog 18 #[.pointer (some ⟨g, 0, none⟩), .int .i64 n] w fun e w' => ∃ r : Nat, e = .returned (.int .i64 r) ∧ (1 ≤ n → (r : Int) < n) ∧ (n < 1 → r = 0) ∧ Dk wD g xs w' ∧ KeepBut w w' g none := by
  obtain ⟨s, h1, h2, h3⟩ := h
  obtain ⟨v, s', e1, k0, k1, k2, k3⟩ := next_ h1 n hn
  refine (timeboundmake_Deck_Next.calls g xs s n v s' wD w h2 h3 e1).mono ?_
  rintro e w' ⟨rfl, i1, i2, i3⟩
  exact ⟨v.toNat, by rw [Int.toNat_of_nonneg k0], by omega, by omega, ⟨s', k3, i1, i2⟩, i3⟩
theorem line_calls (h : Dk wD g xs w) : Calls Try.prog 28 #[.pointer (some ⟨g, 0, none⟩)] w fun e w' => ∃ n : Nat, e = .returned (.int .i64 n) ∧ n ≤ 1048576 ∧ Dk wD g xs w' ∧ KeepBut w w' g none := by
  obtain ⟨s, h1, h2, h3⟩ := h
  obtain ⟨n, s', e1, k0, k3⟩ := line_ h1
  refine (timeboundmake2_Line.calls g xs s n s' wD w h2 h3 e1).mono ?_
  rintro e w' ⟨rfl, i1, i2, i3⟩
  exact ⟨n, rfl, k0, ⟨s', k3, i1, i2⟩, i3⟩
theorem few_calls (h : Dk wD g xs w) : Calls Try.prog 38 #[.pointer (some ⟨g, 0, none⟩)] w fun e w' => ∃ A c r, e = .returned (.slice A (r : List Int).length c) ∧ r.length ≤ c ∧ C1 w' A r ∧ LinesOk r ∧ r.length ≤ 3 ∧ Dk wD g xs w' ∧ KeepBut w w' g none := by
  obtain ⟨s, h1, h2, h3⟩ := h
  obtain ⟨k, r, s', e1, k0, k1, k3⟩ := few_ h1
  refine (timeboundmake2_Few.calls k g xs s r s' wD w h2 h3 e1).mono ?_
  rintro e w' ⟨v, rfl, hR, i1, i2, i3⟩
  obtain ⟨A, c, rfl, j1, j2⟩ := Kd.R_reads hR
  exact ⟨A, c, r, rfl, j1, j2, k0, k1, ⟨s', k3, i1, i2⟩, i3⟩
theorem cache_calls (h : Dk wD g xs w) : Calls Try.prog 15 #[.pointer (some ⟨g, 0, none⟩)] w fun e w' => ∃ S W L : Nat, e = .returned (.agg #[.int .i64 S, .int .i64 W, .int .i64 L]) ∧ CacheOk S W L ∧ Dk wD g xs w' ∧ KeepBut w w' g none := by
  obtain ⟨s, h1, h2, h3⟩ := h
  obtain ⟨S, W, L, s', e1, k0, k3⟩ := cache_ h1
  refine (timeboundmake2_Cache.calls g xs s S W L s' wD w h2 h3 e1).mono ?_
  rintro e w' ⟨rfl, i1, i2, i3⟩
  exact ⟨S, W, L, rfl, k0, ⟨s', k3, i1, i2⟩, i3⟩
theorem new_calls (A : Option Addr) (c : Nat) (l : List Int) (w : World) (hr : C1 w A l) (hc : l.length ≤ c) (hl : l.length ≤ 17592186044416) : Calls Try.prog 14 #[.slice A l.length c] w fun e w' => ∃ g, e = .returned (.pointer (some ⟨g, 0, none⟩)) ∧ Dk w g l w' ∧ Below w.heap.size w w' := by
  refine (timeboundmake_New.calls A c l l 0 w w (Below.refl _ _) hr hc rfl).mono ?_
  rintro e w' ⟨g, rfl, i1, i2, i3⟩
  exact ⟨g, rfl, ⟨0, ⟨hl, by omega, by omega⟩, i1, i2⟩, i3⟩
theorem empty_calls {S W L : Nat} (h : CacheOk S W L) (w : World) : Calls Try.prog 104 #[.agg #[.int .i64 S, .int .i64 W, .int .i64 L]] w fun e w' => ∃ v vs, e = .returned (.agg #[v]) ∧ T2 w' w.heap.size v vs (empty0 S W) ∧ Below w.heap.size w w' := by
  obtain ⟨k, hk⟩ := empty_ h
  refine (timeboundref22_Empty.calls k S W L (empty0 S W) w hk).mono ?_
  rintro e w' ⟨v, rfl, hS, hb⟩
  obtain ⟨vs, hT⟩ := S_T2 hS
  exact ⟨v, vs, rfl, hT, hb⟩
end
end Go.Proofs.Ytkgocbmnjlfkoaa.M
end
section
namespace Go.Proofs.Ytkgocbmnjlfkoaa.M
open Go.RowKit Go.Proofs.Ytkgocbmnjlfkoaa.X Go.Proofs.YtkgocbmnjlfkoaaW.PrintWords Go.Proofs.YtkgocbmnjlfkoaaW.PrintLast Go.Proofs.YtkgocbmnjlfkoaaW.PrintMore
set_option linter.unusedVariables false
set_option linter.unusedSimpArgs false
theorem T2.setFar {w : World} {b : Nat} {v : Value} {vs : List Value} {l : List (List Int)} (h : T2 w b v vs l) {k t i : Nat} {c : Array Value} (hk : w.heap[k]? = some (.cells c t (0, 0))) (ht : t ≠ 22 ∧ t ≠ 3) (u : Value) : T2 (w.setCell ⟨k, i, none⟩ u) b v vs l :=
  h.fr (Fr.set (S := fun j => j = k) u rfl) (fun j hj e => by
    subst e
    obtain ⟨c1, e1, h0, h1⟩ := In2.typed h hj
    rw [hk] at h1
    injection h1 with h1
    injection h1 with _ h1
    rcases h0 with rfl | rfl
    · exact ht.1 h1
    · exact ht.2 h1)
theorem Dk.set {wD w : World} {g : Nat} {xs : List Int} (h : Dk wD g xs w) {k t i : Nat} {c : Array Value} (hk : w.heap[k]? = some (.cells c t (0, 0))) (ht : t ≠ 72) (hg : wD.heap.size ≤ k) (u : Value) : Dk wD g xs (w.setCell ⟨k, i, none⟩ u) := by
  have hn := h.ne hk ht
  obtain ⟨s, h1, h2, h3⟩ := h
  exact ⟨s, h1, h2.far (Ne.symm hn) u, h3.setCell hg u⟩
theorem KeepBut.setNew {w wr : World} {g k i : Nat} (h : KeepBut w wr g none) (hk : w.heap.size ≤ k) (u : Value) : KeepBut w (wr.setCell ⟨k, i, none⟩ u) g none :=
  ⟨by rw [size_setCell]; exact h.1, fun j hj hg hr => (Below.heap_setCell wr _ u j (by show j ≠ k; omega)).trans (h.2 j hj hg hr)⟩
def NewL (wD w : World) (g : Nat) (xs : List Int) (S W : Nat) (e : Ending) (w' : World) : Prop := ∃ v vs l, e = .returned (.agg #[v]) ∧ T2 w' w.heap.size v vs l ∧ Con S W l ∧ Dk wD g xs w' ∧ KeepBut w w' g none
structure LJ (wD w wr : World) (g : Nat) (xs : List Int) (v : Value) (l : List (List Int)) (bo : Nat) (c0 c1 c2 : Value) : Prop where
  deck : Dk wD g xs wr
  keep : KeepBut w wr g none
  sets : ∃ vs, T2 wr w.heap.size v vs l
  c : wr.heap[w.heap.size]? = some (.cells #[c0, c1, c2] 26 (0, 0))
  r : wr.heap[w.heap.size + 1]? = some (.cells #[.slice none 0 0] 54 (0, 0))
  o : wr.heap[bo]? = some (.cells #[v] 54 (0, 0))
section
variable {wD w wr w' : World} {g bo S W L : Nat} {xs : List Int} {v c0 c1 c2 : Value} {l : List (List Int)}
theorem LJ.next (h : LJ wD w wr g xs v l bo c0 c1 c2) (hd : Dk wD g xs w') (hk : KeepBut wr w' g none) : LJ wD w w' g xs v l bo c0 c1 c2 := by
  obtain ⟨vs, hT⟩ := h.sets
  exact ⟨hd, h.keep.trans hk (.inl rfl), ⟨vs, hT.keepD h.deck hk⟩, h.deck.blk hk h.c (by decide), h.deck.blk hk h.r (by decide), h.deck.blk hk h.o (by decide)⟩
theorem LJ.drew (h : LJ wD w wr g xs v l bo c0 c1 c2) : LJ wD w wr.drew g xs v l bo c0 c1 c2 := by
  obtain ⟨vs, hT⟩ := h.sets
  exact ⟨h.deck.below (Below.refl _ _).drew, h.keep, ⟨vs, hT.fr (S := fun _ => False) (Fr.drew _ _) (fun _ _ h => h)⟩, h.c, h.r, h.o⟩
theorem LJ.use (hC : CacheOk S W L) (h : LJ wD w wr g xs v l bo c0 c1 c2) (hl : Con S W l) (m : Nat) (hm : m ≤ 1048576) (hwD : Below wD.heap.size wD w) : Calls Try.prog 41 #[.agg #[.int .i64 S, .int .i64 W, .int .i64 L], .agg #[v], .int .i64 m] wr (fun e w' => (∃ r, e = .returned (.bool r)) ∧ LJ wD w w' g xs v (useL S L l m) bo c0 c1 c2) := by
  obtain ⟨vs, hT⟩ := h.sets
  refine (use41_calls hC v vs l w.heap.size m wr hT h.keep.1 hl.len hl.row hm).mono ?_
  rintro e w' ⟨h1, h2, h3⟩
  have hkb : ∀ {k t : Nat} {cs : Array Value}, wr.heap[k]? = some (.cells cs t (0, 0)) → t ≠ 22 ∧ t ≠ 3 → w'.heap[k]? = some (.cells cs t (0, 0)) := fun {k t cs} hk ht => (h3.block k (blk_lt hk) (fun hi => by
    obtain ⟨c1, e1, h0, h1⟩ := In2.typed hT hi
    rw [hk] at h1
    injection h1 with h1
    injection h1 with _ h1
    rcases h0 with rfl | rfl
    · exact ht.1 h1
    · exact ht.2 h1)).trans hk
  refine ⟨h1, ?_, ⟨Nat.le_trans h.keep.1 h3.size, fun j hj hg hr => ?_⟩, ⟨vs, h2⟩, hkb h.c (by decide), hkb h.r (by decide), hkb h.o (by decide)⟩
  · obtain ⟨s, d1, ⟨A0, k0, d2, d3, d4⟩, d5⟩ := h.deck
    exact ⟨s, d1, ⟨A0, k0, hkb d2 (by decide), d3, d4⟩, d5.trans (h3.below d5.size (fun k hk => by have := (hT.lt hk).1; have := hwD.size; omega))⟩
  · exact (h3.block j (by have := h.keep.1; omega) (fun hi => by have := (hT.lt hi).1; omega)).trans (h.keep.2 j hj hg hr)
end
set_option maxHeartbeats 4000000 in
theorem lines_calls {S W L g : Nat} {wD w : World} {xs : List Int} (h : CacheOk S W L) (hd : Dk wD g xs w) : Calls Try.prog 93 #[.pointer (some ⟨g, 0, none⟩), .agg #[.int .i64 S, .int .i64 W, .int .i64 L]] w (NewL wD w g xs S W) := by
  have hW1 := h.w1; have hW4 := h.w4; have hS8 := h.s8
  have HC := Aside0.mk h
  have HWD := Aside0.mk hd.bel
  have HB0 : Aside0 (Below w.heap.size w ((w.alloc (.cells #[.int .i64 S, .int .i64 W, .int .i64 L] 26)).alloc (.cells #[.slice none 0 0] 54))) := ⟨((Below.refl _ _).alloc (Nat.le_refl _) _).alloc (by simp) _⟩
  have hemp := Aside0.mk (empty_calls h ((w.alloc (.cells #[.int .i64 S, .int .i64 W, .int .i64 L] 26)).alloc (.cells #[.slice none 0 0] 54)))
  have HD := Aside0.mk hd
  have HCE := Aside0.mk (Con.empty S W)
  clear hd h
  go_enter Try.func93, Try.ntmps93
  go_wp2_with (first | (go_at_call 104; refine hemp.out.mono ?_; rintro e w1 ⟨v, vs, rfl, hT, hb⟩; obtain ⟨A1, k1, rfl, _, _⟩ := hT.reads; have HB1 := Aside0.mk (HB0.out.trans (hb.mono HB0.out.size)); obtain ⟨b1, b2⟩ := two_box hb; have HJ : Aside0 (LJ wD w (w1.alloc (.cells #[.slice A1 (empty0 S W).length k1] 54)) g xs (.slice A1 (empty0 S W).length k1) (empty0 S W) w1.heap.size (.int .i64 S) (.int .i64 W) (.int .i64 L)) := ⟨(HD.out.below HB1.out).below ((Below.refl _ _).alloc (Nat.le_refl _) _), KeepBut.of_below (HB1.out.alloc HB1.out.size _) g none, ⟨vs, (hT.lower HB0.out.size).fr (S := fun _ => False) (Fr.ofBelow ((Below.refl _ _).alloc (Nat.le_refl _) _)) (fun _ _ h => h)⟩, blk_alloc b1 _, blk_alloc b2 _, heap_new _ _⟩; clear b1 b2 hb hT HB1) | (go_at_call 18; refine (next_calls HJ.out.deck 12 (by decide)).mono ?_; rintro e w2 ⟨k, rfl, hk1, hk2, hd2, hkb⟩; have HJ2 := Aside0.mk (HJ.out.next hd2 hkb); have hkk : k < 12 := (by have := hk1 (by decide); omega); clear hk1 hk2 hd2 hkb HJ))
  generalize w1.heap.size = bo at *
  generalize (empty0 S W).length = n0 at *
  generalize empty0 S W = l0 at *
  clear hemp HD
  go_loopw [6] (fun v6 wr => ∃ k : Nat, k < 12 ∧ v6 = .int .i64 k ∧ Aside0 (∃ l, Con S W l ∧ LJ wD w wr g xs (.slice A1 n0 k1) l bo (.int .i64 S) (.int .i64 W) (.int .i64 L))) (fun v6 _ => (RowKit.intOf v6).toNat)
  case atStart => exact ⟨_, hkk, rfl, l0, HCE.out, HJ2.out⟩
  case round =>
    clear HJ2 HCE hkk
    obtain ⟨k, hk12, rfl, HE⟩ := hrel
    obtain ⟨l, hCl, hJ⟩ := HE.out
    have HCl := Aside0.mk hCl
    have HJ := Aside0.mk hJ
    clear hCl hJ HE
    obtain ⟨q0, q1, q2, f0, f1, f2⟩ := cz3 HJ.out.c
    clear f0 f1 f2
    by_cases hk0 : 0 < k
    · obtain ⟨k, rfl⟩ : ∃ j, k = j + 1 := ⟨k - 1, by omega⟩
      have g1 : decide ((0 : Int) < ((k + 1 : Nat) : Int)) = true := decide_eq_true (by omega)
      have g1' : decide ((0 : Int) < (k : Int) + 1) = true := decide_eq_true (by omega)
      by_cases hs0 : 0 < S
      · have g2 : decide ((0 : Int) < (S : Int)) = true := decide_eq_true (by omega)
        obtain ⟨q5, f5⟩ := cz1' HJ.out.o
        have hnext := Aside0.mk (next_calls HJ.out.drew.deck 120 (by decide))
        have HJr := Aside0.mk HJ.out.drew
        clear f5
        go_upto_region 5 with (fail)
        go_region_held3 (fun w' => w'.cell? ⟨w.heap.size, 0, none⟩ = some (.int .i64 S) ∧ w'.cell? ⟨w.heap.size, 1, none⟩ = some (.int .i64 W) ∧ w'.cell? ⟨w.heap.size, 2, none⟩ = some (.int .i64 L) ∧ w'.cell? ⟨bo, 0, none⟩ = some (.slice A1 n0 k1))
          (first | exact ⟨q0, q1, q2, q5⟩ | exact ⟨q0b, q1b, q2b, q5b⟩ | exact ⟨q0c, q1c, q2c, q5c⟩ | go_keep)
          (first | (go_at_call 18; refine hnext.out.mono ?_; rintro e w3 ⟨r, rfl, hr1, hr2, hd3, hkb⟩; have HJ3 := Aside0.mk (HJr.out.next hd3 hkb); obtain ⟨q0b, q1b, q2b, f0, f1, f2⟩ := cz3 HJ3.out.c; obtain ⟨q5b, f5⟩ := cz1' HJ3.out.o; have HR := Aside0.mk (hr1 (by decide)); clear f0 f1 f2 f5 hr1 hr2 hd3 hkb) | (go_at_call 41; refine (HJ3.out.use HC.out HCl.out r (by have := HR.out; omega) HWD.out).mono ?_; rintro e w4 ⟨⟨r4, rfl⟩, hj4⟩; have HJ4 := Aside0.mk hj4; obtain ⟨q0c, q1c, q2c, f0, f1, f2⟩ := cz3 hj4.c; obtain ⟨q5c, f5⟩ := cz1' hj4.o; clear f0 f1 f2 f5 hj4))
        all_goals
          have HE3 : Aside0 (∃ l, Con S W l ∧ LJ wD w w4 g xs (.slice A1 n0 k1) l bo (.int .i64 S) (.int .i64 W) (.int .i64 L)) := ⟨_, HCl.out.use (by have := HR.out; omega), HJ4.out⟩
          clear HJ4 HJ3 HJ HJr hnext q0 q1 q2 q5
          go_wp2
          go_roundw
          case rel => exact ⟨k, by omega, by go_num, HE3⟩
          case measure => simp [RowKit.intOf]
      · have g2 : decide ((0 : Int) < (S : Int)) = false := decide_eq_false (by omega)
        obtain ⟨q5, f5⟩ := cz1' HJ.out.o
        obtain ⟨q4, f4⟩ := cz1' HJ.out.r
        clear f5
        go_wp2
        refine bodyPost_ret (results_cell rfl _ _ (w.heap.size + 1) 54 #[.slice A1 n0 k1] (0, 0) _ rfl (blk_put (cs := #[.slice none 0 0]) HJ.out.r 0 _ rfl) Try.underlying54 rfl (by kernel_rfl)) rfl ?_
        obtain ⟨vs, hT⟩ := HJ.out.sets
        have hsz := HWD.out.size
        exact ⟨_, vs, l, rfl, hT.setFar HJ.out.r (by decide) _, HCl.out, HJ.out.deck.set HJ.out.r (by decide) (by omega) _, KeepBut.setNew HJ.out.keep (by omega) _⟩
    · obtain rfl : k = 0 := by omega
      obtain ⟨q5, f5⟩ := cz1' HJ.out.o
      obtain ⟨q4, f4⟩ := cz1' HJ.out.r
      clear f5
      go_wp2
      refine bodyPost_ret (results_cell rfl _ _ (w.heap.size + 1) 54 #[.slice A1 n0 k1] (0, 0) _ rfl (blk_put (cs := #[.slice none 0 0]) HJ.out.r 0 _ rfl) Try.underlying54 rfl (by kernel_rfl)) rfl ?_
      obtain ⟨vs, hT⟩ := HJ.out.sets
      have hsz := HWD.out.size
      exact ⟨_, vs, l, rfl, hT.setFar HJ.out.r (by decide) _, HCl.out, HJ.out.deck.set HJ.out.r (by decide) (by omega) _, KeepBut.setNew HJ.out.keep (by omega) _⟩
end Go.Proofs.Ytkgocbmnjlfkoaa.M
end
section
namespace Go.Proofs.Ytkgocbmnjlfkoaa.M
open Go.RowKit Go.Proofs.Ytkgocbmnjlfkoaa.X Go.Proofs.YtkgocbmnjlfkoaaW.PrintWords Go.Proofs.YtkgocbmnjlfkoaaW.PrintLast Go.Proofs.YtkgocbmnjlfkoaaW.PrintMore
set_option linter.unusedVariables false
set_option linter.unusedSimpArgs false
set_option maxHeartbeats 4000000 in
theorem lines79_calls {S W L g : Nat} {wD w : World} {xs : List Int} (h : CacheOk S W L) (hd : Dk wD g xs w) : Calls Try.prog 79 #[.pointer (some ⟨g, 0, none⟩), .agg #[.int .i64 S, .int .i64 W, .int .i64 L]] w (NewL wD w g xs S W) := by
  have HB0 : Aside0 (Below w.heap.size w ((w.alloc (.cells #[.int .i64 S, .int .i64 W, .int .i64 L] 26)).alloc (.cells #[.slice none 0 0] 54))) := ⟨((Below.refl _ _).alloc (Nat.le_refl _) _).alloc (by simp) _⟩
  have hd0 : Dk wD g xs ((w.alloc (.cells #[.int .i64 S, .int .i64 W, .int .i64 L] 26)).alloc (.cells #[.slice none 0 0] 54)) := hd.below HB0.out
  have hin := Aside0.mk (lines_calls h hd0)
  have HD0 := Aside0.mk hd0
  have HWD := Aside0.mk hd.bel
  clear hd hd0 h
  go_enter Try.func79, Try.ntmps79
  go_wp2_with (go_at_call 93; refine hin.out.mono ?_; rintro e w1 ⟨v, vs, l, rfl, hT, hcon, hd, hk⟩; obtain ⟨A1, k1, rfl, _, _⟩ := hT.reads; obtain ⟨b1, b2⟩ := two_box (w := w) (o1 := .cells #[.int .i64 S, .int .i64 W, .int .i64 L] 26) (o2 := .cells #[.slice none 0 0] 54) (Below.refl _ _); have hbx := HD0.out.blk hk b2 (by decide); obtain ⟨q4, f4⟩ := cz1' hbx; have HBX := Aside0.mk hbx; have HT := Aside0.mk hT; have HCON := Aside0.mk hcon; have HD := Aside0.mk hd; have HK := Aside0.mk (KeepBut.trans (KeepBut.of_below HB0.out g none) hk (.inl rfl)); clear b1 b2 hbx hT hcon hd hk)
  refine bodyPost_ret (results_cell rfl _ _ (w.heap.size + 1) 54 #[.slice A1 l.length k1] (0, 0) _ rfl (blk_put (cs := #[.slice none 0 0]) HBX.out 0 _ rfl) Try.underlying54 rfl (by kernel_rfl)) rfl ?_
  have hsz := HWD.out.size
  exact ⟨_, vs, l, rfl, (HT.out.lower HB0.out.size).setFar HBX.out (by decide) _, HCON.out, HD.out.set HBX.out (by decide) (by omega) _, KeepBut.setNew HK.out (by omega) _⟩
set_option maxHeartbeats 4000000 in
theorem contents_calls {S W L g : Nat} {wD w : World} {xs : List Int} (h : CacheOk S W L) (hd : Dk wD g xs w) : Calls Try.prog 36 #[.pointer (some ⟨g, 0, none⟩), .agg #[.int .i64 S, .int .i64 W, .int .i64 L]] w (NewL wD w g xs S W) := by
  have HB0 : Aside0 (Below w.heap.size w ((w.alloc (.cells #[.int .i64 S, .int .i64 W, .int .i64 L] 26)).alloc (.cells #[.slice none 0 0] 54))) := ⟨((Below.refl _ _).alloc (Nat.le_refl _) _).alloc (by simp) _⟩
  have hd0 : Dk wD g xs ((w.alloc (.cells #[.int .i64 S, .int .i64 W, .int .i64 L] 26)).alloc (.cells #[.slice none 0 0] 54)) := hd.below HB0.out
  have hin := Aside0.mk (lines79_calls h hd0)
  have HD0 := Aside0.mk hd0
  have HWD := Aside0.mk hd.bel
  clear hd hd0 h
  go_enter Try.func36, Try.ntmps36
  go_wp2_with (go_at_call 79; refine hin.out.mono ?_; rintro e w1 ⟨v, vs, l, rfl, hT, hcon, hd, hk⟩; obtain ⟨A1, k1, rfl, _, _⟩ := hT.reads; obtain ⟨b1, b2⟩ := two_box (w := w) (o1 := .cells #[.int .i64 S, .int .i64 W, .int .i64 L] 26) (o2 := .cells #[.slice none 0 0] 54) (Below.refl _ _); have hbx := HD0.out.blk hk b2 (by decide); obtain ⟨q4, f4⟩ := cz1' hbx; have HBX := Aside0.mk hbx; have HT := Aside0.mk hT; have HCON := Aside0.mk hcon; have HD := Aside0.mk hd; have HK := Aside0.mk (KeepBut.trans (KeepBut.of_below HB0.out g none) hk (.inl rfl)); clear b1 b2 hbx hT hcon hd hk)
  refine bodyPost_ret (results_cell rfl _ _ (w.heap.size + 1) 54 #[.slice A1 l.length k1] (0, 0) _ rfl (blk_put (cs := #[.slice none 0 0]) HBX.out 0 _ rfl) Try.underlying54 rfl (by kernel_rfl)) rfl ?_
  have hsz := HWD.out.size
  exact ⟨_, vs, l, rfl, (HT.out.lower HB0.out.size).setFar HBX.out (by decide) _, HCON.out, HD.out.set HBX.out (by decide) (by omega) _, KeepBut.setNew HK.out (by omega) _⟩
end Go.Proofs.Ytkgocbmnjlfkoaa.M
end
section
namespace Go.Proofs.Ytkgocbmnjlfkoaa.M
open Go.RowKit Go.Proofs.Ytkgocbmnjlfkoaa.X Go.Proofs.YtkgocbmnjlfkoaaW.PrintWords Go.Proofs.YtkgocbmnjlfkoaaW.PrintLast Go.Proofs.YtkgocbmnjlfkoaaW.PrintMore
set_option linter.unusedVariables false
set_option linter.unusedSimpArgs false
theorem T3.rd {w : World} {b n c : Nat} {A : Option Addr} {vs : List Value} {us : List (List Value)} {x : List (List (List Int))} (h : T3 w b (.slice A n c) vs us x) : n = x.length ∧ x.length ≤ c ∧ C3 w A x := by
  obtain ⟨A2, c2, e, h1, h2⟩ := h.reads
  injection e with e1 e2 e3
  subst e1; subst e2; subst e3
  exact ⟨rfl, h1, h2⟩
theorem T2.rd {w : World} {b n c : Nat} {A : Option Addr} {vs : List Value} {x : List (List Int)} (h : T2 w b (.slice A n c) vs x) : n = x.length ∧ x.length ≤ c ∧ C2 w A x := by
  obtain ⟨A2, c2, e, h1, h2⟩ := h.reads
  injection e with e1 e2 e3
  subst e1; subst e2; subst e3
  exact ⟨rfl, h1, h2⟩
def NewM (wD w : World) (g : Nat) (xs : List Int) (S W : Nat) (e : Ending) (w' : World) : Prop := ∃ v vs us X, e = .returned (.agg #[v]) ∧ T3 w' w.heap.size v vs us X ∧ Val S W X ∧ Dk wD g xs w' ∧ KeepBut w w' g none
structure MB (wD w wr : World) (g : Nat) (xs : List Int) (c0 c1 c2 : Value) : Prop where
  deck : Dk wD g xs wr
  keep : KeepBut w wr g none
  c : wr.heap[w.heap.size]? = some (.cells #[c0, c1, c2] 26 (0, 0))
  r : wr.heap[w.heap.size + 1]? = some (.cells #[.slice none 0 0] 39 (0, 0))
structure MJ (wD w wr : World) (g : Nat) (xs : List Int) (v : Value) (X : List (List (List Int))) (bo : Nat) (c0 c1 c2 : Value) : Prop where
  mb : MB wD w wr g xs c0 c1 c2
  sets : ∃ vs us, T3 wr w.heap.size v vs us X
  o : wr.heap[bo]? = some (.cells #[v] 39 (0, 0))
  ob : w.heap.size + 1 < bo
section
variable {wD w wr w' : World} {g bo : Nat} {xs : List Int} {v v' c0 c1 c2 : Value} {X X' : List (List (List Int))} {vs : List Value} {us : List (List Value)}
theorem MB.step (h : MB wD w wr g xs c0 c1 c2) (hd : Dk wD g xs w') (hk : KeepBut wr w' g none) : MB wD w w' g xs c0 c1 c2 :=
  ⟨hd, h.keep.trans hk (.inl rfl), h.deck.blk hk h.c (by decide), h.deck.blk hk h.r (by decide)⟩
theorem MB.below (h : MB wD w wr g xs c0 c1 c2) (hb : Below wr.heap.size wr w') : MB wD w w' g xs c0 c1 c2 := h.step (h.deck.below hb) (KeepBut.of_below hb g none)
theorem MB.drew (h : MB wD w wr g xs c0 c1 c2) : MB wD w wr.drew g xs c0 c1 c2 := h.below (Below.refl _ _).drew
theorem MB.alloc (h : MB wD w wr g xs c0 c1 c2) (o : Obj) : MB wD w (wr.alloc o) g xs c0 c1 c2 := h.below ((Below.refl _ _).alloc (Nat.le_refl _) _)
theorem MB.size (h : MB wD w wr g xs c0 c1 c2) : w.heap.size + 1 < wr.heap.size := blk_lt h.r
theorem MB.set (h : MB wD w wr g xs c0 c1 c2) (hwD : Below wD.heap.size wD w) {cs : Array Value} (ho : wr.heap[bo]? = some (.cells cs 39 (0, 0))) (hb : w.heap.size + 1 < bo) (u : Value) : MB wD w (wr.setCell ⟨bo, 0, none⟩ u) g xs c0 c1 c2 := by
  have := hwD.size
  exact ⟨h.deck.set ho (by decide) (by omega) u, KeepBut.setNew h.keep (by omega) u, blk_farm h.c (by omega), blk_farm h.r (by omega)⟩
theorem MB.born (h : MB wD w wr g xs c0 c1 c2) (hT : T3 wr w.heap.size v vs us X) : MJ wD w (wr.alloc (.cells #[v] 39)) g xs v X wr.heap.size c0 c1 c2 :=
  ⟨h.alloc _, ⟨vs, us, hT.below ((Below.refl _ _).alloc (Nat.le_refl _) _)⟩, heap_new _ _, h.size⟩
theorem MB.put (h : MB wD w wr g xs c0 c1 c2) (hwD : Below wD.heap.size wD w) {u : Value} (ho : wr.heap[bo]? = some (.cells #[u] 39 (0, 0))) (hb : w.heap.size + 1 < bo) (hT : T3 wr w.heap.size v vs us X) : MJ wD w (wr.setCell ⟨bo, 0, none⟩ v) g xs v X bo c0 c1 c2 :=
  ⟨h.set hwD ho hb v, ⟨vs, us, hT.setFar ho (by decide) v⟩, blk_put ho 0 v rfl, hb⟩
theorem MJ.step (h : MJ wD w wr g xs v X bo c0 c1 c2) (hd : Dk wD g xs w') (hk : KeepBut wr w' g none) : MJ wD w w' g xs v X bo c0 c1 c2 := by
  obtain ⟨vs, us, hT⟩ := h.sets
  exact ⟨h.mb.step hd hk, ⟨vs, us, hT.keepD h.mb.deck hk⟩, h.mb.deck.blk hk h.o (by decide), h.ob⟩
theorem MJ.below (h : MJ wD w wr g xs v X bo c0 c1 c2) (hb : Below wr.heap.size wr w') : MJ wD w w' g xs v X bo c0 c1 c2 := h.step (h.mb.deck.below hb) (KeepBut.of_below hb g none)
theorem MJ.drew (h : MJ wD w wr g xs v X bo c0 c1 c2) : MJ wD w wr.drew g xs v X bo c0 c1 c2 := h.below (Below.refl _ _).drew
theorem MJ.put (h : MJ wD w wr g xs v X bo c0 c1 c2) (hwD : Below wD.heap.size wD w) (hT : T3 wr w.heap.size v' vs us X') : MJ wD w (wr.setCell ⟨bo, 0, none⟩ v') g xs v' X' bo c0 c1 c2 := h.mb.put hwD h.o h.ob hT
end
set_option maxHeartbeats 4000000 in
theorem must22_calls {S W L g : Nat} {wD w : World} {xs : List Int} (h : CacheOk S W L) (hd : Dk wD g xs w) : Calls Try.prog 22 #[.pointer (some ⟨g, 0, none⟩), .agg #[.int .i64 S, .int .i64 W, .int .i64 L]] w (NewM wD w g xs S W) := by
  have hW1 := h.w1; have hW4 := h.w4; have hS8 := h.s8
  have HC := Aside0.mk h
  have HWD := Aside0.mk hd.bel
  have hcon := Aside0.mk (fun W1 (hd1 : Dk wD g xs W1) => contents_calls h hd1)
  have hb0 : Below w.heap.size w ((w.alloc (.cells #[.int .i64 S, .int .i64 W, .int .i64 L] 26)).alloc (.cells #[.slice none 0 0] 39)) := ((Below.refl _ _).alloc (Nat.le_refl _) _).alloc (by simp) _
  obtain ⟨b1, b2⟩ := two_box (w := w) (o1 := .cells #[.int .i64 S, .int .i64 W, .int .i64 L] 26) (o2 := .cells #[.slice none 0 0] 39) (Below.refl _ _)
  have HMB : Aside0 (MB wD w ((w.alloc (.cells #[.int .i64 S, .int .i64 W, .int .i64 L] 26)).alloc (.cells #[.slice none 0 0] 39)) g xs (.int .i64 S) (.int .i64 W) (.int .i64 L)) := ⟨hd.below hb0, KeepBut.of_below hb0 g none, b1, b2⟩
  clear hd h hb0 b1 b2
  go_enter Try.func22, Try.ntmps22
  go_upto_region 1 with (fail)
  generalize (w.alloc (.cells #[.int .i64 S, .int .i64 W, .int .i64 L] 26)).alloc (.cells #[.slice none 0 0] 39) = W0 at *
  obtain ⟨q0, q1, q2, f0, f1, f2⟩ := cz3 HMB.out.c
  clear f0 f1 f2
  go_cut [5] from 7 to 11 (fun v5 wx => ∃ bo, v5 = .pointer (some ⟨bo, 0, none⟩) ∧ Aside0 (∃ A c1 X, Val S W X ∧ MJ wD w wx g xs (.slice A X.length c1) X bo (.int .i64 S) (.int .i64 W) (.int .i64 L)))
  case first =>
    have hz := HMB.out.size
    have n0 : w.heap.size ≠ W0.heap.size := by omega
    go_region_held3 (fun w' => w'.cell? ⟨w.heap.size, 0, none⟩ = some (.int .i64 S) ∧ w'.cell? ⟨w.heap.size, 1, none⟩ = some (.int .i64 W) ∧ w'.cell? ⟨w.heap.size, 2, none⟩ = some (.int .i64 L))
      (first | exact ⟨q0, q1, q2⟩ | exact ⟨pw_cell_below ((Below.refl _ W0).alloc (Nat.le_refl _) _) q0, pw_cell_below ((Below.refl _ W0).alloc (Nat.le_refl _) _) q1, pw_cell_below ((Below.refl _ W0).alloc (Nat.le_refl _) _) q2⟩ | exact ⟨q0b, q1b, q2b⟩ | exact ⟨pw_cell_below ((Below.refl _ w1).alloc (Nat.le_refl _) _) q0b, pw_cell_below ((Below.refl _ w1).alloc (Nat.le_refl _) _) q1b, pw_cell_below ((Below.refl _ w1).alloc (Nat.le_refl _) _) q2b⟩ | exact ⟨q0c, q1c, q2c⟩ | exact ⟨pw_cell_below ((Below.refl _ w2).alloc (Nat.le_refl _) _) q0c, pw_cell_below ((Below.refl _ w2).alloc (Nat.le_refl _) _) q1c, pw_cell_below ((Below.refl _ w2).alloc (Nat.le_refl _) _) q2c⟩ | exact ⟨(cell_far (show (⟨w.heap.size, 0, none⟩ : Addr).block ≠ (⟨W0.heap.size, 0, none⟩ : Addr).block from n0) _).trans q0c, (cell_far (show (⟨w.heap.size, 1, none⟩ : Addr).block ≠ (⟨W0.heap.size, 0, none⟩ : Addr).block from n0) _).trans q1c, (cell_far (show (⟨w.heap.size, 2, none⟩ : Addr).block ≠ (⟨W0.heap.size, 0, none⟩ : Addr).block from n0) _).trans q2c⟩ | exact ⟨(cell_far (show (⟨w.heap.size, 0, none⟩ : Addr).block ≠ (⟨w1.heap.size, 0, none⟩ : Addr).block from (show w.heap.size ≠ w1.heap.size by have := HM1.out.size; omega)) _).trans q0c, (cell_far (show (⟨w.heap.size, 1, none⟩ : Addr).block ≠ (⟨w1.heap.size, 0, none⟩ : Addr).block from (show w.heap.size ≠ w1.heap.size by have := HM1.out.size; omega)) _).trans q1c, (cell_far (show (⟨w.heap.size, 2, none⟩ : Addr).block ≠ (⟨w1.heap.size, 0, none⟩ : Addr).block from (show w.heap.size ≠ w1.heap.size by have := HM1.out.size; omega)) _).trans q2c⟩ | go_keep)
      (first | (go_at_call 36; (first | refine (hcon.out W0.drew HMB.out.drew.deck).mono ?_ | refine (hcon.out (W0.alloc (.cells #[.slice none 0 0] 39)).drew (HMB.out.alloc _).drew.deck).mono ?_); rintro e w1 ⟨v, vs, l, rfl, hT, hcn, hd, hk⟩; obtain ⟨A1, k1, rfl, hk1, hr1⟩ := hT.reads; have HM1 : Aside0 (MB wD w w1 g xs (.int .i64 S) (.int .i64 W) (.int .i64 L)) := ⟨(by first | exact HMB.out.drew.step hd hk | exact (HMB.out.alloc _).drew.step hd hk)⟩; (try (have kb := (HMB.out.alloc (.cells #[.slice none 0 0] 39)).drew.deck.blk hk (heap_new W0 (.cells #[.slice none 0 0] 39)) (by decide); have KB := Aside0.mk kb; clear kb)); obtain ⟨q0b, q1b, q2b, f0, f1, f2⟩ := cz3 HM1.out.c; clear f0 f1 f2; have HCN := Aside0.mk hcn; have HR1 := Aside0.mk hr1; clear hcn hd hk hT hr1) | (go_at_call 48; (first | refine (rof_calls HC.out A1 k1 l w1 HCN.out.len HCN.out.row HR1.out hk1).mono ?_ | refine (rof_calls HC.out A1 k1 l (w1.alloc (.cells #[.slice none 0 0] 39)) HCN.out.len HCN.out.row (Kd.C_below HR1.out ((Below.refl _ _).alloc (Nat.le_refl _) _)) hk1).mono ?_); rintro e w2 ⟨v2, vs2, us2, rfl, hT2, hb2⟩; obtain ⟨A2, k2, rfl, _, _⟩ := hT2.reads; have HM2 : Aside0 (MB wD w w2 g xs (.int .i64 S) (.int .i64 W) (.int .i64 L)) := ⟨(by first | exact HM1.out.below hb2 | exact (HM1.out.alloc _).below hb2)⟩; (try (have kb2 := (hb2.block w1.heap.size (by show w1.heap.size < (w1.alloc _).heap.size; rw [World.size_alloc]; omega)).trans (heap_new w1 (.cells #[.slice none 0 0] 39)); have KB2 := Aside0.mk kb2; obtain ⟨kc2, kf2⟩ := cz1' kb2; clear kb2)); (try (have kb3 := (hb2.block W0.heap.size (blk_lt KB.out)).trans KB.out; have KB3 := Aside0.mk kb3; obtain ⟨kc3, kf3⟩ := cz1' kb3; clear kb3)); obtain ⟨q0c, q1c, q2c, f0, f1, f2⟩ := cz3 HM2.out.c; clear f0 f1 f2; have HT2 : Aside0 (T3 w2 w.heap.size (.slice A2 (ofM S W l).length k2) vs2 us2 (ofM S W l)) := ⟨hT2.lower (by have := HM1.out.keep.1; first | exact this | (rw [World.size_alloc]; omega))⟩; clear hT2 hb2))
    all_goals
      go_wp2_with fail
      go_meet
      case rel =>
        first
        | exact ⟨_, rfl, ⟨_, _, _, HCN.out.of, HM2.out.born HT2.out⟩⟩
        | exact ⟨_, rfl, ⟨_, _, _, HCN.out.of, HM2.out.put HWD.out KB2.out HM1.out.size HT2.out⟩⟩
        | exact ⟨_, rfl, ⟨_, _, _, HCN.out.of, HM2.out.put HWD.out KB3.out hz HT2.out⟩⟩
  case rest =>
    obtain ⟨bo, rfl, HE⟩ := hcut
    clear HMB q0 q1 q2 hcon
    go_upto_region 2 with (fail)
    go_upto_if 14 with (first | (go_at_call 18; refine (next_calls (wD := wD) (xs := xs) (show Dk wD g xs wc by obtain ⟨_, _, _, _, hj⟩ := HE.out; exact hj.mb.deck) 3 (by decide)).mono ?_; rintro e w1 ⟨r, rfl, hr1, hr2, hd, hk⟩; have HE1 : Aside0 (∃ A c1 X, Val S W X ∧ MJ wD w w1 g xs (.slice A X.length c1) X bo (.int .i64 S) (.int .i64 W) (.int .i64 L)) := ⟨by obtain ⟨A, c1, X, hV, hj⟩ := HE.out; exact ⟨A, c1, X, hV, hj.step hd hk⟩⟩; clear hr1 hr2 hd hk HE))
    go_cut [] from 12 to 16 (fun wx => Aside0 (∃ A c1 X, Val S W X ∧ MJ wD w wx g xs (.slice A X.length c1) X bo (.int .i64 S) (.int .i64 W) (.int .i64 L)))
    case first =>
      obtain ⟨A, c1, X, hV, hj⟩ := HE1.out
      have HJ := Aside0.mk hj
      have HV := Aside0.mk hV
      clear hj hV
      obtain ⟨q0, q1, q2, f0, f1, f2⟩ := cz3 HJ.out.mb.c
      obtain ⟨q5, f5⟩ := cz1' HJ.out.o
      clear f0 f1 f2
      by_cases hr0 : r = 0
      · subst hr0
        go_wp2_with (first | (go_at_call 47; refine (rtop_calls HC.out w1).mono ?_; rintro e w2 ⟨v2, vs2, us2, rfl, hT2, hb2⟩; obtain ⟨A2, k2, rfl, hk2, hr2⟩ := hT2.reads; have HJ2 := Aside0.mk (HJ.out.below hb2); have HT2 := Aside0.mk (hT2.lower HJ.out.mb.keep.1); obtain ⟨q5c, f5c⟩ := cz1' HJ2.out.o; clear hT2 hb2 hr2 q0 q1 q2 q5 f5))
        go_meet
        case rel => exact ⟨A2, k2, top S W, Val.top S W, HJ2.out.put HWD.out HT2.out⟩
      · have g1 : ((r : Int) == 0) = false := beq_eq_false_iff_ne.2 (by omega)
        go_wp2_with (fail)
        go_meet
        case rel => exact ⟨A, c1, X, HV.out, HJ.out⟩
    case rest =>
      have HE2 := hcut
      clear hcut HE1
      go_wp2_with (first | (go_at_call 18; refine (next_calls (wD := wD) (xs := xs) (by obtain ⟨_, _, _, _, hj⟩ := HE2.out; exact hj.mb.deck) 8 (by decide)).mono ?_; rintro e w3 ⟨k, rfl, hr1, hr2, hd, hk⟩; have HE3 : Aside0 (∃ A c1 X, Val S W X ∧ MJ wD w w3 g xs (.slice A X.length c1) X bo (.int .i64 S) (.int .i64 W) (.int .i64 L)) := ⟨by obtain ⟨A, c1, X, hV, hj⟩ := HE2.out; exact ⟨A, c1, X, hV, hj.step hd hk⟩⟩; have hk8 : k < 8 := (by have := hr1 (by decide); omega); clear hr1 hr2 hd hk HE2))
      go_loopw [6] (fun v6 wr => ∃ k : Nat, k < 8 ∧ v6 = .int .i64 k ∧ Aside0 (∃ A c1 X, Val S W X ∧ MJ wD w wr g xs (.slice A X.length c1) X bo (.int .i64 S) (.int .i64 W) (.int .i64 L))) (fun v6 _ => (RowKit.intOf v6).toNat)
      case atStart => exact ⟨k, hk8, rfl, HE3⟩
      case round =>
        clear HE3 hk8
        obtain ⟨k, hk8, rfl, HE⟩ := hrel
        obtain ⟨A, c1, X, hV, hj⟩ := HE.out
        by_cases hk0 : 0 < k
        · obtain ⟨k, rfl⟩ : ∃ j, k = j + 1 := ⟨k - 1, by omega⟩
          have g1 : decide ((0 : Int) < ((k + 1 : Nat) : Int)) = true := decide_eq_true (by omega)
          have g1' : decide ((0 : Int) < (k : Int) + 1) = true := decide_eq_true (by omega)
          have HJ0 := Aside0.mk hj
          have HV := Aside0.mk hV
          clear hj hV HE
          go_upto_region 9 with (first | (go_at_call 18; refine (next_calls HJ0.out.mb.deck 4 (by decide)).mono ?_; rintro e w9 ⟨r, rfl, hr1, hr2, hd, hk⟩; have HJ := Aside0.mk (HJ0.out.step hd hk); clear hr1 hr2 hd hk HJ0))
          have hob := HJ.out.ob
          have hn0 : w.heap.size ≠ bo := by omega
          obtain ⟨q0, q1, q2, f0, f1, f2⟩ := cz3 HJ.out.mb.c
          obtain ⟨q5, f5⟩ := cz1' HJ.out.o
          clear f0 f1 f2
          by_cases hr0 : r = 0
          · subst hr0
            go_upto_region 10 with (fail)
            refine HeldTill.begin_ (S := fun w' => w'.cell? ⟨w.heap.size, 0, none⟩ = some (.int .i64 S) ∧ w'.cell? ⟨w.heap.size, 1, none⟩ = some (.int .i64 W) ∧ w'.cell? ⟨w.heap.size, 2, none⟩ = some (.int .i64 L) ∧ w'.cell? ⟨bo, 0, none⟩ = some (.slice A X.length c1)) (F := fun j => j != 8) (by kernel_rfl) ?_
            have hS0 : (fun w' => w'.cell? ⟨w.heap.size, 0, none⟩ = some (.int .i64 S) ∧ w'.cell? ⟨w.heap.size, 1, none⟩ = some (.int .i64 W) ∧ w'.cell? ⟨w.heap.size, 2, none⟩ = some (.int .i64 L) ∧ w'.cell? ⟨bo, 0, none⟩ = some (.slice A X.length c1)) w9.drew := ⟨q0, q1, q2, q5⟩
            refine HeldTill.take (i := 0) (n := 8) (v := ?_) rfl (by kernel_rfl) (by kernel_rfl) (by kernel_rfl) (by kernel_rfl) (fun _ _ _ h => h) (Or.inl ⟨by rfl, ?_⟩) hS0 ?_
            rotate_left
            · intro w hSw; (try dsimp only at hSw); go_simp; (try with_reducible rfl)
            simp only [Act.put, List.setIfInBounds_toArray, List.set_cons_zero, List.set_cons_succ, List.getElem_toArray, List.getElem_cons_zero, List.getElem_cons_succ]
            refine HeldTill.take (i := 1) (n := 7) (v := ?_) rfl (by kernel_rfl) (by kernel_rfl) (by kernel_rfl) (by kernel_rfl) (fun _ _ _ h => h) (Or.inl ⟨by rfl, ?_⟩) hS0 ?_
            rotate_left
            · intro w hSw; (try dsimp only at hSw); go_simp; (try with_reducible rfl)
            simp only [Act.put, List.setIfInBounds_toArray, List.set_cons_zero, List.set_cons_succ, List.getElem_toArray, List.getElem_cons_zero, List.getElem_cons_succ]
            refine HeldTill.take (i := 2) (n := 6) (v := ?_) rfl (by kernel_rfl) (by kernel_rfl) (by kernel_rfl) (by kernel_rfl) (fun _ _ _ h => h) (Or.inl ⟨by rfl, ?_⟩) hS0 ?_
            rotate_left
            · intro w hSw; (try dsimp only at hSw); go_simp; (try with_reducible rfl)
            simp only [Act.put, List.setIfInBounds_toArray, List.set_cons_zero, List.set_cons_succ, List.getElem_toArray, List.getElem_cons_zero, List.getElem_cons_succ]
            refine HeldTill.take (i := 3) (n := 5) (v := ?_) rfl (by kernel_rfl) (by kernel_rfl) (by kernel_rfl) (by kernel_rfl) (fun _ _ _ h => h) (Or.inl ⟨by rfl, ?_⟩) hS0 ?_
            rotate_left
            · intro w hSw; (try dsimp only at hSw); go_simp; (try with_reducible rfl)
            simp only [Act.put, List.setIfInBounds_toArray, List.set_cons_zero, List.set_cons_succ, List.getElem_toArray, List.getElem_cons_zero, List.getElem_cons_succ]
            refine HeldTill.take (i := 4) (n := 4) (v := ?_) rfl (by kernel_rfl) (by kernel_rfl) (by kernel_rfl) (by kernel_rfl) (fun _ _ _ h => h) (Or.inl ⟨by rfl, ?_⟩) hS0 ?_
            rotate_left
            · intro w hSw; (try dsimp only at hSw); go_simp; (try with_reducible rfl)
            simp only [Act.put, List.setIfInBounds_toArray, List.set_cons_zero, List.set_cons_succ, List.getElem_toArray, List.getElem_cons_zero, List.getElem_cons_succ]
            refine HeldTill.next (j := 5) (n := 3) (by kernel_rfl) rfl ?_
            go_wp2_with (go_at_call 28; refine (line_calls HJ.out.drew.mb.deck).mono ?_; rintro e w1 ⟨n, rfl, hn, hd, hk⟩; have HJ1 := Aside0.mk (HJ.out.drew.step hd hk); obtain ⟨q0b, q1b, q2b, f0, f1, f2⟩ := cz3 HJ1.out.mb.c; obtain ⟨q5b, f5b⟩ := cz1' HJ1.out.o; clear f0 f1 f2; have HR1 : Aside0 (X.length ≤ c1 ∧ C3 w1 A X) := ⟨by obtain ⟨_, _, hT⟩ := HJ1.out.sets; exact hT.rd.2⟩; have HVn := Aside0.mk (HV.out.touch (n := n) hn); clear hn hd hk)
            refine ⟨fun _ => ⟨q0b, q1b, q2b, q5b⟩, ?_⟩
            refine HeldTill.next (j := 6) (n := 2) (by kernel_rfl) rfl ?_
            go_wp2_with (go_at_call 44; refine (rtouch_calls HC.out A c1 X n w1 HV.out.fit HR1.out.2 HR1.out.1).mono ?_; rintro e w2 ⟨v2, vs2, us2, rfl, hT2, hb2⟩; obtain ⟨A2, k2, rfl, hk2, hr2⟩ := hT2.reads; have HJ2 := Aside0.mk (HJ1.out.below hb2); obtain ⟨q0c, q1c, q2c, f0, f1, f2⟩ := cz3 HJ2.out.mb.c; obtain ⟨q5c, f5c⟩ := cz1' HJ2.out.o; clear f0 f1 f2; have HR2 : Aside0 (X.length ≤ c1 ∧ C3 w2 A X) := ⟨by obtain ⟨_, _, hT⟩ := HJ2.out.sets; exact hT.rd.2⟩; have HT2 := Aside0.mk (hT2.lower HJ1.out.mb.keep.1); have HR2' := Aside0.mk hr2; clear hT2 hb2 hr2)
            refine ⟨fun _ => ⟨q0c, q1c, q2c, q5c⟩, ?_⟩
            refine HeldTill.next (j := 7) (n := 1) (by kernel_rfl) rfl ?_
            go_wp2_with (go_at_call 31; refine (rjoin_calls HC.out A A2 c1 k2 X (touchM S W X n) w2 HV.out.fit HVn.out.fit HR2.out.2 HR2.out.1 HR2'.out hk2).mono ?_; rintro e w3 ⟨v3, vs3, us3, rfl, hT3, hb3⟩; obtain ⟨A3, k3, rfl, hk3, hr3⟩ := hT3.reads; have HJ3 := Aside0.mk (HJ2.out.below hb3); obtain ⟨q0d, q1d, q2d, f0, f1, f2⟩ := cz3 HJ3.out.mb.c; obtain ⟨q5d, f5d⟩ := cz1' HJ3.out.o; clear f0 f1 f2; have HT3 := Aside0.mk (hT3.lower HJ2.out.mb.keep.1); clear hT3 hb3 hr3)
            refine ⟨fun _ => ⟨q0d, q1d, q2d, q5d⟩, ?_⟩
            refine HeldTill.next (j := 8) (n := 0) (by kernel_rfl) rfl ?_
            go_wp2
            refine ⟨fun h => absurd h (by decide), (by kernel_rfl), ?_⟩
            all_goals
              have HN : Aside0 (∃ A' c' X', Val S W X' ∧ MJ wD w (w3.setCell ⟨bo, 0, none⟩ (.slice A3 (joinM S W X (touchM S W X n)).length k3)) g xs (.slice A' X'.length c') X' bo (.int .i64 S) (.int .i64 W) (.int .i64 L)) := ⟨A3, k3, joinM S W X (touchM S W X n), HV.out.join _, HJ3.out.put HWD.out HT3.out⟩
              go_wp2
              go_roundw
              case rel => exact ⟨k, by omega, by go_num, HN⟩
              case measure => simp [RowKit.intOf]
          · have g2 : ((r : Int) == 0) = false := beq_eq_false_iff_ne.2 (by omega)
            by_cases hr1 : r = 1
            · subst hr1
              go_upto_region 12 with (fail)
              refine HeldTill.begin_ (S := fun w' => w'.cell? ⟨w.heap.size, 0, none⟩ = some (.int .i64 S) ∧ w'.cell? ⟨w.heap.size, 1, none⟩ = some (.int .i64 W) ∧ w'.cell? ⟨w.heap.size, 2, none⟩ = some (.int .i64 L) ∧ w'.cell? ⟨bo, 0, none⟩ = some (.slice A X.length c1)) (F := fun j => j != 5) (by kernel_rfl) ?_
              have hS0 : (fun w' => w'.cell? ⟨w.heap.size, 0, none⟩ = some (.int .i64 S) ∧ w'.cell? ⟨w.heap.size, 1, none⟩ = some (.int .i64 W) ∧ w'.cell? ⟨w.heap.size, 2, none⟩ = some (.int .i64 L) ∧ w'.cell? ⟨bo, 0, none⟩ = some (.slice A X.length c1)) w9.drew := ⟨q0, q1, q2, q5⟩
              refine HeldTill.take (i := 0) (n := 5) (v := ?_) rfl (by kernel_rfl) (by kernel_rfl) (by kernel_rfl) (by kernel_rfl) (fun _ _ _ h => h) (Or.inl ⟨by rfl, ?_⟩) hS0 ?_
              rotate_left
              · intro w hSw; (try dsimp only at hSw); go_simp; (try with_reducible rfl)
              simp only [Act.put, List.setIfInBounds_toArray, List.set_cons_zero, List.set_cons_succ, List.getElem_toArray, List.getElem_cons_zero, List.getElem_cons_succ]
              refine HeldTill.take (i := 1) (n := 4) (v := ?_) rfl (by kernel_rfl) (by kernel_rfl) (by kernel_rfl) (by kernel_rfl) (fun _ _ _ h => h) (Or.inl ⟨by rfl, ?_⟩) hS0 ?_
              rotate_left
              · intro w hSw; (try dsimp only at hSw); go_simp; (try with_reducible rfl)
              simp only [Act.put, List.setIfInBounds_toArray, List.set_cons_zero, List.set_cons_succ, List.getElem_toArray, List.getElem_cons_zero, List.getElem_cons_succ]
              refine HeldTill.take (i := 2) (n := 3) (v := ?_) rfl (by kernel_rfl) (by kernel_rfl) (by kernel_rfl) (by kernel_rfl) (fun _ _ _ h => h) (Or.inl ⟨by rfl, ?_⟩) hS0 ?_
              rotate_left
              · intro w hSw; (try dsimp only at hSw); go_simp; (try with_reducible rfl)
              simp only [Act.put, List.setIfInBounds_toArray, List.set_cons_zero, List.set_cons_succ, List.getElem_toArray, List.getElem_cons_zero, List.getElem_cons_succ]
              refine HeldTill.next (j := 3) (n := 2) (by kernel_rfl) rfl ?_
              go_wp2_with (go_at_call 38; refine (few_calls HJ.out.drew.mb.deck).mono ?_; rintro e w1 ⟨Af, cf, lf, rfl, hcf, hrf, hlf, hlf3, hd, hk⟩; have HJ1 := Aside0.mk (HJ.out.drew.step hd hk); obtain ⟨q0b, q1b, q2b, f0, f1, f2⟩ := cz3 HJ1.out.mb.c; obtain ⟨q5b, f5b⟩ := cz1' HJ1.out.o; clear f0 f1 f2; have HR1 : Aside0 (X.length ≤ c1 ∧ C3 w1 A X) := ⟨by obtain ⟨_, _, hT⟩ := HJ1.out.sets; exact hT.rd.2⟩; have HRf := Aside0.mk hrf; have HLf := Aside0.mk hlf; have hlf4 : lf.length < 1099511627776 := (by omega); clear hrf hlf hlf3 hd hk)
              refine ⟨fun _ => ⟨q0b, q1b, q2b, q5b⟩, ?_⟩
              refine HeldTill.next (j := 4) (n := 1) (by kernel_rfl) rfl ?_
              go_wp2_with (go_at_call 46; refine (reither_calls HC.out A Af c1 cf X lf w1 HV.out HLf.out HR1.out.2 HR1.out.1 HRf.out hcf hlf4).mono ?_; rintro e w2 ⟨v2, vs2, us2, rfl, hT2, hb2⟩; obtain ⟨A2, k2, rfl, hk2, hr2⟩ := hT2.reads; have HJ2 := Aside0.mk (HJ1.out.below hb2); obtain ⟨q0c, q1c, q2c, f0, f1, f2⟩ := cz3 HJ2.out.mb.c; obtain ⟨q5c, f5c⟩ := cz1' HJ2.out.o; clear f0 f1 f2; have HT2 := Aside0.mk (hT2.lower HJ1.out.mb.keep.1); clear hT2 hb2 hr2)
              refine ⟨fun _ => ⟨q0c, q1c, q2c, q5c⟩, ?_⟩
              refine HeldTill.next (j := 5) (n := 0) (by kernel_rfl) rfl ?_
              go_wp2
              refine ⟨fun h => absurd h (by decide), (by kernel_rfl), ?_⟩
              all_goals
                have HN : Aside0 (∃ A' c' X', Val S W X' ∧ MJ wD w (w2.setCell ⟨bo, 0, none⟩ (.slice A2 (eitherM S W X lf).length k2)) g xs (.slice A' X'.length c') X' bo (.int .i64 S) (.int .i64 W) (.int .i64 L)) := ⟨A2, k2, eitherM S W X lf, HV.out.either HLf.out, HJ2.out.put HWD.out HT2.out⟩
                go_wp2
                go_roundw
                case rel => exact ⟨k, by omega, by go_num, HN⟩
                case measure => simp [RowKit.intOf]
            · have g3 : ((r : Int) == 1) = false := beq_eq_false_iff_ne.2 (by omega)
              go_upto_region 8 with (fail)
              refine HeldTill.begin_ (S := fun w' => w'.cell? ⟨w.heap.size, 0, none⟩ = some (.int .i64 S) ∧ w'.cell? ⟨w.heap.size, 1, none⟩ = some (.int .i64 W) ∧ w'.cell? ⟨w.heap.size, 2, none⟩ = some (.int .i64 L) ∧ w'.cell? ⟨bo, 0, none⟩ = some (.slice A X.length c1)) (F := fun j => j != 5) (by kernel_rfl) ?_
              have hS0 : (fun w' => w'.cell? ⟨w.heap.size, 0, none⟩ = some (.int .i64 S) ∧ w'.cell? ⟨w.heap.size, 1, none⟩ = some (.int .i64 W) ∧ w'.cell? ⟨w.heap.size, 2, none⟩ = some (.int .i64 L) ∧ w'.cell? ⟨bo, 0, none⟩ = some (.slice A X.length c1)) w9.drew := ⟨q0, q1, q2, q5⟩
              refine HeldTill.take (i := 0) (n := 5) (v := ?_) rfl (by kernel_rfl) (by kernel_rfl) (by kernel_rfl) (by kernel_rfl) (fun _ _ _ h => h) (Or.inl ⟨by rfl, ?_⟩) hS0 ?_
              rotate_left
              · intro w hSw; (try dsimp only at hSw); go_simp; (try with_reducible rfl)
              simp only [Act.put, List.setIfInBounds_toArray, List.set_cons_zero, List.set_cons_succ, List.getElem_toArray, List.getElem_cons_zero, List.getElem_cons_succ]
              refine HeldTill.take (i := 1) (n := 4) (v := ?_) rfl (by kernel_rfl) (by kernel_rfl) (by kernel_rfl) (by kernel_rfl) (fun _ _ _ h => h) (Or.inl ⟨by rfl, ?_⟩) hS0 ?_
              rotate_left
              · intro w hSw; (try dsimp only at hSw); go_simp; (try with_reducible rfl)
              simp only [Act.put, List.setIfInBounds_toArray, List.set_cons_zero, List.set_cons_succ, List.getElem_toArray, List.getElem_cons_zero, List.getElem_cons_succ]
              refine HeldTill.take (i := 2) (n := 3) (v := ?_) rfl (by kernel_rfl) (by kernel_rfl) (by kernel_rfl) (by kernel_rfl) (fun _ _ _ h => h) (Or.inl ⟨by rfl, ?_⟩) hS0 ?_
              rotate_left
              · intro w hSw; (try dsimp only at hSw); go_simp; (try with_reducible rfl)
              simp only [Act.put, List.setIfInBounds_toArray, List.set_cons_zero, List.set_cons_succ, List.getElem_toArray, List.getElem_cons_zero, List.getElem_cons_succ]
              refine HeldTill.next (j := 3) (n := 2) (by kernel_rfl) rfl ?_
              go_wp2_with (go_at_call 28; refine (line_calls HJ.out.drew.mb.deck).mono ?_; rintro e w1 ⟨n, rfl, hn, hd, hk⟩; have HJ1 := Aside0.mk (HJ.out.drew.step hd hk); obtain ⟨q0b, q1b, q2b, f0, f1, f2⟩ := cz3 HJ1.out.mb.c; obtain ⟨q5b, f5b⟩ := cz1' HJ1.out.o; clear f0 f1 f2; have HR1 : Aside0 (X.length ≤ c1 ∧ C3 w1 A X) := ⟨by obtain ⟨_, _, hT⟩ := HJ1.out.sets; exact hT.rd.2⟩; have HVn := Aside0.mk (HV.out.touch (n := n) hn); clear hn hd hk)
              refine ⟨fun _ => ⟨q0b, q1b, q2b, q5b⟩, ?_⟩
              refine HeldTill.next (j := 4) (n := 1) (by kernel_rfl) rfl ?_
              go_wp2_with (go_at_call 44; refine (rtouch_calls HC.out A c1 X n w1 HV.out.fit HR1.out.2 HR1.out.1).mono ?_; rintro e w2 ⟨v2, vs2, us2, rfl, hT2, hb2⟩; obtain ⟨A2, k2, rfl, hk2, hr2⟩ := hT2.reads; have HJ2 := Aside0.mk (HJ1.out.below hb2); obtain ⟨q0c, q1c, q2c, f0, f1, f2⟩ := cz3 HJ2.out.mb.c; obtain ⟨q5c, f5c⟩ := cz1' HJ2.out.o; clear f0 f1 f2; have HR2 : Aside0 (X.length ≤ c1 ∧ C3 w2 A X) := ⟨by obtain ⟨_, _, hT⟩ := HJ2.out.sets; exact hT.rd.2⟩; have HT2 := Aside0.mk (hT2.lower HJ1.out.mb.keep.1); have HR2' := Aside0.mk hr2; clear hT2 hb2 hr2)
              refine ⟨fun _ => ⟨q0c, q1c, q2c, q5c⟩, ?_⟩
              refine HeldTill.next (j := 5) (n := 0) (by kernel_rfl) rfl ?_
              go_wp2
              refine ⟨fun h => absurd h (by decide), (by kernel_rfl), ?_⟩
              all_goals
                have HN : Aside0 (∃ A' c' X', Val S W X' ∧ MJ wD w (w2.setCell ⟨bo, 0, none⟩ (.slice A2 (touchM S W X n).length k2)) g xs (.slice A' X'.length c') X' bo (.int .i64 S) (.int .i64 W) (.int .i64 L)) := ⟨A2, k2, touchM S W X n, HVn.out, HJ2.out.put HWD.out HT2.out⟩
                go_wp2
                go_roundw
                case rel => exact ⟨k, by omega, by go_num, HN⟩
                case measure => simp [RowKit.intOf]
        · obtain rfl : k = 0 := by omega
          have HJ := Aside0.mk hj
          have HV := Aside0.mk hV
          clear hj hV HE
          obtain ⟨q5, f5⟩ := cz1' HJ.out.o
          obtain ⟨q4, f4⟩ := cz1' HJ.out.mb.r
          clear f5
          go_wp2
          refine bodyPost_ret (results_cell rfl _ _ (w.heap.size + 1) 39 #[.slice A X.length c1] (0, 0) _ rfl (blk_put (cs := #[.slice none 0 0]) HJ.out.mb.r 0 _ rfl) Try.underlying39 rfl (by kernel_rfl)) rfl ?_
          obtain ⟨vs, us, hT⟩ := HJ.out.sets
          have hsz := HWD.out.size
          exact ⟨_, vs, us, X, rfl, hT.setFar HJ.out.mb.r (by decide) _, HV.out, HJ.out.mb.deck.set HJ.out.mb.r (by decide) (by omega) _, KeepBut.setNew HJ.out.mb.keep (by omega) _⟩
end Go.Proofs.Ytkgocbmnjlfkoaa.M
end
section
namespace Go.Proofs.Ytkgocbmnjlfkoaa.M
open Go.RowKit Go.Maps Go.Proofs.Ytkgocbmnjlfkoaa.X Go.Proofs.YtkgocbmnjlfkoaaW.PrintWords Go.Proofs.YtkgocbmnjlfkoaaW.PrintLast Go.Proofs.YtkgocbmnjlfkoaaW.PrintMore
set_option linter.unusedVariables false
set_option linter.unusedSimpArgs false
def seenD (ys : List Int) : DataW Unit := ys.foldl (fun D y => D.put (.int .i64 y) (.lit (.bool true))) (.map [])
theorem keyed3 : Keyed Try.prog 3 := int_keyed Try.underlying3
theorem zero4 (w : World) : (zeroValue 4).run Try.prog w = .ok (.bool false) w := by kernel_rfl
theorem und92 : Try.prog.underlying 92 = some (.map 3 4) := by kernel_rfl
def Seen (w : World) (b n : Nat) (ys : List Int) : Prop := World.ownsMap w Try.prog 3 (plainElem Try.prog 4) b n (seenD ys)
theorem seenD_snoc (ys : List Int) (y : Int) : seenD (ys ++ [y]) = (seenD ys).put (.int .i64 y) (.lit (.bool true)) := by
  unfold seenD
  rw [List.foldl_append]
  rfl
theorem isMap_put {D : DataW Unit} (h : IsMap D) (k : Lit) (d : DataW Unit) : IsMap (D.put k d) := by
  obtain ⟨es, rfl⟩ := h
  exact ⟨_, rfl⟩
theorem seenD_at (y : Int) : ∀ (ys : List Int) {D : DataW Unit}, IsMap D → (ys.foldl (fun D y => D.put (.int .i64 y) (.lit (.bool true))) D).atKey (.int .i64 y) (.lit (.bool false)) = if y ∈ ys then .lit (.bool true) else D.atKey (.int .i64 y) (.lit (.bool false))
  | [], D, h => by simp
  | z :: ys, D, h => by
    rw [List.foldl_cons, seenD_at y ys (isMap_put h _ _)]
    by_cases h1 : y ∈ ys
    · rw [if_pos h1, if_pos (List.mem_cons_of_mem _ h1)]
    · rw [if_neg h1]
      by_cases e : y = z
      · subst e
        rw [if_pos List.mem_cons_self, atKey_put_same h (by trivial)]
      · rw [if_neg (fun hm => by
          rcases List.mem_cons.1 hm with h2 | h2
          · exact e h2
          · exact h1 h2), atKey_put_other (by intro h2; injection h2 with _ h2; exact e h2)]
theorem pe_bool_inv {P : Program} {e : TypeId} (he : P.underlying e = some .bool) {v : Value} {z : DataW Unit × List MemPlace} (h : plainElem P e v = some z) : ∃ b, v = .bool b ∧ z = (.lit (.bool b), []) := by
  unfold plainElem at h
  rw [he] at h
  cases v <;> simp at h
  exact ⟨_, rfl, h.symm⟩
theorem Seen.look {w : World} {b n : Nat} {ys : List Int} (h : Seen w b n ys) {y : Int} (hy : (Lit.int .i64 y).wf = true) : (Instr.lookup 92 (.map (some b)) (.int .i64 y) false).run Try.prog w = .ok (.bool (decide (y ∈ ys))) w := by
  obtain ⟨v, ps, hrun, hv⟩ := World.ownsMap.lookup h keyed3 und92 (zero4 w) (plainElem_bool Try.underlying4 false) (keyOf_int_mk Try.underlying3 hy)
  refine hrun.trans ?_
  have h1 := seenD_at y ys (D := .map []) isMap_empty
  have h2 : (seenD ys).atKey (.int .i64 y) (.lit (.bool false)) = .lit (.bool (decide (y ∈ ys))) := by
    unfold seenD
    rw [h1]
    by_cases h3 : y ∈ ys
    · rw [if_pos h3, decide_eq_true h3]
    · rw [if_neg h3, decide_eq_false h3]
      rfl
  rw [h2] at hv
  obtain ⟨c, rfl, hc⟩ := pe_bool_inv Try.underlying4 hv
  have h5 : decide (y ∈ ys) = c := Lit.bool.inj (DataW.lit.inj (Prod.mk.inj hc).1)
  exact congrArg (fun q => Result.ok (Value.bool q) w) h5.symm
theorem Seen.put {w : World} {b n : Nat} {ys : List Int} (h : Seen w b n ys) (hn : n < maxLen) {y : Int} (hy : (Lit.int .i64 y).wf = true) : ∃ w', (Instr.mapUpdate 92 (.map (some b)) (.int .i64 y) (.bool true)).run Try.prog w = .ok () w' ∧ Seen w' b (n + 1) (ys ++ [y]) ∧ w.grownBy w' (some b) := by
  obtain ⟨w', h1, h2, h3⟩ := World.ownsMap.update h keyed3 und92 hn (keyOf_int_mk Try.underlying3 hy) (plainElem_bool Try.underlying4 true)
  exact ⟨w', h1, by unfold Seen; rw [seenD_snoc]; exact h2, h3⟩
theorem Seen.made (w : World) : Seen (w.alloc (.map #[] 0)) w.heap.size 0 [] := World.ownsMap_made _ _ _ _
theorem Seen.move {w w' : World} {b n : Nat} {ys : List Int} (h : Seen w b n ys) (hb : w'.heap[b]? = w.heap[b]?) : Seen w' b n ys := by
  obtain ⟨es, clock, h1, h2, h3, h4⟩ := h
  exact ⟨es, clock, hb.trans h1, h2, h3, h4⟩
theorem Seen.lt {w : World} {b n : Nat} {ys : List Int} (h : Seen w b n ys) : b < w.heap.size := by
  obtain ⟨es, clock, h1, h2, h3, h4⟩ := h
  rcases Nat.lt_or_ge b w.heap.size with h5 | h5
  · exact h5
  · rw [Array.getElem?_eq_none h5] at h1; cases h1
end Go.Proofs.Ytkgocbmnjlfkoaa.M
end
section
namespace Go.Proofs.Ytkgocbmnjlfkoaa.M
open Go.RowKit Go.Proofs.Ytkgocbmnjlfkoaa.X Go.Proofs.YtkgocbmnjlfkoaaW.PrintWords Go.Proofs.YtkgocbmnjlfkoaaW.PrintLast Go.Proofs.YtkgocbmnjlfkoaaW.PrintMore
set_option linter.unusedVariables false
set_option linter.unusedSimpArgs false
def seenL (r : List (List Int)) (a : Nat) : List Int := (r.take a).flatten
theorem seenL_succ {r : List (List Int)} {a : Nat} (h : a < r.length) : seenL r (a + 1) = seenL r a ++ r[a].take r[a].length := by
  unfold seenL
  rw [List.take_succ_eq_append_getElem h, List.flatten_append, List.take_length]
  simp
theorem mem_seenL {r : List (List Int)} {a : Nat} {y : Int} (h : y ∈ seenL r a) : ∃ j, j < a ∧ y ∈ r.getD j [] := by
  unfold seenL at h
  obtain ⟨l, h1, h2⟩ := List.mem_flatten.1 h
  obtain ⟨j, hj, rfl⟩ := List.getElem_of_mem h1
  rw [List.length_take] at hj
  refine ⟨j, by omega, ?_⟩
  rw [getD_lt (by omega)]
  rwa [List.getElem_take] at h2
structure LL (w wr : World) (n : Nat) (ys : List Int) (c0 c1 c2 : Value) : Prop where
  seen : Seen wr (w.heap.size + 1) n ys
  below : Below w.heap.size w wr
  c : wr.heap[w.heap.size]? = some (.cells #[c0, c1, c2] 26 (0, 0))
theorem LL.step {w wr w' : World} {n : Nat} {ys : List Int} {c0 c1 c2 : Value} (h : LL w wr n ys c0 c1 c2) (hb : Below wr.heap.size wr w') : LL w w' n ys c0 c1 c2 :=
  ⟨h.seen.move (hb.block _ h.seen.lt), h.below.trans (hb.mono h.below.size), (hb.block _ (blk_lt h.c)).trans h.c⟩
theorem LL.put {w wr w' : World} {n n' : Nat} {ys ys' : List Int} {c0 c1 c2 : Value} (h : LL w wr n ys c0 c1 c2) (hs : Seen w' (w.heap.size + 1) n' ys') (hg : wr.grownBy w' (some (w.heap.size + 1))) : LL w w' n' ys' c0 c1 c2 :=
  ⟨hs, h.below.trans ⟨hg.os, hg.tape, hg.output, hg.size, fun k hk => hg.block k (by have := h.below.size; omega) (by intro e; injection e with e; omega)⟩, (hg.block _ (blk_lt h.c) (by intro e; injection e with e; omega)).trans h.c⟩
theorem wf_line {m : Nat} (h : m ≤ 1048576) : (Lit.int .i64 (m : Int)).wf = true := by
  simp [Lit.wf, IntKind.min, IntKind.max, IntKind.signed, IntKind.bits]
  omega
set_option maxHeartbeats 4000000 in
theorem lists_calls {S W L : Nat} (h : CacheOk S W L) (A : Option Addr) (c s : Nat) (r : List (List Int)) (w : World) (hV : VS S s W r) (hs : s < S) (hr : C2 w A r) (hc : r.length ≤ c) :
    Calls Try.prog 91 #[.agg #[.int .i64 S, .int .i64 W, .int .i64 L], .int .i64 s, .slice A r.length c] w fun e w' => e = .returned (.bool true) ∧ Below w.heap.size w w' := by
  have hW4 := h.w4; have hS8 := h.s8
  have hrl : r.length < 5 := by rw [hV.len]; omega
  have HG := Aside0.mk hV.good
  have HV := Aside0.mk hV
  have HR := Aside0.mk hr
  have hset := Aside0.mk (fun (m : Nat) W1 => cache_Set.calls 2 S W L m _ W1 (set_ h m))
  have HL0 : Aside0 (LL w ((w.alloc (.cells #[.int .i64 S, .int .i64 W, .int .i64 L] 26)).alloc (.map #[] 0)) (cnt r 0) (seenL r 0) (.int .i64 S) (.int .i64 W) (.int .i64 L)) := ⟨by
    have := Seen.made (w.alloc (.cells #[.int .i64 S, .int .i64 W, .int .i64 L] 26))
    rw [World.size_alloc] at this
    exact this, ((Below.refl _ _).alloc (Nat.le_refl _) _).alloc (by simp) _, blk_alloc (heap_new _ _) _⟩
  clear hr hV h
  have hmm := @run_makeMap Try.prog
  go_enter Try.func91, Try.ntmps91
  go_wp2
  clear hmm
  go_loopw [15] (fun v15 wr => ∃ a : Nat, a ≤ r.length ∧ v15 = .int .i64 a ∧ Aside0 (LL w wr (cnt r a) (seenL r a) (.int .i64 S) (.int .i64 W) (.int .i64 L))) (fun v15 _ => r.length - (RowKit.intOf v15).toNat)
  case atStart => exact ⟨0, Nat.zero_le _, rfl, HL0⟩
  case round =>
    clear HL0
    obtain ⟨a, ha, rfl, HE⟩ := hrel
    by_cases hlt : a < r.length
    · obtain ⟨ad, A0, c0, rfl, hcell0w, hc0, hl0⟩ := C2.get HR.out hlt
      have hcell0 := pw_cell_below HE.out.below hcell0w
      have HE0 : Aside0 (LL w wr (cnt r a + 0) (seenL r a ++ r[a].take 0) (.int .i64 S) (.int .i64 W) (.int .i64 L)) := ⟨by simpa using HE.out⟩
      have HF : Aside0 (cnt r (a + 1) = cnt r a + r[a].length ∧ seenL r (a + 1) = seenL r a ++ r[a].take r[a].length) := ⟨by rw [cnt, getD_lt hlt], seenL_succ hlt⟩
      have hgl := HG.out _ (List.getElem_mem hlt)
      have hcl := cnt_le HG.out a
      have hcb : cnt r a ≤ 5 * 1048577 := Nat.le_trans hcl (Nat.mul_le_mul_right _ (by omega))
      have hll : r[a].length ≤ 1048577 := hgl.2
      have HP : Aside0 (∀ i (hi : i < r[a].length), (0 ≤ r[a][i] ∧ r[a][i] ≤ 1048576 ∧ r[a][i] % S = s) ∧ r[a][i] ∉ seenL r a ++ r[a].take i ∧ ∀ j (hj : j < r[a].length), j < i → r[a][j] < r[a][i]) := ⟨fun i hi => by
        have hm : r[a][i] ∈ r.getD a [] := by rw [getD_lt hlt]; exact List.getElem_mem hi
        have hasc := HV.out.asc a
        rw [getD_lt hlt] at hasc
        have hpw : ∀ j (hj : j < r[a].length), j < i → r[a][j] < r[a][i] := fun j hj hji => List.pairwise_iff_getElem.1 hasc j i hj hi hji
        refine ⟨HV.out.rng a _ hm, fun hmem => ?_, hpw⟩
        rcases List.mem_append.1 hmem with h1 | h1
        · obtain ⟨j, hj, h2⟩ := mem_seenL h1
          exact HV.out.uniq j a (by omega) _ h2 hm
        · obtain ⟨j, hj, e⟩ := List.getElem_of_mem h1
          rw [List.length_take] at hj
          rw [List.getElem_take] at e
          have := hpw j (by omega) (by omega)
          omega⟩
      have HCL := Aside0.mk (show C1 w A0 r[a] from hl0)
      have HBW := Aside0.mk HE.out.below
      clear hl0 HE hgl hcl hcell0w
      generalize seenL r a = yy at *
      generalize cnt r a = nn at *
      generalize r[a] = l at *
      obtain ⟨wo, rfl⟩ : ∃ wo : World, wo = wr := ⟨_, rfl⟩
      go_wp2
      go_loopw [21] (fun v21 wr => ∃ i : Nat, i ≤ l.length ∧ v21 = .int .i64 i ∧ Aside0 (LL w wr (nn + i) (yy ++ l.take i) (.int .i64 S) (.int .i64 W) (.int .i64 L))) (fun v21 _ => l.length - (RowKit.intOf v21).toNat)
      case atStart => exact ⟨0, Nat.zero_le _, rfl, HE0⟩
      case round =>
        clear HE0 hcell0
        obtain ⟨i, hi, rfl, HE⟩ := hrel
        by_cases hil : i < l.length
        · obtain ⟨ad1, rfl, hcell⟩ := C1.get (Kd.C_below HCL.out HE.out.below) hil
          obtain ⟨⟨h1, h2, h3⟩, h4, h5⟩ := HP.out i hil
          have HT : Aside0 (yy ++ l.take (i + 1) = (yy ++ l.take i) ++ [l[i]]) := ⟨by rw [List.take_succ_eq_append_getElem hil, List.append_assoc]⟩
          obtain ⟨q0, q1, q2, f0, f1, f2⟩ := cz3 HE.out.c
          obtain ⟨m, hm⟩ : ∃ m : Nat, l[i] = (m : Int) := ⟨l[i].toNat, by omega⟩
          have H4 := Aside0.mk h4
          have h3' : m % S = s := by rw [hm] at h3; omega
          have HSET : Aside0 (∀ W1, Calls Try.prog 87 #[.agg #[.int .i64 S, .int .i64 W, .int .i64 L], .int .i64 m] W1 fun e w' => e = .returned (.int .i64 s) ∧ Below W1.heap.size W1 w') := ⟨fun W1 => by have := hset.out m W1; rw [if_neg (by omega), h3'] at this; exact this⟩
          have g1 : decide ((m : Int) < 0) = false := decide_eq_false (by omega)
          have g2 : decide ((1048576 : Int) < (m : Int)) = false := decide_eq_false (by omega)
          have hm9 : m ≤ 1048576 := by omega
          have HWF := Aside0.mk (wf_line hm9)
          have hnm : nn + i < maxLen := by unfold maxLen; omega
          by_cases hi0 : i = 0
          · subst hi0
            rw [hm] at hcell H4 HT
            rw [Addr.add_zero'] at hcell
            clear h1 h2 h3 h4 h5 hm f0 f1 f2 h3'
            go_wp2_with (first | (go_at_call 87; refine (HSET.out _).mono ?_; rintro e w1 ⟨rfl, hb⟩; have HL1 := Aside0.mk (HE.out.step hb); have hlk := HL1.out.seen.look HWF.out; rw [decide_eq_false H4.out] at hlk; obtain ⟨w2, hup, hs2, hg2⟩ := HL1.out.seen.put hnm HWF.out; have HL2 := Aside0.mk (HL1.out.put hs2 hg2); clear hs2 hg2 hb q0 q1 q2))
            go_roundw
            case rel => exact ⟨0 + 1, hil, by go_num, ⟨by rw [HT.out]; exact HL2.out⟩⟩
            case measure => simp [RowKit.intOf]; omega
          · obtain ⟨j, rfl⟩ : ∃ j, i = j + 1 := ⟨i - 1, by omega⟩
            have h6 := h5 j (by omega) (by omega)
            obtain ⟨ad2, e2, hcellp⟩ := C1.get (Kd.C_below HCL.out HE.out.below) (show j < l.length by omega)
            injection e2 with e2
            subst e2
            rw [hm] at hcell H4 HT h6
            have g3 : decide ((m : Int) ≤ l[j]) = false := decide_eq_false (by omega)
            have g4 : decide ((0 : Int) < (j : Int) + 1) = true := decide_eq_true (by omega)
            have g5 : decide ((0 : Int) < ((j + 1 : Nat) : Int)) = true := decide_eq_true (by omega)
            have hcell2 : wr.cell? ⟨ad1.block, ad1.off + (j + 1), none⟩ = some (.int .i64 m) := hcell
            clear h1 h2 h3 h4 h5 h6 hm f0 f1 f2 h3' hi0 hcell
            generalize l[j] = z at *
            go_wp2_with (first | (go_at_call 87; refine (HSET.out _).mono ?_; rintro e w1 ⟨rfl, hb⟩; have HL1 := Aside0.mk (HE.out.step hb); have hlk := HL1.out.seen.look HWF.out; rw [decide_eq_false H4.out] at hlk; obtain ⟨w2, hup, hs2, hg2⟩ := HL1.out.seen.put hnm HWF.out; have HL2 := Aside0.mk (HL1.out.put hs2 hg2); have hcp2 := pw_cell_below hb hcellp; clear hs2 hg2 hb q0 q1 q2))
            go_roundw
            case rel => exact ⟨j + 1 + 1, hil, by go_num, ⟨by rw [HT.out]; exact HL2.out⟩⟩
            case measure => simp [RowKit.intOf]; omega
        · obtain rfl : i = l.length := by omega
          have HE3 : Aside0 (LL w wr (cnt r (a + 1)) (seenL r (a + 1)) (.int .i64 S) (.int .i64 W) (.int .i64 L)) := ⟨by rw [HF.out.1, HF.out.2]; exact HE.out⟩
          clear HE
          go_wp2
          go_roundw
          case rel => exact ⟨a + 1, hlt, by go_num, HE3⟩
          case measure => simp [RowKit.intOf]; omega
    · obtain rfl : a = r.length := by omega
      go_wp2
      go_ret
      exact ⟨rfl, HE.out.below⟩
end Go.Proofs.Ytkgocbmnjlfkoaa.M
end
section
namespace Go.Proofs.Ytkgocbmnjlfkoaa.M
open Go.RowKit Go.Proofs.Ytkgocbmnjlfkoaa.X Go.Proofs.YtkgocbmnjlfkoaaW.PrintWords Go.Proofs.YtkgocbmnjlfkoaaW.PrintLast Go.Proofs.YtkgocbmnjlfkoaaW.PrintMore
set_option linter.unusedVariables false
set_option linter.unusedSimpArgs false
set_option maxHeartbeats 4000000 in
theorem valid71_calls {S W L : Nat} (h : CacheOk S W L) (A : Option Addr) (c : Nat) (x : List (List (List Int))) (w : World) (hV : Val S W x) (hr : C3 w A x) (hc : x.length ≤ c) :
    Calls Try.prog 71 #[.agg #[.int .i64 S, .int .i64 W, .int .i64 L], .slice A x.length c] w fun e w' => e = .returned (.bool true) ∧ Below w.heap.size w w' := by
  have hW4 := h.w4; have hS8 := h.s8
  have hchk := Aside0.mk (check_calls h (w.alloc (.cells #[.int .i64 S, .int .i64 W, .int .i64 L] 26)))
  have HB0 : Aside0 (Below w.heap.size w (w.alloc (.cells #[.int .i64 S, .int .i64 W, .int .i64 L] 26))) := ⟨(Below.refl _ _).alloc (Nat.le_refl _) _⟩
  have hli := Aside0.mk (fun A c s r W1 hV hs hr hc => lists_calls h A c s r W1 hV hs hr hc)
  have hxl := hV.len
  have g1 : ((x.length : Int) != (S : Int)) = false := by rw [hxl]; simp
  have hx9 : x.length < 9 := by omega
  have HX := Aside0.mk hxl
  have HV := Aside0.mk hV
  have HR := Aside0.mk hr
  clear hr hV h hxl
  go_enter Try.func71, Try.ntmps71
  go_wp2_with (first | (go_at_call 85; refine hchk.out.mono ?_; rintro e w1 ⟨rfl, hb⟩; have HB1 := Aside0.mk (HB0.out.trans (hb.mono HB0.out.size)); have HC := Aside0.mk (box_after hb); obtain ⟨q0, q1, q2, f0, f1, f2⟩ := cz3 HC.out; clear f0 f1 f2 hb))
  clear q0 q1 q2 g1 hchk
  go_loopw [19] (fun v19 wr => ∃ s : Nat, s ≤ x.length ∧ v19 = .int .i64 s ∧ Aside0 (Below w.heap.size w wr ∧ wr.heap[w.heap.size]? = some (.cells #[.int .i64 S, .int .i64 W, .int .i64 L] 26 (0, 0)))) (fun v19 _ => x.length - (RowKit.intOf v19).toNat)
  case atStart => exact ⟨0, Nat.zero_le _, rfl, ⟨HB1.out, HC.out⟩⟩
  case round =>
    clear HB1 HC
    obtain ⟨s, hs, rfl, HE⟩ := hrel
    by_cases hlt : s < x.length
    · obtain ⟨ad, A0, c0, rfl, hcell0w, hc0, hl0⟩ := C3.get HR.out hlt
      have hcell := pw_cell_below HE.out.1 hcell0w
      have hVS : VS S s W x[s] := by have := HV.out.el s (by rw [← HX.out]; exact hlt); rwa [getD_lt hlt] at this
      have hcall := Aside0.mk (hli.out A0 c0 s x[s] wr hVS (by rw [← HX.out]; exact hlt) (Kd.C_below hl0 HE.out.1) hc0)
      have g1 : ((x[s].length : Int) != (W : Int)) = false := by rw [hVS.len]; simp
      obtain ⟨q0, q1, q2, f0, f1, f2⟩ := cz3 HE.out.2
      clear f0 f1 f2 hl0 hcell0w hVS
      generalize x[s] = r at *
      go_wp2_with (first | (go_at_call 91; refine hcall.out.mono ?_; rintro e w1 ⟨rfl, hb⟩; have HE2 := Aside0.mk (And.intro (HE.out.1.trans (hb.mono HE.out.1.size)) ((hb.block _ (blk_lt HE.out.2)).trans HE.out.2)); clear hb))
      go_roundw
      case rel => exact ⟨s + 1, hlt, by go_num, HE2⟩
      case measure => simp [RowKit.intOf]; omega
    · obtain rfl : s = x.length := by omega
      go_wp2
      go_ret
      exact ⟨rfl, HE.out.1⟩
set_option maxHeartbeats 4000000 in
theorem mvalid_calls {S W L : Nat} (h : CacheOk S W L) (A : Option Addr) (c : Nat) (x : List (List (List Int))) (w : World) (hV : Val S W x) (hr : C3 w A x) (hc : x.length ≤ c) :
    Calls Try.prog 25 #[.agg #[.int .i64 S, .int .i64 W, .int .i64 L], .agg #[.slice A x.length c]] w fun e w' => e = .returned (.bool true) ∧ Below w.heap.size w w' := by
  have HB0 : Aside0 (Below w.heap.size w ((w.alloc (.cells #[.int .i64 S, .int .i64 W, .int .i64 L] 26)).alloc (.cells #[.slice A x.length c] 39))) := ⟨((Below.refl _ _).alloc (Nat.le_refl _) _).alloc (by simp) _⟩
  have hin := Aside0.mk (valid71_calls h A c x _ hV (Kd.C_below hr HB0.out) hc)
  clear hr hV h
  go_enter Try.func25, Try.ntmps25
  go_wp2_with (first | (go_at_call 71; refine hin.out.mono ?_; rintro e w1 ⟨rfl, hb⟩; have HB1 := Aside0.mk (HB0.out.trans (hb.mono HB0.out.size)); clear hb))
  go_ret
  exact ⟨rfl, HB1.out⟩
end Go.Proofs.Ytkgocbmnjlfkoaa.M
end
section
namespace Go.Proofs.Ytkgocbmnjlfkoaa.M
open Go.RowKit Go.Proofs.Ytkgocbmnjlfkoaa.X Go.Proofs.YtkgocbmnjlfkoaaW.PrintWords Go.Proofs.YtkgocbmnjlfkoaaW.PrintLast Go.Proofs.YtkgocbmnjlfkoaaW.PrintMore
set_option linter.unusedVariables false
set_option linter.unusedSimpArgs false
def exX : List (List (List Int)) := touchM 1 2 (touchM 1 2 (top 1 2) 4) 6
theorem exX_val : Val 1 2 exX := ((Val.top 1 2).touch (by decide)).touch (by decide)
theorem exC : CacheOk 1 2 1 := ⟨by decide, by decide, by decide, by decide, by decide⟩
theorem ex6 : ageM 1 2 exX 6 = 0 := by decide
theorem ex4 : ageM 1 2 exX 4 = 1 := by decide
theorem ex8 : ageM 1 2 exX 8 = 2 := by decide
structure AW (w wr : World) : Prop where
  below : Below w.heap.size w wr
  c : wr.heap[w.heap.size]? = some (.cells #[.int .i64 1, .int .i64 2, .int .i64 1] 26 (0, 0))
theorem AW.step {w wr w' : World} (h : AW w wr) (hb : Below wr.heap.size wr w') : AW w w' := ⟨h.below.trans (hb.mono h.below.size), (hb.block _ (blk_lt h.c)).trans h.c⟩
theorem AW.alloc {w wr : World} (h : AW w wr) (o : Obj) : AW w (wr.alloc o) := h.step ((Below.refl _ _).alloc (Nat.le_refl _) _)
structure AX (w wr : World) (bo : Nat) (A : Option Addr) (k : Nat) (x : List (List (List Int))) : Prop where
  aw : AW w wr
  o : wr.heap[bo]? = some (.cells #[.slice A x.length k] 39 (0, 0))
  len : x.length ≤ k
  reads : C3 wr A x
theorem AX.step {w wr w' : World} {bo k : Nat} {A : Option Addr} {x : List (List (List Int))} (h : AX w wr bo A k x) (hb : Below wr.heap.size wr w') : AX w w' bo A k x := ⟨h.aw.step hb, (hb.block _ (blk_lt h.o)).trans h.o, h.len, Kd.C_below h.reads hb⟩
theorem AW.born {w wr : World} {b k : Nat} {A : Option Addr} {x : List (List (List Int))} {vs : List Value} {us : List (List Value)} (h : AW w wr) (hT : T3 wr b (.slice A x.length k) vs us x) : AX w (wr.alloc (.cells #[.slice A x.length k] 39)) wr.heap.size A k x :=
  ⟨h.alloc _, heap_new _ _, hT.rd.2.1, Kd.C_below hT.rd.2.2 ((Below.refl _ _).alloc (Nat.le_refl _) _)⟩
theorem AW.put {w wr : World} {b k bo : Nat} {A : Option Addr} {x : List (List (List Int))} {u : Value} {vs : List Value} {us : List (List Value)} (h : AW w wr) (ho : wr.heap[bo]? = some (.cells #[u] 39 (0, 0))) (hb : w.heap.size < bo) (hT : T3 wr b (.slice A x.length k) vs us x) : AX w (wr.setCell ⟨bo, 0, none⟩ (.slice A x.length k)) bo A k x :=
  ⟨⟨h.below.setCell (by show w.heap.size ≤ bo; omega) _, blk_farm h.c (by omega)⟩, blk_put ho 0 _ rfl, hT.rd.2.1, (hT.setFar ho (by decide) _).rd.2.2⟩
set_option maxHeartbeats 4000000 in
set_option maxHeartbeats 1000000 in
theorem awake27_calls (w : World) : Calls Try.prog 27 #[] w fun e w' => e = .returned (.bool true) ∧ Below w.heap.size w w' := by
  have htop := Aside0.mk (fun W1 => (show Calls Try.prog 35 #[.agg #[.int .i64 1, .int .i64 2, .int .i64 1]] W1 (New3S W1 (top 1 2)) from mtop_calls exC W1))
  have ht4 := Aside0.mk (fun A k W1 (hr : C3 W1 A (top 1 2)) (hk : (top 1 2).length ≤ k) => (show Calls Try.prog 29 #[.agg #[.int .i64 1, .int .i64 2, .int .i64 1], .agg #[.slice A (top 1 2).length k], .int .i64 4] W1 (New3S W1 (touchM 1 2 (top 1 2) 4)) from touch_calls exC A k (top 1 2) 4 W1 (Val.top 1 2).fit hr hk))
  have ht6 := Aside0.mk (fun A k W1 (hr : C3 W1 A (touchM 1 2 (top 1 2) 4)) (hk : (touchM 1 2 (top 1 2) 4).length ≤ k) => (show Calls Try.prog 29 #[.agg #[.int .i64 1, .int .i64 2, .int .i64 1], .agg #[.slice A (touchM 1 2 (top 1 2) 4).length k], .int .i64 6] W1 (New3S W1 exX) from touch_calls exC A k (touchM 1 2 (top 1 2) 4) 6 W1 ((Val.top 1 2).touch (by decide)).fit hr hk))
  have h6 := Aside0.mk (fun A k W1 (hr : C3 W1 A exX) (hk : exX.length ≤ k) => (show Calls Try.prog 30 #[.agg #[.int .i64 1, .int .i64 2, .int .i64 1], .agg #[.slice A exX.length k], .int .i64 6] W1 (fun e w' => e = .returned (.int .i64 0) ∧ Below W1.heap.size W1 w') from (mage_calls exC A k exX 6 W1 exX_val.fit hr hk).mono (fun e w' h => ⟨h.1.trans (by rw [ex6]; rfl), h.2⟩)))
  have h4 := Aside0.mk (fun A k W1 (hr : C3 W1 A exX) (hk : exX.length ≤ k) => (show Calls Try.prog 30 #[.agg #[.int .i64 1, .int .i64 2, .int .i64 1], .agg #[.slice A exX.length k], .int .i64 4] W1 (fun e w' => e = .returned (.int .i64 1) ∧ Below W1.heap.size W1 w') from (mage_calls exC A k exX 4 W1 exX_val.fit hr hk).mono (fun e w' h => ⟨h.1.trans (by rw [ex4]; rfl), h.2⟩)))
  have h8 := Aside0.mk (fun A k W1 (hr : C3 W1 A exX) (hk : exX.length ≤ k) => (show Calls Try.prog 30 #[.agg #[.int .i64 1, .int .i64 2, .int .i64 1], .agg #[.slice A exX.length k], .int .i64 8] W1 (fun e w' => e = .returned (.int .i64 2) ∧ Below W1.heap.size W1 w') from (mage_calls exC A k exX 8 W1 exX_val.fit hr hk).mono (fun e w' h => ⟨h.1.trans (by rw [ex8]; rfl), h.2⟩)))
  have hval := Aside0.mk (fun A k W1 (hr : C3 W1 A exX) (hk : exX.length ≤ k) => (show Calls Try.prog 25 #[.agg #[.int .i64 1, .int .i64 2, .int .i64 1], .agg #[.slice A exX.length k]] W1 (fun e w' => e = .returned (.bool true) ∧ Below W1.heap.size W1 w') from mvalid_calls exC A k exX W1 exX_val hr hk))
  have HA0 : Aside0 (AW w (w.alloc (.cells #[.int .i64 1, .int .i64 2, .int .i64 1] 26))) := ⟨(Below.refl _ _).alloc (Nat.le_refl _) _, heap_new _ _⟩
  generalize top 1 2 = X0 at *
  generalize touchM 1 2 X0 4 = X1 at *
  generalize exX = X2 at *
  go_enter Try.func27, Try.ntmps27
  go_upto_region 2 with (fail)
  have HSZ : Aside0 (w.heap.size < (w.alloc (.cells #[.int .i64 1, .int .i64 2, .int .i64 1] 26)).heap.size) := ⟨by rw [World.size_alloc]; omega⟩
  generalize w.alloc (.cells #[.int .i64 1, .int .i64 2, .int .i64 1] 26) = W0 at *
  obtain ⟨q0, q1, q2, f0, f1, f2⟩ := cz3 HA0.out.c
  clear f0 f1 f2
  go_cut [2] from 4 to 9 (fun v2 wx => ∃ bo A k, v2 = .pointer (some ⟨bo, 0, none⟩) ∧ Aside0 (AX w wx bo A k X2))
  case first =>
    have n0 : w.heap.size ≠ W0.heap.size := by have := HSZ.out; omega
    go_region_held3 (fun w' => w'.cell? ⟨w.heap.size, 0, none⟩ = some (.int .i64 1) ∧ w'.cell? ⟨w.heap.size, 1, none⟩ = some (.int .i64 2) ∧ w'.cell? ⟨w.heap.size, 2, none⟩ = some (.int .i64 1))
      (first | exact ⟨q0, q1, q2⟩ | exact ⟨pw_cell_below ((Below.refl _ W0).alloc (Nat.le_refl _) _) q0, pw_cell_below ((Below.refl _ W0).alloc (Nat.le_refl _) _) q1, pw_cell_below ((Below.refl _ W0).alloc (Nat.le_refl _) _) q2⟩ | exact ⟨q0b, q1b, q2b⟩ | exact ⟨pw_cell_below ((Below.refl _ w1).alloc (Nat.le_refl _) _) q0b, pw_cell_below ((Below.refl _ w1).alloc (Nat.le_refl _) _) q1b, pw_cell_below ((Below.refl _ w1).alloc (Nat.le_refl _) _) q2b⟩ | exact ⟨q0c, q1c, q2c⟩ | exact ⟨pw_cell_below ((Below.refl _ w2).alloc (Nat.le_refl _) _) q0c, pw_cell_below ((Below.refl _ w2).alloc (Nat.le_refl _) _) q1c, pw_cell_below ((Below.refl _ w2).alloc (Nat.le_refl _) _) q2c⟩ | exact ⟨q0d, q1d, q2d⟩ | exact ⟨pw_cell_below ((Below.refl _ w3).alloc (Nat.le_refl _) _) q0d, pw_cell_below ((Below.refl _ w3).alloc (Nat.le_refl _) _) q1d, pw_cell_below ((Below.refl _ w3).alloc (Nat.le_refl _) _) q2d⟩ | exact ⟨(cell_far (show (⟨w.heap.size, 0, none⟩ : Addr).block ≠ (⟨W0.heap.size, 0, none⟩ : Addr).block from n0) _).trans q0d, (cell_far (show (⟨w.heap.size, 1, none⟩ : Addr).block ≠ (⟨W0.heap.size, 0, none⟩ : Addr).block from n0) _).trans q1d, (cell_far (show (⟨w.heap.size, 2, none⟩ : Addr).block ≠ (⟨W0.heap.size, 0, none⟩ : Addr).block from n0) _).trans q2d⟩ | exact ⟨(cell_far (show (⟨w.heap.size, 0, none⟩ : Addr).block ≠ (⟨w1.heap.size, 0, none⟩ : Addr).block from (show w.heap.size ≠ w1.heap.size by have := blk_lt HA1.out.c; omega)) _).trans q0d, (cell_far (show (⟨w.heap.size, 1, none⟩ : Addr).block ≠ (⟨w1.heap.size, 0, none⟩ : Addr).block from (show w.heap.size ≠ w1.heap.size by have := blk_lt HA1.out.c; omega)) _).trans q1d, (cell_far (show (⟨w.heap.size, 2, none⟩ : Addr).block ≠ (⟨w1.heap.size, 0, none⟩ : Addr).block from (show w.heap.size ≠ w1.heap.size by have := blk_lt HA1.out.c; omega)) _).trans q2d⟩ | exact ⟨(cell_far (show (⟨w.heap.size, 0, none⟩ : Addr).block ≠ (⟨w2.heap.size, 0, none⟩ : Addr).block from (show w.heap.size ≠ w2.heap.size by have := blk_lt HA2.out.c; omega)) _).trans q0d, (cell_far (show (⟨w.heap.size, 1, none⟩ : Addr).block ≠ (⟨w2.heap.size, 0, none⟩ : Addr).block from (show w.heap.size ≠ w2.heap.size by have := blk_lt HA2.out.c; omega)) _).trans q1d, (cell_far (show (⟨w.heap.size, 2, none⟩ : Addr).block ≠ (⟨w2.heap.size, 0, none⟩ : Addr).block from (show w.heap.size ≠ w2.heap.size by have := blk_lt HA2.out.c; omega)) _).trans q2d⟩ | go_keep)
      (first | (go_at_call 35; refine (htop.out _).mono ?_; rintro e w1 ⟨v1, vs1, us1, rfl, hT1, hb1⟩; obtain ⟨A1, k1, rfl, hk1, hr1⟩ := hT1.reads; have HA1 : Aside0 (AW w w1) := ⟨(by first | exact HA0.out.step ⟨hb1.os, hb1.tape, hb1.output, hb1.size, hb1.block⟩ | exact (HA0.out.alloc (.cells #[.slice none 0 0] 39)).step ⟨hb1.os, hb1.tape, hb1.output, hb1.size, hb1.block⟩)⟩; (try (have KBa1 := Aside0.mk ((hb1.block W0.heap.size (by show W0.heap.size < (W0.alloc _).heap.size; rw [World.size_alloc]; omega)).trans (heap_new W0 (.cells #[.slice none 0 0] 39))); obtain ⟨cKBa1, fKBa1⟩ := cz1' KBa1.out)); have HR1 := Aside0.mk hr1; obtain ⟨q0b, q1b, q2b, f0, f1, f2⟩ := cz3 HA1.out.c; clear f0 f1 f2 hT1 hb1 hr1) | (go_at_call 29; refine (ht6.out A2 k2 _ (by first | exact HR2.out | exact Kd.C_below HR2.out ((Below.refl _ _).alloc (Nat.le_refl _) _)) hk2).mono ?_; rintro e w3 ⟨v3, vs3, us3, rfl, hT3, hb3⟩; obtain ⟨A3, k3, rfl, hk3, hr3⟩ := hT3.reads; have HA3 : Aside0 (AW w w3) := ⟨(by first | exact HA2.out.step hb3 | exact (HA2.out.alloc (.cells #[.slice none 0 0] 39)).step hb3)⟩; (try (have KBa3 := Aside0.mk ((hb3.block _ (blk_lt KBa2.out)).trans KBa2.out); obtain ⟨cKBa3, fKBa3⟩ := cz1' KBa3.out)); (try (have KBb3 := Aside0.mk ((hb3.block _ (blk_lt KBb2.out)).trans KBb2.out); obtain ⟨cKBb3, fKBb3⟩ := cz1' KBb3.out)); (try (have KBc3 := Aside0.mk ((hb3.block w2.heap.size (by show w2.heap.size < (w2.alloc _).heap.size; rw [World.size_alloc]; omega)).trans (heap_new w2 (.cells #[.slice none 0 0] 39))); obtain ⟨cKBc3, fKBc3⟩ := cz1' KBc3.out)); have HT3 := Aside0.mk hT3; obtain ⟨q0d, q1d, q2d, f0, f1, f2⟩ := cz3 HA3.out.c; clear f0 f1 f2 hT3 hb3 hr3) | (go_at_call 29; refine (ht4.out A1 k1 _ (by first | exact HR1.out | exact Kd.C_below HR1.out ((Below.refl _ _).alloc (Nat.le_refl _) _)) hk1).mono ?_; rintro e w2 ⟨v2, vs2, us2, rfl, hT2, hb2⟩; obtain ⟨A2, k2, rfl, hk2, hr2⟩ := hT2.reads; have HA2 : Aside0 (AW w w2) := ⟨(by first | exact HA1.out.step hb2 | exact (HA1.out.alloc (.cells #[.slice none 0 0] 39)).step hb2)⟩; (try (have KBa2 := Aside0.mk ((hb2.block _ (blk_lt KBa1.out)).trans KBa1.out); obtain ⟨cKBa2, fKBa2⟩ := cz1' KBa2.out)); (try (have KBb2 := Aside0.mk ((hb2.block w1.heap.size (by show w1.heap.size < (w1.alloc _).heap.size; rw [World.size_alloc]; omega)).trans (heap_new w1 (.cells #[.slice none 0 0] 39))); obtain ⟨cKBb2, fKBb2⟩ := cz1' KBb2.out)); have HR2 := Aside0.mk hr2; obtain ⟨q0c, q1c, q2c, f0, f1, f2⟩ := cz3 HA2.out.c; clear f0 f1 f2 hT2 hb2 hr2))
    all_goals
      go_wp2_with fail
      go_meet
      case rel =>
        first
        | exact ⟨_, _, _, rfl, ⟨HA3.out.born HT3.out⟩⟩
        | exact ⟨_, _, _, rfl, ⟨HA3.out.put KBa3.out HSZ.out HT3.out⟩⟩
        | exact ⟨_, _, _, rfl, ⟨HA3.out.put KBb3.out (blk_lt HA1.out.c) HT3.out⟩⟩
        | exact ⟨_, _, _, rfl, ⟨HA3.out.put KBc3.out (blk_lt HA2.out.c) HT3.out⟩⟩
  case rest =>
    obtain ⟨bo, A, k, rfl, HX⟩ := hcut
    clear HA0 q0 q1 q2 htop ht4 ht6 HSZ
    obtain ⟨q0, q1, q2, f0, f1, f2⟩ := cz3 HX.out.aw.c
    obtain ⟨q5, f5⟩ := cz1' HX.out.o
    clear f0 f1 f2
    go_wp2_with (first | (go_at_call 25; refine (hval.out A k w6 HX6.out.reads HX6.out.len).mono ?_; rintro e w7 ⟨rfl, hb⟩; have HX7 := Aside0.mk (HX6.out.step hb); clear hb) | (go_at_call 30; refine (h8.out A k w5 HX5.out.reads HX5.out.len).mono ?_; rintro e w6 ⟨rfl, hb⟩; have HX6 := Aside0.mk (HX5.out.step hb); obtain ⟨q0d, q1d, q2d, f0, f1, f2⟩ := cz3 HX6.out.aw.c; obtain ⟨q5d, f5d⟩ := cz1' HX6.out.o; clear f0 f1 f2 hb) | (go_at_call 30; refine (h4.out A k w4 HX4.out.reads HX4.out.len).mono ?_; rintro e w5 ⟨rfl, hb⟩; have HX5 := Aside0.mk (HX4.out.step hb); obtain ⟨q0c, q1c, q2c, f0, f1, f2⟩ := cz3 HX5.out.aw.c; obtain ⟨q5c, f5c⟩ := cz1' HX5.out.o; clear f0 f1 f2 hb) | (go_at_call 30; refine (h6.out A k wc HX.out.reads HX.out.len).mono ?_; rintro e w4 ⟨rfl, hb⟩; have HX4 := Aside0.mk (HX.out.step hb); obtain ⟨q0b, q1b, q2b, f0, f1, f2⟩ := cz3 HX4.out.aw.c; obtain ⟨q5b, f5b⟩ := cz1' HX4.out.o; clear f0 f1 f2 hb))
    go_ret
    exact ⟨rfl, HX7.out.aw.below⟩
end Go.Proofs.Ytkgocbmnjlfkoaa.M
end
section
namespace Go.Proofs.Ytkgocbmnjlfkoaa.M
open Go.RowKit Go.Proofs.Ytkgocbmnjlfkoaa.X Go.Proofs.YtkgocbmnjlfkoaaW.PrintWords Go.Proofs.YtkgocbmnjlfkoaaW.PrintLast Go.Proofs.YtkgocbmnjlfkoaaW.PrintMore
set_option linter.unusedVariables false
set_option linter.unusedSimpArgs false
theorem apart1 {S W : Nat} (X : List (List (List Int))) {n k : Nat} (h : n % S ≠ k % S) : ageM S W (touchM S W X k) n = ageM S W X n := by
  unfold ageM touchM
  by_cases hs : S = 0
  · rw [if_pos hs, if_pos hs]
  · rw [if_neg hs, if_neg hs, if_neg hs]
    congr 1
    rw [List.getD_eq_getElem?_getD, List.getElem?_set_ne (Ne.symm h), ← List.getD_eq_getElem?_getD]
theorem ageM_touch {S W : Nat} {X : List (List (List Int))} (hX : Val S W X) (hW : 0 < W) (hS : S ≠ 0) (n k : Nat) : ageM S W (touchM S W X k) n = if n % S = k % S then ageU (fun a => decide (a < ageM S W X k)) W k n (ageM S W X n) else ageM S W X n := by
  by_cases h : n % S = k % S
  · rw [if_pos h]
    have hm := Nat.mod_lt k (Nat.pos_of_ne_zero hS)
    have e1 : ageM S W (touchM S W X k) n = age ((touchM S W X k).getD (n % S) []) n := if_neg hS
    have e2 : ageM S W X n = age (X.getD (n % S) []) n := if_neg hS
    have e3 : touchM S W X k = X.set (k % S) (useF (fun a => decide (a < ageM S W X k)) (X.getD (k % S) []) k) := if_neg hS
    rw [e1, e3, e2, h, getD_set _ _ _ _ (by rw [hX.len]; exact hm), if_pos rfl]
    exact (hX.el _ hm).age_use _ _ _ hW
  · rw [if_neg h]
    exact apart1 X h
theorem ageM_le {S W : Nat} {X : List (List (List Int))} (hX : Val S W X) (n : Nat) : ageM S W X n ≤ W := by
  unfold ageM
  split
  · exact Nat.le_refl _
  · rename_i hS
    exact (hX.el _ (Nat.mod_lt n (Nat.pos_of_ne_zero hS))).age_le n
theorem apart2 {S W : Nat} {X : List (List (List Int))} (hX : Val S W X) (hW : 0 < W) {n k : Nat} (h : n ≠ k) : ageM S W X n ≤ ageM S W (touchM S W X k) n := by
  by_cases hS : S = 0
  · rw [touchM, if_pos hS]
    exact Nat.le_refl _
  · rw [ageM_touch hX hW hS]
    split
    · have hl := ageM_le hX n
      unfold ageU dst
      rw [if_neg (by omega)]
      split
      · split <;> omega
      · exact hl
    · exact Nat.le_refl _
structure AJ (w wr : World) (bc bm bx : Nat) (A A' : Option Addr) (k1 k2 : Nat) (X X' : List (List (List Int))) (S W L : Nat) : Prop where
  below : Below w.heap.size w wr
  c : wr.heap[bc]? = some (.cells #[.int .i64 S, .int .i64 W, .int .i64 L] 26 (0, 0))
  m : wr.heap[bm]? = some (.cells #[.slice A X.length k1] 39 (0, 0))
  x : wr.heap[bx]? = some (.cells #[.slice A' X'.length k2] 39 (0, 0))
  l1 : X.length ≤ k1
  l2 : X'.length ≤ k2
  r1 : C3 wr A X
  r2 : C3 wr A' X'
theorem AJ.step {w wr w' : World} {bc bm bx : Nat} {A A' : Option Addr} {k1 k2 : Nat} {X X' : List (List (List Int))} {S W L : Nat} (h : AJ w wr bc bm bx A A' k1 k2 X X' S W L) (hb : Below wr.heap.size wr w') : AJ w w' bc bm bx A A' k1 k2 X X' S W L :=
  ⟨h.below.trans (hb.mono h.below.size), (hb.block _ (blk_lt h.c)).trans h.c, (hb.block _ (blk_lt h.m)).trans h.m, (hb.block _ (blk_lt h.x)).trans h.x, h.l1, h.l2, Kd.C_below h.r1 hb, Kd.C_below h.r2 hb⟩
set_option maxHeartbeats 4000000 in
theorem mustApart_walk (A0 : Option Addr) (c0 : Nat) (l : List Int) (w : World) (hr : C1 w A0 l) (hc : l.length ≤ c0) (hl : l.length ≤ 17592186044416) :
    Calls Try.prog 5 #[.slice A0 l.length c0] w fun e w' => e = .returned (.bool true) ∧ Below w.heap.size w w' := by
  have hnew := Aside0.mk (new_calls A0 c0 l w hr hc hl)
  clear hr
  go_enter Try.func5, Try.ntmps5
  go_wp2_with (first | (go_at_call 14; refine hnew.out.mono ?_; rintro e w1 ⟨g, rfl, hd1, hb1⟩; have HD1 := Aside0.mk hd1; clear hd1 hb1) | (go_at_call 15; refine (cache_calls HD1.out).mono ?_; rintro e w2 ⟨S, W, L, rfl, hC, hd2, hk2⟩; have HC := Aside0.mk hC; have HD2 := Aside0.mk hd2; clear hC hd2 hk2) | (go_at_call 22; refine (must22_calls HC.out (HD2.out.below ((Below.refl _ _).alloc (Nat.le_refl _) _))).mono ?_; rintro e w3 ⟨v, vs, us, X, rfl, hT, hV, hd3, hk3⟩; obtain ⟨A, k1, rfl, _, _⟩ := hT.reads; have HV := Aside0.mk hV; have HD3 := Aside0.mk hd3; have HB3 := Aside0.mk ((HD2.out.below ((Below.refl _ _).alloc (Nat.le_refl _) _)).blk hk3 (heap_new w2 _) (by decide)); have HT3 := Aside0.mk hT; clear hT hV hd3 hk3) | (go_at_call 28; refine (line_calls (HD3.out.below ((Below.refl _ _).alloc (Nat.le_refl _) _))).mono ?_; rintro e w4 ⟨n, rfl, hn, hd4, hk4⟩; have HD4 := Aside0.mk hd4; have HB4 := Aside0.mk ((HD3.out.below ((Below.refl _ _).alloc (Nat.le_refl _) _)).blk hk4 (blk_alloc HB3.out _) (by decide)); have HM4 := Aside0.mk ((HD3.out.below ((Below.refl _ _).alloc (Nat.le_refl _) _)).blk hk4 (heap_new w3 _) (by decide)); have HT4 := Aside0.mk ((HT3.out.below ((Below.refl _ _).alloc (Nat.le_refl _) _)).keepD (HD3.out.below ((Below.refl _ _).alloc (Nat.le_refl _) _)) hk4); clear hd4 hk4; obtain ⟨q0, q1, q2, f0, f1, f2⟩ := cz3 HB4.out; obtain ⟨q3, f3⟩ := cz1' HM4.out; clear f0 f1 f2 f3) | (go_at_call 29; refine (touch_calls HC.out A k1 X n w4 HV.out.fit HT4.out.rd.2.2 HT4.out.rd.2.1).mono ?_; rintro e w5 ⟨v5, vs5, us5, rfl, hT5, hb5⟩; obtain ⟨A', k2, rfl, hk2, hr2⟩ := hT5.reads; have HJ : Aside0 (AJ w (w5.alloc (.cells #[.slice A' (touchM S W X n).length k2] 39)) w2.heap.size w3.heap.size w5.heap.size A A' k1 k2 X (touchM S W X n) S W L) := ⟨(HD4.out.below hb5).bel.alloc (HD4.out.below hb5).bel.size _, blk_alloc ((hb5.block _ (blk_lt HB4.out)).trans HB4.out) _, blk_alloc ((hb5.block _ (blk_lt HM4.out)).trans HM4.out) _, heap_new _ _, HT4.out.rd.2.1, hk2, Kd.C_below (Kd.C_below HT4.out.rd.2.2 hb5) ((Below.refl _ _).alloc (Nat.le_refl _) _), Kd.C_below hr2 ((Below.refl _ _).alloc (Nat.le_refl _) _)⟩; clear hT5 hb5 hr2 q0 q1 q2 q3))
  have hW1 := HC.out.w1
  have hS8 := HC.out.s8
  have hW4 := HC.out.w4
  have HAM := Aside0.mk (fun (m : Nat) W1 (hj : AJ w W1 w2.heap.size w3.heap.size w5.heap.size A A' k1 k2 X (touchM S W X n) S W L) => mage_calls HC.out A k1 X m W1 HV.out.fit hj.r1 hj.l1)
  have HAX := Aside0.mk (fun (m : Nat) W1 (hj : AJ w W1 w2.heap.size w3.heap.size w5.heap.size A A' k1 k2 X (touchM S W X n) S W L) => mage_calls HC.out A' k2 (touchM S W X n) m W1 (HV.out.touch hn).fit hj.r2 hj.l2)
  have HL1 := Aside0.mk (fun (m : Nat) (h : m % S ≠ n % S) => apart1 (W := W) X h)
  have HL2 := Aside0.mk (fun (m : Nat) (h : m ≠ n) => apart2 HV.out hW1 h)
  clear HD1 HD2 HD3 HD4 HB3 HB4 HM4 HT3 HT4 hnew
  generalize w2.heap.size = bc at *
  generalize w3.heap.size = bm at *
  generalize w5.heap.size = bx at *
  generalize touchM S W X n = X' at *
  go_loopw [8] (fun v8 wr => ∃ m : Nat, m ≤ 40 ∧ v8 = .int .i64 m ∧ Aside0 (AJ w wr bc bm bx A A' k1 k2 X X' S W L)) (fun v8 _ => 40 - (RowKit.intOf v8).toNat)
  case atStart => exact ⟨0, by omega, rfl, HJ⟩
  case round =>
    clear HJ
    obtain ⟨m, hm, rfl, HJ⟩ := hrel
    by_cases hlt : m < 40
    · have g0 : decide ((m : Int) < 40) = true := decide_eq_true (by omega)
      have HAMm := Aside0.mk (HAM.out m)
      have HAXm := Aside0.mk (HAX.out m)
      have HL1m := Aside0.mk (HL1.out m)
      have HL2m := Aside0.mk (HL2.out m)
      clear HAM HAX HL1 HL2
      generalize ageM S W X m = am at *
      generalize ageM S W X' m = ax at *
      have HAM := HAMm
      have HAX := HAXm
      clear HAMm HAXm
      go_upto_region 9 with (fail)
      go_cut [50] from 22 to 64 (fun v50 wx => v50 = .bool false ∧ Aside0 (AJ w wx bc bm bx A A' k1 k2 X X' S W L))
      case first =>
        obtain ⟨q0, q1, q2, f0, f1, f2⟩ := cz3 HJ.out.c
        obtain ⟨q3, f3⟩ := cz1' HJ.out.m
        obtain ⟨q4, f4⟩ := cz1' HJ.out.x
        clear f0 f1 f2 f3 f4
        have HJd := Aside0.mk (HJ.out.step (Below.refl _ _).drew)
        by_cases hS0 : 0 < S
        · have g1 : decide ((0 : Int) < (S : Int)) = true := decide_eq_true (by omega)
          have g1' : ((S : Int) == 0) = false := beq_eq_false_iff_ne.2 (by omega)
          have g5 : ¬ S = 0 := by omega
          have g6 : ¬ (S : Int) = 0 := by omega
          have g7 : (S : Int) ≠ 0 := by omega
          have e1 : (m : Int) % (S : Int) = ((m % S : Nat) : Int) := rfl
          have e2 : (n : Int) % (S : Int) = ((n % S : Nat) : Int) := rfl
          have e3 : Int.tmod (m : Int) (S : Int) = ((m % S : Nat) : Int) := by rw [Int.tmod_eq_emod_of_nonneg (Int.natCast_nonneg _)]; rfl
          have e4 : Int.tmod (n : Int) (S : Int) = ((n % S : Nat) : Int) := by rw [Int.tmod_eq_emod_of_nonneg (Int.natCast_nonneg _)]; rfl
          by_cases hmn : m % S = n % S
          · have g2 : (((m % S : Nat) : Int) != ((n % S : Nat) : Int)) = false := by rw [hmn]; simp
            clear hmn
            generalize m % S = p1 at *
            generalize n % S = p2 at *
            go_quiet (fail)
            go_wp2_with fail
            go_meet
            case rel => exact ⟨rfl, ⟨HJ.out.step (pw_below_drewN (Below.refl _ _) _)⟩⟩
          · have g2 : (((m % S : Nat) : Int) != ((n % S : Nat) : Int)) = true := by simp; omega
            have g3 : ((ax : Int) != (am : Int)) = false := by rw [HL1m.out hmn]; simp
            have g4 : ((am : Int) != (ax : Int)) = false := by rw [HL1m.out hmn]; simp
            clear hmn HL1m
            generalize m % S = p1 at *
            generalize n % S = p2 at *
            go_region_held3 (fun w' => w'.cell? ⟨bc, 0, none⟩ = some (.int .i64 S) ∧ w'.cell? ⟨bc, 1, none⟩ = some (.int .i64 W) ∧ w'.cell? ⟨bc, 2, none⟩ = some (.int .i64 L) ∧ w'.cell? ⟨bm, 0, none⟩ = some (.slice A X.length k1) ∧ w'.cell? ⟨bx, 0, none⟩ = some (.slice A' X'.length k2))
              (first | exact ⟨q0, q1, q2, q3, q4⟩ | exact ⟨q0b, q1b, q2b, q3b, q4b⟩ | exact ⟨q0c, q1c, q2c, q3c, q4c⟩ | go_keep)
              (first | (go_at_call 30; with_reducible refine (HAX.out w1 HJ1.out).mono ?_; rintro e w2 ⟨rfl, hb⟩; have HJ2 := Aside0.mk (HJ1.out.step hb); obtain ⟨q0c, q1c, q2c, f0, f1, f2⟩ := cz3 HJ2.out.c; obtain ⟨q3c, f3⟩ := cz1' HJ2.out.m; obtain ⟨q4c, f4⟩ := cz1' HJ2.out.x; clear f0 f1 f2 f3 f4; clear hb) | (go_at_call 30; with_reducible refine (HAM.out w1 HJ1.out).mono ?_; rintro e w2 ⟨rfl, hb⟩; have HJ2 := Aside0.mk (HJ1.out.step hb); obtain ⟨q0c, q1c, q2c, f0, f1, f2⟩ := cz3 HJ2.out.c; obtain ⟨q3c, f3⟩ := cz1' HJ2.out.m; obtain ⟨q4c, f4⟩ := cz1' HJ2.out.x; clear f0 f1 f2 f3 f4; clear hb) | (go_at_call 30; with_reducible refine (HAX.out wr.drew HJd.out).mono ?_; rintro e w1 ⟨rfl, hb⟩; have HJ1 := Aside0.mk (HJd.out.step hb); obtain ⟨q0b, q1b, q2b, f0, f1, f2⟩ := cz3 HJ1.out.c; obtain ⟨q3b, f3⟩ := cz1' HJ1.out.m; obtain ⟨q4b, f4⟩ := cz1' HJ1.out.x; clear f0 f1 f2 f3 f4; clear hb) | (go_at_call 30; with_reducible refine (HAM.out wr.drew HJd.out).mono ?_; rintro e w1 ⟨rfl, hb⟩; have HJ1 := Aside0.mk (HJd.out.step hb); obtain ⟨q0b, q1b, q2b, f0, f1, f2⟩ := cz3 HJ1.out.c; obtain ⟨q3b, f3⟩ := cz1' HJ1.out.m; obtain ⟨q4b, f4⟩ := cz1' HJ1.out.x; clear f0 f1 f2 f3 f4; clear hb))
            all_goals
              go_wp2_with fail
              go_meet
              case rel => exact ⟨rfl, HJ2⟩
        · have g1 : decide ((0 : Int) < (S : Int)) = false := decide_eq_false (by omega)
          go_quiet (fail)
          go_wp2_with fail
          go_meet
          case rel => exact ⟨rfl, ⟨HJ.out.step (pw_below_drewN (Below.refl _ _) _)⟩⟩
      case rest =>
        obtain ⟨rfl, HJ9⟩ := hcut
        clear HJ
        go_upto_region 11 with (fail)
        go_cut [64] from 22 to 64 (fun v64 wx => v64 = .bool false ∧ Aside0 (AJ w wx bc bm bx A A' k1 k2 X X' S W L))
        case first =>
          obtain ⟨q0, q1, q2, f0, f1, f2⟩ := cz3 HJ9.out.c
          obtain ⟨q3, f3⟩ := cz1' HJ9.out.m
          obtain ⟨q4, f4⟩ := cz1' HJ9.out.x
          clear f0 f1 f2 f3 f4
          have HJd := Aside0.mk (HJ9.out.step (Below.refl _ _).drew)
          by_cases hmn : m = n
          · have g2 : ((m : Int) != (n : Int)) = false := by rw [hmn]; simp
            clear hmn
            go_quiet (fail)
            go_wp2_with fail
            go_meet
            case rel => exact ⟨rfl, ⟨HJ9.out.step (pw_below_drewN (Below.refl _ _) _)⟩⟩
          · have g2 : ((m : Int) != (n : Int)) = true := by simp; omega
            have g3 : decide ((ax : Int) < (am : Int)) = false := decide_eq_false (by have := HL2m.out hmn; omega)
            have g4 : ¬ ax < am := by have := HL2m.out hmn; omega
            clear hmn HL1m
            go_region_held3 (fun w' => w'.cell? ⟨bc, 0, none⟩ = some (.int .i64 S) ∧ w'.cell? ⟨bc, 1, none⟩ = some (.int .i64 W) ∧ w'.cell? ⟨bc, 2, none⟩ = some (.int .i64 L) ∧ w'.cell? ⟨bm, 0, none⟩ = some (.slice A X.length k1) ∧ w'.cell? ⟨bx, 0, none⟩ = some (.slice A' X'.length k2))
              (first | exact ⟨q0, q1, q2, q3, q4⟩ | exact ⟨q0b, q1b, q2b, q3b, q4b⟩ | exact ⟨q0c, q1c, q2c, q3c, q4c⟩ | go_keep)
              (first | (go_at_call 30; with_reducible refine (HAX.out w1 HJ1.out).mono ?_; rintro e w2 ⟨rfl, hb⟩; have HJ2 := Aside0.mk (HJ1.out.step hb); obtain ⟨q0c, q1c, q2c, f0, f1, f2⟩ := cz3 HJ2.out.c; obtain ⟨q3c, f3⟩ := cz1' HJ2.out.m; obtain ⟨q4c, f4⟩ := cz1' HJ2.out.x; clear f0 f1 f2 f3 f4; clear hb) | (go_at_call 30; with_reducible refine (HAM.out w1 HJ1.out).mono ?_; rintro e w2 ⟨rfl, hb⟩; have HJ2 := Aside0.mk (HJ1.out.step hb); obtain ⟨q0c, q1c, q2c, f0, f1, f2⟩ := cz3 HJ2.out.c; obtain ⟨q3c, f3⟩ := cz1' HJ2.out.m; obtain ⟨q4c, f4⟩ := cz1' HJ2.out.x; clear f0 f1 f2 f3 f4; clear hb) | (go_at_call 30; with_reducible refine (HAX.out wc.drew HJd.out).mono ?_; rintro e w1 ⟨rfl, hb⟩; have HJ1 := Aside0.mk (HJd.out.step hb); obtain ⟨q0b, q1b, q2b, f0, f1, f2⟩ := cz3 HJ1.out.c; obtain ⟨q3b, f3⟩ := cz1' HJ1.out.m; obtain ⟨q4b, f4⟩ := cz1' HJ1.out.x; clear f0 f1 f2 f3 f4; clear hb) | (go_at_call 30; with_reducible refine (HAM.out wc.drew HJd.out).mono ?_; rintro e w1 ⟨rfl, hb⟩; have HJ1 := Aside0.mk (HJd.out.step hb); obtain ⟨q0b, q1b, q2b, f0, f1, f2⟩ := cz3 HJ1.out.c; obtain ⟨q3b, f3⟩ := cz1' HJ1.out.m; obtain ⟨q4b, f4⟩ := cz1' HJ1.out.x; clear f0 f1 f2 f3 f4; clear hb))
            all_goals
              go_wp2_with fail
              go_meet
              case rel => exact ⟨rfl, HJ2⟩
        case rest =>
          obtain ⟨rfl, HJ11⟩ := hcut
          clear HJ9
          go_wp2
          go_roundw
          case rel => exact ⟨m + 1, by omega, by go_num, HJ11⟩
          case measure => simp [RowKit.intOf]; omega
    · obtain rfl : m = 40 := by omega
      go_wp2_with (first | (go_at_call 27; refine (awake27_calls wr).mono ?_; rintro e w9 ⟨rfl, hb⟩; have HJ9 := Aside0.mk (HJ.out.step hb); clear hb))
      go_ret
      exact ⟨rfl, HJ9.out.below⟩
end Go.Proofs.Ytkgocbmnjlfkoaa.M
end
section
namespace Go.Proofs.YtkgocbmnjlfkoaaW.PrintWords
open Go.ChangeShapes Go.WideShapes
theorem sized_ints {H : Type} {enc : TypeId × Value → H} {P : Program} {W : World} {base : Nat} {spare : Nat → Bool} {held : Bool} {t e : TypeId} {k : IntKind} {a : Option Addr} {len cap : Nat} {d : DataW H} {ps : List MemPlace} {ts : List TypeId} {ds : List (DataW H)} {j : Nat}
    (hsz : (DataW.weightsEach P ts ds).all (· ≤ reachBytes) = true) (ht : ts[j]? = some t) (hd : ds[j]? = some d) (hu : P.underlying t = some (.slice e)) (he : P.underlying e = some (.int k)) (hc : P.cellsOf e = 1) {B : Nat} (hB : P.bytesOf e = B)
    (h : DataW.Trod enc P W base spare held t (.slice a len cap) d ps) : len * B ≤ 140737488351232 := by
  obtain ⟨fuel, hf⟩ := h
  rcases open_ints hu he hc hf with ⟨hcs, _⟩ | ⟨x, l, c, zs, hcs, _, hl, _, hz, hx, _, _⟩
  · simp [Value.cells] at hcs
    obtain ⟨rfl, rfl, rfl⟩ := hcs
    simp
  · simp [Value.cells] at hcs
    obtain ⟨rfl, rfl, rfl⟩ := hcs
    obtain ⟨hx, _⟩ := Prod.mk.inj hx
    subst hx
    have z := sized_slice hsz ht hd hu
    rw [hB] at z
    have hl2 : len ≤ zs.length := by
      rw [hz]
      split
      · exact hl
      · exact Nat.le_refl _
    have h1 : (lits (H := H) k (zs.take len)).length + (lits (H := H) k (zs.drop len)).length = zs.length := by
      simp [lits]
      omega
    rw [h1] at z
    exact Nat.le_trans (Nat.mul_le_mul_right _ hl2) z
end Go.Proofs.YtkgocbmnjlfkoaaW.PrintWords
end
section
namespace Go.Proofs.Ytkgocbmnjlfkoaa.mustApart
open Go.ChangeShapes Go.WideShapes Go.ChangeAt Go.RowKit
open Go.ChangeMaps (open_string shut_string)
set_option linter.unusedVariables false
theorem own : ownKnob Try.prog.godebug = none := by kernel_rfl
theorem laidOut : laidOutB Try.prog = true := by kernel_rfl
def IsRow (k : IntKind) (w : World) (a : Option Addr) (len cap : Nat) (zs : List Int) : Prop :=
  (a = none ∧ len = 0 ∧ cap = 0 ∧ zs = []) ∨
  ∃ x, a = some x ∧ len ≤ cap ∧ cap ≤ maxLen ∧ zs.length = cap ∧ (∀ i, i < zs.length → w.cell? (x.add i) = some (.int k (zs.getD i 0))) ∧ ∀ n ∈ zs, (Lit.int k n).wf = true
theorem walk (a0 : Option Addr) (len0 cap0 : Nat) (z0 : List Int) (w : World) (w0 : IsRow .i64 w a0 len0 cap0 z0) (y0 : len0 * 8 ≤ 140737488351232) :
    Calls Try.prog 5 #[.slice a0 len0 cap0] w fun e w' => e = .returned (.bool true) ∧ Below w.heap.size w w' := by
  obtain ⟨l0, rfl, hr0, hm0, hw0, hc0⟩ := Go.Proofs.YtkgocbmnjlfkoaaW.PrintWords.ReadsInt.ofRowC w0
  exact M.mustApart_walk a0 cap0 l0 w (Go.Proofs.YtkgocbmnjlfkoaaW.PrintWords.Kd.C_of_reads (d := (0 : Int)) (h1 := fun _ => rfl) hr0) hc0 (by omega)
set_option maxRecDepth 100000 in
theorem lifted (os : Os) (started : os.Started) (H : Type) (enc : TypeId × Value → H) :
    ReturnsInHanded {} Try.checked os 5 .any (Rows.mustApartSpec.pre6 enc Try.prog Try.f5 Rows.mustApartRow.domain false) (Rows.mustApartSpec.post enc Try.prog Try.f5 false true false false) := by
  refine returnsInHanded_of_change_sized (C := Try.checked) own started (by kernel_rfl) Try.func5
    (ChangeSpec.witness6 (enc := enc) (C := Try.checked) false ⟨#[], #[.slice none 0 0], []⟩ 8 (by kernel_rfl) (by kernel_rfl) (by kernel_rfl) (by kernel_rfl)) ?_
  intro W base args ds gs before hval0 hW hcnd hsz0 _
  have hsz : (DataW.weightsEach Try.prog (Try.f5.params.toList ++ Rows.mustApartSpec.plain.varTypes Try.prog) (ds ++ gs)).all (· ≤ reachBytes) = true := hsz0
  have hval : ∀ (j : Nat) t v, Try.f5.params[j]? = some t → args[j]? = some v → Value.okWide Try.prog W .any base t v := hval0
  have hW' := hW
  obtain ⟨p, q, hA0, hV, rfl, hfz, hnd⟩ := hW
  have hA : DataW.TrodAll enc Try.prog W 0 (fun _ => true) true Try.f5.params.toList args.toList ds p := hA0
  rw [Try.params5] at hA hval hsz
  obtain ⟨v0, vs0, d0, ds0, p0, q0, hargs, rfl, rfl, h0, r0⟩ := trodAll_cons hA
  obtain ⟨rfl, rfl, rfl⟩ := trodAll_nil r0
  obtain rfl : args = #[v0] := by cases args; simp_all
  obtain ⟨rfl, rfl⟩ := trodVars_none hV
  obtain ⟨a0, len0, cap0, rfl⟩ := okWide_slice Try.underlying22 (hval 0 22 v0 rfl rfl)
  have k0 := h0
  have lt0 : ∀ x ∈ p0, x.block < W.heap.size := by obtain ⟨m, hm⟩ := k0; exact DataW.trod_lt m _ _ _ hm
  obtain ⟨z0, w0⟩ : ∃ zs, IsRow .i64 W a0 len0 cap0 zs := by
    obtain ⟨fuel, hf⟩ := h0
    rcases open_ints Try.underlying22 Try.underlying3 (by kernel_rfl) hf with ⟨hcs, _⟩ | ⟨x, l, c, zs, hcs, _, hl, hm, hz, _, hcell, hwz⟩
    · simp [Value.cells] at hcs
      obtain ⟨rfl, rfl, rfl⟩ := hcs
      exact ⟨[], .inl ⟨rfl, rfl, rfl, rfl⟩⟩
    · simp [Value.cells] at hcs
      obtain ⟨rfl, rfl, rfl⟩ := hcs
      exact ⟨zs, .inr ⟨_, rfl, hl, hm, by simpa using hz, hcell, hwz⟩⟩
  have y0 : len0 * 8 ≤ 140737488351232 := Go.Proofs.YtkgocbmnjlfkoaaW.PrintWords.sized_ints hsz (j := 0) (t := 22) rfl rfl Try.underlying22 Try.underlying3 (by kernel_rfl) (by kernel_rfl) h0
  clear hA0 hval0 hsz0 hsz
  refine (walk a0 len0 cap0 z0 W w0 y0).mono fun e W' ⟨he, bel⟩ => ?_
  subst he
  exact ⟨_, rfl, _, _, _, [], _, [], hW', trodAll_mk1 (shut_bool Try.underlying4 _), (trodAll_cons_mk (Below.trod laidOut (by kernel_rfl) (of_decide_eq_true (by kernel_rfl)) k0 bel lt0) trodAll_mk0), rfl, bel.frame _, fun h => by cases h⟩
theorem over : Rows.mustApartRow.holds Try.pinned (OpenSpec.ofChange Rows.mustApartSpec) :=
  OpenClaim.holds_of_wide 5 Try.f5 rfl rfl rfl rfl rfl rfl rfl ⟨rfl, rfl, rfl, rfl, rfl⟩ rfl rfl rfl rfl rfl (by kernel_rfl) Try.func5 (by kernel_rfl)
    (of_decide_eq_true (by kernel_rfl)) (by unfold Func.isWrapper; first | (rw [if_pos (by decide +kernel)]; kernel_rfl) | (rw [if_neg (by decide +kernel)]; exact ⟨rfl, rfl⟩))
    (fun os started H enc _ => lifted os started H enc)
theorem proved : Rows.MustApartSaid := over
#print axioms proved
end Go.Proofs.Ytkgocbmnjlfkoaa.mustApart
namespace Go.Proofs.Ytkgocbmnjlfkoaa
theorem mustApart_holds : Rows.MustApartSaid := mustApart.proved
end Go.Proofs.Ytkgocbmnjlfkoaa
end
