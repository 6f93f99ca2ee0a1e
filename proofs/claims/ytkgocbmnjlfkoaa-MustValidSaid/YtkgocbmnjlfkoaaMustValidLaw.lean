/- The Must law on which states are valid holds of the given program for every input. -/
import Derived.Test.YtkgocbmnjlfkoaaMustValidPart3
import Derived.SizedLaws
import Derived.ChangeSlices
import Derived.Test.YtkgocbmnjlfkoaaRows
import Derived.WalkKit
import Derived.ProofKit
import Derived.OpenShut
import Derived.ShutString
import Derived.ChangeOld
import Derived.Below
section
namespace Go.Proofs.Ytkgocbmnjlfkoaa.M
open Go.RowKit Go.Proofs.Ytkgocbmnjlfkoaa.X Go.Proofs.YtkgocbmnjlfkoaaW.PrintWords Go.Proofs.YtkgocbmnjlfkoaaW.PrintLast Go.Proofs.YtkgocbmnjlfkoaaW.PrintMore
set_option linter.unusedVariables false
set_option linter.unusedSimpArgs false
def hitL (S L : Nat) (l : List (List Int)) (m : Nat) : Bool := if S = 0 then false else hitN (l.getD (m / L % S) []) ((m / L : Nat) : Int) (l.getD (m / L % S) []).length
set_option maxHeartbeats 4000000 in
theorem use41b_calls {S W L : Nat} (h : CacheOk S W L) (v : Value) (vs : List Value) (l : List (List Int)) (b m : Nat) (w : World) (hT : T2 w b v vs l) (hb : b ≤ w.heap.size) (hl : l.length = S) (hlw : ∀ x ∈ l, x.length = W) (hm : m ≤ 1073741824) (hdl : m / L ≤ 1048576) :
    Calls Try.prog 41 #[.agg #[.int .i64 S, .int .i64 W, .int .i64 L], .agg #[v], .int .i64 m] w (fun e w' => e = .returned (.bool (hitL S L l m)) ∧ T2 w' b v vs (useL S L l m) ∧ Fr (In2 v vs) w w') := by
  have hW1 := h.w1; have hW4 := h.w4; have hS8 := h.s8; have hL1 := h.l1; have hL8 := h.l8
  have HT := Aside0.mk hT
  have HB0 : Aside0 (Below w.heap.size w ((w.alloc (.cells #[.int .i64 S, .int .i64 W, .int .i64 L] 26)).alloc (.cells #[v] 54))) := ⟨((Below.refl _ _).alloc (Nat.le_refl _) _).alloc (by simp) _⟩
  by_cases hs : S = 0
  · subst hs
    have HU : Aside0 (useL 0 L l m = l) := ⟨if_pos rfl⟩
    clear hT hlw h
    have HL := Aside0.mk hl
    clear hl
    obtain ⟨A, c, rfl, _, _⟩ := HT.out.reads
    go_enter Try.func41, Try.ntmps41
    go_wp2
    go_ret
    exact ⟨rfl, by rw [HU.out]; exact HT.out.fr (S := fun _ => False) (Fr.ofBelow HB0.out) (fun _ _ h => h), Fr.ofBelow HB0.out⟩
  · obtain ⟨A, c, rfl, hc, hr⟩ := hT.reads
    have hns : m / L % S < l.length := by rw [hl]; exact Nat.mod_lt _ (Nat.pos_of_ne_zero hs)
    obtain ⟨ad, A0, c0, rfl, hcell0, hc0, hl0⟩ := C2.get hr hns
    have hlw0 := hlw _ (List.getElem_mem hns)
    have hq1 : Int.tdiv (m : Int) (L : Int) = ((m / L : Nat) : Int) := by rw [Int.tdiv_eq_ediv_of_nonneg (by omega)]; rfl
    have hq2 : (m : Int) / (L : Int) = ((m / L : Nat) : Int) := rfl
    have hq3 : ((m / L : Nat) : Int) % (S : Int) = ((m / L % S : Nat) : Int) := rfl
    have hq4 : Int.tmod ((m / L : Nat) : Int) (S : Int) = ((m / L % S : Nat) : Int) := by rw [Int.tmod_eq_emod_of_nonneg (Int.natCast_nonneg _)]; rfl
    have hcell := pw_cell_below HB0.out hcell0
    have HR0 := Aside0.mk hl0
    have HU : Aside0 (useL S L l m = l.set (m / L % S) (useC l[m / L % S] ((m / L : Nat) : Int))) := ⟨by rw [useL, if_neg hs, getD_lt hns]⟩
    have HHit : Aside0 (hitL S L l m = hitN l[m / L % S] ((m / L : Nat) : Int) l[m / L % S].length) := ⟨by rw [hitL, if_neg hs, getD_lt hns]⟩
    have HL := Aside0.mk hl
    have HLW := Aside0.mk hlw0
    have hl9 : l.length < 9 := by omega
    have hx5 : l[m / L % S].length < 5 := by omega
    have hx0 : 0 < l[m / L % S].length := by omega
    have hg1 : ((S : Int) == 0) = false := beq_eq_false_iff_ne.2 (by omega)
    obtain ⟨gs, rfl, hvs⟩ : ∃ gs, A0 = some ⟨gs, 0, none⟩ ∧ vs.getD (m / L % S) undef = .slice (some ⟨gs, 0, none⟩) l[m / L % S].length c0 := by
      have hlen := hT.len
      rcases hT.open_ with ⟨h1, _⟩ | ⟨g, cap, cur, h1, _⟩
      · cases h1
      · injection h1 with e1 e2 e3
        injection e1 with e1
        subst e1
        have h2 := (hT.cell hns).1
        have h3 : w.cell? ⟨g, m / L % S, none⟩ = some (.slice A0 l[m / L % S].length c0) := by
          rw [show (⟨g, 0, none⟩ : Addr).add (m / L % S) = ⟨g, m / L % S, none⟩ by unfold Addr.add; split <;> simp [*]] at hcell0
          exact hcell0
        rw [h3] at h2
        injection h2 with h2
        have h4 := hT.el (m / L % S) (by omega)
        rw [← h2, getD_lt hns] at h4
        rcases h4.open_ with ⟨_, h5⟩ | ⟨gs, _, _, h5, _⟩
        · rw [h5] at hx0; exact absurd hx0 (by simp)
        · injection h5 with h5 _ _
          subst h5
          exact ⟨gs, rfl, h2.symm⟩
    have hx1 := hT.el (m / L % S) (by have := hT.len; omega)
    rw [hvs, getD_lt hns] at hx1
    have HX := Aside0.mk hx1
    have HVS := Aside0.mk hvs
    clear hl hlw hlw0 hl0 hr h hT hcell0 hx1 hvs HR0
    generalize l[m / L % S] = x at *
    generalize m / L % S = s at *
    generalize m / L = n at *
    go_enter Try.func41, Try.ntmps41
    go_wp2
    go_quiet (fail)
    have HBQ : Aside0 (Below w.heap.size w (((w.alloc (.cells #[.int .i64 S, .int .i64 W, .int .i64 L] 26)).alloc (.cells #[.slice (some ad) l.length c] 54)).drewN nq)) := ⟨pw_below_drewN HB0.out nq⟩
    clear hcell HB0
    generalize ((w.alloc (.cells #[.int .i64 S, .int .i64 W, .int .i64 L] 26)).alloc (.cells #[.slice (some ad) l.length c] 54)).drewN nq = W2 at *
    have HX2 : Aside0 (T1 W2 b (.slice (some ⟨gs, 0, none⟩) x.length c0) x) := ⟨HX.out.fr (S := fun _ => False) (Fr.ofBelow HBQ.out) (fun _ _ h => h)⟩
    have hat0 : ((x.length : Int) - 1) = ((atN x n 0 : Nat) : Int) := by rw [atN]; omega
    have HAT0 := Aside0.mk hat0
    clear hat0
    go_wp2
    go_loopw [9, 10, 11] (fun v9 v10 v11 wr => ∃ i : Nat, i ≤ x.length ∧ v9 = .int .i64 (atN x n i : Nat) ∧ v10 = .bool (hitN x n i) ∧ v11 = .int .i64 i ∧ W2 = wr) (fun _ _ v11 _ => x.length - (RowKit.intOf v11).toNat)
    case atStart => exact ⟨0, Nat.zero_le _, by rw [HAT0.out], rfl, rfl, rfl⟩
    case round =>
      clear HAT0
      obtain ⟨i, hi, rfl, rfl, rfl, rfl⟩ := hrel
      by_cases hlt : i < x.length
      · obtain ⟨hcx, hfx⟩ := HX2.out.cell hlt
        clear hfx
        by_cases he : x.getD i 0 = (n : Int)
        · have HA : Aside0 (atN x n (i + 1) = i ∧ hitN x n (i + 1) = true) := ⟨by rw [atN, if_pos he], by rw [hitN, if_pos he]⟩
          have g1 : (x.getD i 0 == (n : Int)) = true := beq_iff_eq.2 he
          clear he
          generalize x.getD i 0 = y at *
          go_wp2
          go_roundw
          case rel => exact ⟨i + 1, hlt, by rw [HA.out.1], by rw [HA.out.2], by go_num, trivial⟩
          case measure => simp [RowKit.intOf]; omega
        · have HA : Aside0 (atN x n (i + 1) = atN x n i ∧ hitN x n (i + 1) = hitN x n i) := ⟨by rw [atN, if_neg he], by rw [hitN, if_neg he]⟩
          have g1 : (x.getD i 0 == (n : Int)) = false := beq_eq_false_iff_ne.2 he
          clear he
          generalize x.getD i 0 = y at *
          go_wp2
          go_roundw
          case rel => exact ⟨i + 1, hlt, by rw [HA.out.1], by rw [HA.out.2], by go_num, trivial⟩
          case measure => simp [RowKit.intOf]; omega
      · obtain rfl : i = x.length := by omega
        have hal := atN_lt (n : Int) hx0 x.length (Nat.le_refl _)
        have HS0 : Aside0 (T1 W2 b (.slice (some ⟨gs, 0, none⟩) x.length c0) (shJ x (atN x n x.length) (atN x n x.length)) ∧ Fr (fun k => k = gs) W2 W2) := ⟨by rw [shJ_start]; exact HX2.out, Fr.refl _ _⟩
        have HUC : Aside0 (useC x n = (shJ x (atN x n x.length) 0).set 0 n) := ⟨rfl⟩
        generalize atN x n x.length = a at *
        generalize hitN x n x.length = hh at *
        go_wp2
        go_loopw [12] (fun v12 wr => ∃ j : Nat, j ≤ a ∧ v12 = .int .i64 j ∧ Aside0 (T1 wr b (.slice (some ⟨gs, 0, none⟩) x.length c0) (shJ x a j) ∧ Fr (fun k => k = gs) W2 wr)) (fun v12 _ => (RowKit.intOf v12).toNat)
        case atStart => exact ⟨a, Nat.le_refl _, rfl, HS0⟩
        case round =>
          clear HS0
          obtain ⟨j, hj, rfl, HJ⟩ := hrel
          by_cases hj0 : 0 < j
          · obtain ⟨j, rfl⟩ : ∃ k, j = k + 1 := ⟨j - 1, by omega⟩
            obtain ⟨c1, f1⟩ := HJ.out.1.cell (i := j) (by rw [shJ_length]; omega)
            obtain ⟨c2, f2⟩ := HJ.out.1.cell (i := j + 1) (by rw [shJ_length]; omega)
            have HN : Aside0 (T1 (wr.setCell ⟨gs, j + 1, none⟩ (.int .i64 ((shJ x a (j + 1)).getD j 0))) b (.slice (some ⟨gs, 0, none⟩) x.length c0) (shJ x a j) ∧ Fr (fun k => k = gs) W2 (wr.setCell ⟨gs, j + 1, none⟩ (.int .i64 ((shJ x a (j + 1)).getD j 0)))) := ⟨by rw [← shJ_step hj hal]; exact HJ.out.1.set _, HJ.out.2.trans (Fr.set _ rfl)⟩
            clear HJ f1
            generalize (shJ x a (j + 1)).getD j 0 = y at *
            generalize (shJ x a (j + 1)).getD (j + 1) 0 = z at *
            go_wp2
            go_roundw
            case rel => exact ⟨j, by omega, by go_num, HN⟩
            case measure => simp [RowKit.intOf]
          · obtain rfl : j = 0 := by omega
            obtain ⟨c2, f2⟩ := HJ.out.1.cell (i := 0) (by rw [shJ_length]; omega)
            generalize (shJ x a 0).getD 0 0 = z at *
            go_wp2
            go_ret
            have h1 : T1 (wr.setCell ⟨gs, 0, none⟩ (.int .i64 n)) b (.slice (some ⟨gs, 0, none⟩) x.length c0) (useC x n) := by rw [HUC.out]; exact HJ.out.1.set _
            have h2 : Fr (fun k => k = gs) W2 (wr.setCell ⟨gs, 0, none⟩ (.int .i64 n)) := HJ.out.2.trans (Fr.set _ rfl)
            have h3 : T2 W2 b (.slice (some ad) l.length c) vs l := HT.out.fr (S := fun _ => False) (Fr.ofBelow HBQ.out) (fun _ _ h => h)
            refine ⟨by rw [HHit.out]; rfl, by rw [HU.out]; exact h3.setRow hns HVS.out h1 h2, (Fr.ofBelow HBQ.out).trans (h2.mono (fun k hk => .inr ⟨s, by rw [HT.out.len]; exact hns, ?_⟩))⟩
            rw [HVS.out, hk]
            rfl
theorem copy22_l {l : List (List Int)} (hl : l.length < 1073741824) (hx : ∀ x ∈ l, x.length < 1073741824) : ∀ j i : Nat, i + j = l.length → Ev (fun k => timeboundref22_Copy.l0 k i l (l.take i)) l
  | 0, i, hi => by
    refine Ev.step (fun k => by rw [timeboundref22_Copy.l0]) ?_
    rw [List.take_of_length_le (by omega)]
    exact evn (by omega) (evr _)
  | j + 1, i, hi => by
    have hil : i < l.length := by omega
    have h1 := hx _ (List.getElem_mem hil)
    refine Ev.step (fun k => by rw [timeboundref22_Copy.l0]) ?_
    simp only [rdL1 hil, Option.bind_some, List.nil_append]
    have hlt : (l.take i).length = i := by rw [List.length_take]; omega
    refine evp (by omega) (evp (by omega) (evp (by simp; omega) (evp (by rw [hlt]; omega) ?_)))
    rw [w64 (by omega) (by omega), ← List.take_succ_eq_append_getElem hil]
    exact copy22_l hl hx j (i + 1) (by omega)
theorem copy40_calls (A : Option Addr) (c : Nat) (l : List (List Int)) (w : World) (hr : C2 w A l) (hc : l.length ≤ c) (hl : l.length < 1073741824) (hx : ∀ x ∈ l, x.length < 1073741824) :
    Calls Try.prog 40 #[.agg #[.slice A l.length c]] w fun e w' => ∃ v vs, e = .returned (.agg #[v]) ∧ T2 w' w.heap.size v vs l ∧ Below w.heap.size w w' := by
  obtain ⟨k, hk0⟩ := copy22_l hl hx l.length 0 (by omega)
  have hk := hk0 k (Nat.le_refl _)
  refine (timeboundref22_Copy.calls k A c l l w hr hc hk).mono ?_
  rintro e w' ⟨v, rfl, hS, hb⟩
  obtain ⟨vs, hT⟩ := S_T2 hS
  exact ⟨v, vs, rfl, hT, hb⟩
end Go.Proofs.Ytkgocbmnjlfkoaa.M
end
section
namespace Go.Proofs.Ytkgocbmnjlfkoaa.M
open Go.RowKit Go.Proofs.Ytkgocbmnjlfkoaa.X Go.Proofs.YtkgocbmnjlfkoaaW.PrintWords Go.Proofs.YtkgocbmnjlfkoaaW.PrintLast Go.Proofs.YtkgocbmnjlfkoaaW.PrintMore
set_option linter.unusedVariables false
set_option linter.unusedSimpArgs false
theorem T2.store {w w0 w3 : World} {b g cap n a : Nat} {vs : List Value} {s : List (List Int)} {u : Value} {ys : List Int} (h : T2 w b (.slice (some ⟨g, 0, none⟩) n cap) vs s) (ha : a < s.length) (h0 : Below w.heap.size w w0)
    (k1 : T1 w3 b u ys) (k2 : w0.grownBy w3 (vs.getD a undef).ownBlock) (k3 : u.ownBlock = (vs.getD a undef).ownBlock ∨ ∃ k, u.ownBlock = some k ∧ w.heap.size ≤ k) :
    w3.cell? ⟨g, a, none⟩ = some (vs.getD a undef) ∧ w3.frozen? ⟨g, a, none⟩ = false ∧ PutR w b (.slice (some ⟨g, 0, none⟩) n cap) vs (s.set a ys) (.returned (.tuple #[])) (w3.setCell ⟨g, a, none⟩ u) := by
  have hlen := h.len
  obtain ⟨hcell, hfro⟩ := h.cell ha
  obtain ⟨cur, hg⟩ := own_typed h.own g rfl
  have hgw := blk_lt hg
  have f0 : Fr (In2 (.slice (some ⟨g, 0, none⟩) n cap) vs) w w0 := Fr.ofBelow h0
  have f1 : Fr (In2 (.slice (some ⟨g, 0, none⟩) n cap) vs) w w3 := f0.trans ((Fr.grown k2).mono (fun k hk => .inr ⟨a, by omega, hk⟩))
  have hsz : w.heap.size ≤ w0.heap.size := h0.size
  have hold : ∀ k, k < w.heap.size → (vs.getD a undef).ownBlock ≠ some k → w3.heap[k]? = w.heap[k]? := fun k hk hn =>
    (k2.block k (by omega) (fun e => hn e.symm)).trans (h0.block k hk)
  have hgb : w3.heap[g]? = some (.cells cur 22 (0, 0)) := (hold g hgw (fun e => h.ne (by omega) e rfl)).trans hg
  have hT : ∀ j, j < vs.length → j ≠ a → T1 w3 b (vs.getD j undef) (s.getD j []) := fun j hj hja => (h.el j hj).keep (fun k hk => hold k ((h.el j hj).lt hk).2 (fun e => by
    rcases Nat.lt_or_gt_of_ne hja with hlt | hgt
    · rcases h.apart j a hlt (by omega) with h3 | h3
      · rw [h3] at hk; cases hk
      · exact h3 (hk.trans e.symm)
    · rcases h.apart a j hgt hj with h3 | h3
      · rw [h3] at e; cases e
      · exact h3 (e.trans hk.symm)))
  have hap : ∀ j, j < vs.length → j ≠ a → u.ownBlock = none ∨ u.ownBlock ≠ (vs.getD j undef).ownBlock := fun j hj hja => by
    rcases k3 with k3 | ⟨k, k3, k4⟩
    · rw [k3]
      rcases Nat.lt_or_gt_of_ne hja with hlt | hgt
      · rcases h.apart j a hlt (by omega) with h3 | h3
        · cases hv : (vs.getD a undef).ownBlock with
          | none => exact .inl rfl
          | some k => exact .inr (by rw [h3]; simp)
        · exact .inr (Ne.symm h3)
      · exact h.apart a j hgt hj
    · refine .inr (fun e => ?_)
      have := ((h.el j hj).lt (e.symm.trans k3)).2
      omega
  have hcell3 : w3.cell? ⟨g, a, none⟩ = some (vs.getD a undef) := by
    rw [← hcell]
    exact World.cell?_of_block (w := w) (hgb.trans hg.symm)
  have hn : n = vs.length := own_len h.own
  have h2 : T2 (w3.setCell ⟨g, a, none⟩ u) b (.slice (some ⟨g, 0, none⟩) n cap) (vs.set a u) (s.set a ys) := by
    have ho : w3.ownsRow b 22 1 (.slice (some ⟨g, 0, none⟩) n cap) vs.length vs := own_move h.own (fun k hk => by
      have : g = k := by simpa [Value.ownBlock] using hk
      subst this
      exact hgb.trans hg.symm)
    have hs3 := World.ownsRow.stored (by rw [← hn] at ho; exact ho) a u
    have hgx : ∀ k, k ≠ g → (w3.setCell ⟨g, a, none⟩ u).heap[k]? = w3.heap[k]? := fun k hk => Below.heap_setCell w3 _ u k hk
    refine ⟨by rw [List.length_set, ← hn]; exact hs3.1, by simpa using hlen, ?_, ?_⟩
    · intro j hj
      rw [List.length_set] at hj
      rw [getD_set _ _ _ _ (by omega), getD_set _ _ _ _ ha]
      split
      · refine k1.keep (fun k hk => hgx k (fun e => ?_))
        obtain ⟨c1, e1⟩ := k1.typed hk
        rw [e, hgb] at e1
        injection e1 with e1
        injection e1 with _ e1
        cases e1
      · rename_i hne
        exact (hT j hj (Ne.symm hne)).keep (fun k hk => hgx k (fun e => h.ne hj hk (by rw [e]; rfl)))
    · intro j l hjl hl'
      rw [List.length_set] at hl'
      rw [getD_set _ _ _ _ (by omega), getD_set _ _ _ _ (by omega)]
      split
      · rename_i e1
        subst e1
        rw [if_neg (by omega)]
        exact hap l hl' (by omega)
      · split
        · rename_i e1 e2
          subst e2
          rcases hap j (by omega) (by omega) with h3 | h3
          · cases hv : (vs.getD j undef).ownBlock with
            | none => exact .inl rfl
            | some k => exact .inr (by rw [h3]; simp)
          · exact .inr (Ne.symm h3)
        · exact h.apart j l hjl hl'
  refine ⟨hcell3, (World.frozen?_of_block (w := w) (hgb.trans hg.symm)).trans hfro, rfl, vs.set a u, h2, List.length_set, f1.trans (Fr.set u (.inl rfl)), fun i hi k hk => ?_⟩
  rw [getD_set _ _ _ _ (by omega)] at hk
  split at hk
  · rcases k3 with k3 | ⟨k', k3, k4⟩
    · exact .inl (.inr ⟨a, by omega, k3 ▸ hk⟩)
    · rw [k3] at hk
      injection hk with hk
      exact .inr (by omega)
  · exact .inl (.inr ⟨i, hi, hk⟩)
theorem T1.snoc {w0 w3 : World} {b g' cap n : Nat} {v : Value} {xs : List Int} {y : Int} (ho : w3.ownsRow b 3 1 (.slice (some ⟨g', 0, none⟩) n cap) n (nums .i64 xs ++ [.int .i64 y])) : T1 w3 b (.slice (some ⟨g', 0, none⟩) n cap) (xs ++ [y]) := by
  have hn : n = (xs ++ [y]).length := by
    have := own_one ho
    simp [nums] at this ⊢
    omega
  unfold T1
  rw [hn] at ho
  rw [show nums .i64 (xs ++ [y]) = nums .i64 xs ++ [.int .i64 y] by simp [nums], hn]
  exact ho
theorem Jn.store {w wr w0 w3 : World} {g n cap i a gs m c : Nat} {X : List (List (List Int))} {L : List (Nat × Array Value × Nat)} {u A4 : Value} {ys : List Int} (h : Jn w wr (.slice (some ⟨g, 0, none⟩) n cap) X L) (hi : i < X.length)
    (hcell : wr.cell? ⟨g, i, none⟩ = some (.slice (some ⟨gs, 0, none⟩) m c)) (ha : a < (X.getD i []).length) (hc4 : wr.cell? ⟨gs, a, none⟩ = some A4) (h0 : Below wr.heap.size wr w0)
    (hu : T1 w3 w.heap.size u ys) (k2 : w0.grownBy w3 A4.ownBlock) (k3 : u.ownBlock = A4.ownBlock ∨ ∃ k, u.ownBlock = some k ∧ wr.heap.size ≤ k) :
    w3.frozen? ⟨gs, a, none⟩ = false ∧ w3.cell? ⟨gs, a, none⟩ = some A4 ∧ w3.cell? ⟨g, i, none⟩ = wr.cell? ⟨g, i, none⟩ ∧ Jn w (w3.setCell ⟨gs, a, none⟩ u) (.slice (some ⟨g, 0, none⟩) n cap) (X.set i ((X.getD i []).set a ys)) L := by
  obtain ⟨vs, uss, hT, hB⟩ := h.und
  obtain ⟨h5, h6⟩ := hT.cell hi
  rw [hcell] at h5
  injection h5 with h5
  have h2 := hT.el i hi
  rw [← h5] at h2
  have h7 := (h2.cell ha).1
  rw [hc4] at h7
  injection h7 with h7
  have hT1 := h2.el a (by have := h2.len; omega)
  rw [← h7] at hT1
  obtain ⟨j1, j2, _, vs', k4, k5, k6, k7⟩ := T2.store h2 ha h0 hu (by rw [← h7]; exact k2) (by rw [← h7]; exact k3)
  obtain ⟨cg, hcg⟩ := own_typed hT.own g rfl
  have hgk : w3.heap[g]? = wr.heap[g]? := (k2.block g (by have := blk_lt hcg; have := h0.size; omega) (fun e => by
    obtain ⟨c1, e1⟩ := hT1.typed e.symm
    rw [hcg] at e1
    injection e1 with e1
    injection e1 with _ e1
    cases e1)).trans (h0.block g (blk_lt hcg))
  refine ⟨j2, by rw [j1, ← h7], World.cell?_of_block hgk, ⟨vs, uss.set i vs', hT.upd hi (by rw [← h5]; exact k4) (by rw [← h5]; exact k6) (by
    rw [← h5]
    rintro k (hk | ⟨j, hj, hk⟩)
    · exact .inl (.inl hk)
    · exact k7 j (by omega) k hk), hB.trans (k6.below hB.size (fun k hk => (h2.lt hk).1))⟩, fun p hp => ?_⟩
  obtain ⟨b1, b2⟩ := h.box p hp
  refine ⟨(k6.block _ (blk_lt b1) (fun hk => ?_)).trans b1, b2⟩
  obtain ⟨c1, e1, h0, h1⟩ := In2.typed h2 hk
  rw [b1] at h1
  injection h1 with h1
  injection h1 with _ h1
  rcases h0 with rfl | rfl
  · exact b2.2.1 h1
  · exact b2.2.2 h1
theorem Jn.elem {w wr : World} {g n cap i a gs m c : Nat} {X : List (List (List Int))} {L : List (Nat × Array Value × Nat)} {A4 : Value} (h : Jn w wr (.slice (some ⟨g, 0, none⟩) n cap) X L) (hi : i < X.length)
    (hcell : wr.cell? ⟨g, i, none⟩ = some (.slice (some ⟨gs, 0, none⟩) m c)) (ha : a < (X.getD i []).length) (hc4 : wr.cell? ⟨gs, a, none⟩ = some A4) : T1 wr w.heap.size A4 ((X.getD i []).getD a []) := by
  obtain ⟨vs, uss, hT, hB⟩ := h.und
  obtain ⟨h5, h6⟩ := hT.cell hi
  rw [hcell] at h5
  injection h5 with h5
  have h2 := hT.el i hi
  rw [← h5] at h2
  have h7 := (h2.cell ha).1
  rw [hc4] at h7
  injection h7 with h7
  have hT1 := h2.el a (by have := h2.len; omega)
  rwa [← h7] at hT1
theorem aof_start {w w1 : World} {v va c0 c1 c2 : Value} {vs : List Value} {us : List (List Value)} {x : List (List (List Int))}
    (hb : Below ((w.alloc (.cells #[c0, c1, c2] 26)).alloc (.cells #[va] 54)).heap.size ((w.alloc (.cells #[c0, c1, c2] 26)).alloc (.cells #[va] 54)) w1)
    (hT : T3 w1 ((w.alloc (.cells #[c0, c1, c2] 26)).alloc (.cells #[va] 54)).heap.size v vs us x) :
    Jn w w1 v x [(w.heap.size, #[c0, c1, c2], 26), (w.heap.size + 1, #[va], 54)] := by
  obtain ⟨k1, k2⟩ := two_box hb
  have h0 : Below w.heap.size w ((w.alloc (.cells #[c0, c1, c2] 26)).alloc (.cells #[va] 54)) := ((Below.refl _ _).alloc (Nat.le_refl _) _).alloc (by simp) _
  refine ⟨⟨_, _, hT.lower h0.size, h0.trans (hb.mono h0.size)⟩, fun p hp => ?_⟩
  simp only [List.mem_cons, List.not_mem_nil, or_false] at hp
  rcases hp with rfl | rfl
  · exact ⟨k1, (by decide : (26 : Nat) ≠ 43 ∧ (26 : Nat) ≠ 22 ∧ (26 : Nat) ≠ 3)⟩
  · exact ⟨k2, (by decide : (54 : Nat) ≠ 43 ∧ (54 : Nat) ≠ 22 ∧ (54 : Nat) ≠ 3)⟩
set_option maxHeartbeats 4000000 in
theorem aof_calls {S W L : Nat} (h : CacheOk S W L) (A : Option Addr) (c : Nat) (l : List (List Int)) (w : World) (hl : l.length = S) (hlw : ∀ x ∈ l, x.length = W) (hr : C2 w A l) (hc : l.length ≤ c) :
    Calls Try.prog 80 #[.agg #[.int .i64 S, .int .i64 W, .int .i64 L], .agg #[.slice A l.length c]] w (New3 w (ofM S W l)) := by
  have hW1 := h.w1; have hW4 := h.w4; have hS8 := h.s8
  have htop := Aside0.mk (top_calls h ((w.alloc (.cells #[.int .i64 S, .int .i64 W, .int .i64 L] 26)).alloc (.cells #[.slice A l.length c] 54)))
  have HB0 : Aside0 (Below w.heap.size w ((w.alloc (.cells #[.int .i64 S, .int .i64 W, .int .i64 L] 26)).alloc (.cells #[.slice A l.length c] 54))) := ⟨((Below.refl _ _).alloc (Nat.le_refl _) _).alloc (by simp) _⟩
  have HA := Aside0.mk hr
  have HLW := Aside0.mk hlw
  have HLS := Aside0.mk hl
  have hl9 : l.length < 9 := by rw [hl]; omega
  have hts : (top S W).length < 9 := by simp [top]; omega
  clear hr hlw hl h
  go_enter Try.func80, Try.ntmps80
  go_wp2_with (first | (go_at_call 65; refine htop.out.mono ?_; rintro e w1 ⟨v1, vs1, us1, rfl, hT, hb⟩; obtain ⟨A1, c1, rfl, _, _⟩ := hT.reads; have HJ := Aside0.mk (aof_start hb hT); obtain ⟨k1, k2⟩ := two_box hb; obtain ⟨q2, f2⟩ := cz1' k2; clear k1 k2 hb hT f2))
  obtain ⟨LL, hLL⟩ : ∃ LL : List (Nat × Array Value × Nat), LL = [(w.heap.size, #[.int .i64 S, .int .i64 W, .int .i64 L], 26), (w.heap.size + 1, #[.slice A l.length c], 54)] := ⟨_, rfl⟩
  rw [← hLL] at HJ
  have HTL := Aside0.mk (show (top S W).length = S by simp [top])
  clear hLL q2 htop
  generalize (top S W).length = tl at *
  rw [← ofN_zero S W l] at HJ
  go_loopw [15] (fun v15 wr => ∃ s : Nat, s ≤ l.length ∧ v15 = .int .i64 s ∧ Aside0 (Jn w wr (.slice A1 tl c1) (ofN S W l s) LL)) (fun v15 _ => l.length - (RowKit.intOf v15).toNat)
  case atStart => exact ⟨0, Nat.zero_le _, rfl, HJ⟩
  case round =>
    clear HJ
    obtain ⟨s, hs, rfl, HJ⟩ := hrel
    by_cases hlt : s < l.length
    · have hsS : s < S := by rw [← HLS.out]; exact hlt
      obtain ⟨ad, A0, c0, rfl, hcell0, hc0, hl0⟩ := C2.get HA.out hlt
      have hxl := HLW.out _ (List.getElem_mem hlt)
      have hcell := pw_cell_below HJ.out.bel hcell0
      have HLx := Aside0.mk hl0
      have HNs : Aside0 ((ofN S W l s).set s (ofR l[s] W W) = ofN S W l (s + 1)) := ⟨by have := ofN_set (W := W) l hsS; rwa [getD_lt hlt, ofS] at this⟩
      have HJ1 : Aside0 (Jn w wr (.slice A1 tl c1) ((ofN S W l s).set s (ofR l[s] W 0)) LL) := ⟨by have := ofN_at (W := W) l hsS; rw [getD_lt hlt] at this; rw [this]; exact HJ.out⟩
      have HJl : Aside0 ((ofN S W l s).length = S) := ⟨ofN_length S W l s⟩
      obtain ⟨g1, hg1⟩ : ∃ g1, A1 = some ⟨g1, 0, none⟩ := by
        obtain ⟨vs, uss, hT, hB⟩ := HJ.out.und
        rcases hT.open_ with ⟨_, _, h0⟩ | ⟨g1, cap, cur, h1, _⟩
        · have := congrArg List.length h0
          rw [ofN_length] at this
          simp at this
          omega
        · injection h1 with h1
          exact ⟨g1, h1⟩
      subst hg1
      have hstl : s < tl := by rw [HTL.out]; exact hsS
      have HXL := Aside0.mk hxl
      have hx9 : l[s].length < 5 := by omega
      clear hl0 hcell0 HJ hxl
      generalize l[s] = x at *
      generalize ofN S W l s = J at *
      obtain ⟨wo, rfl⟩ : ∃ wo : World, wo = wr := ⟨_, rfl⟩
      go_wp2
      go_loopw [22] (fun v22 wr => ∃ a : Nat, a ≤ x.length ∧ v22 = .int .i64 a ∧ Aside0 (Jn w wr (.slice (some ⟨g1, 0, none⟩) tl c1) (J.set s (ofR x W a)) LL)) (fun v22 _ => x.length - (RowKit.intOf v22).toNat)
      case atStart => exact ⟨0, Nat.zero_le _, rfl, HJ1⟩
      case round =>
        clear HJ1 hcell
        obtain ⟨a, ha, rfl, HJ⟩ := hrel
        by_cases hal : a < x.length
        · have haW : a < W := by rw [← HXL.out]; exact hal
          obtain ⟨ad2, rfl, hcell2⟩ := C1.get (Kd.C_below HLx.out HJ.out.bel) hal
          have hxa : x.getD a 0 = x[a] := getD_lt hal
          by_cases hpos : 0 ≤ x[a]
          · have g1' : decide ((0 : Int) ≤ x[a]) = true := decide_eq_true hpos
            have g2' : decide ((s : Int) < (tl : Int)) = true := decide_eq_true (by omega)
            have g3' : decide ((a : Int) < (W : Int)) = true := decide_eq_true (by omega)
            have HM : Aside0 ((ofR x W a).set a [x[a]] = ofR x W (a + 1)) := ⟨by have := ofR_yes haW (x := x) (by rw [hxa]; exact hpos); rwa [hxa] at this⟩
            have hrow : (J.set s (ofR x W a)).getD s [] = ofR x W a := getD_set_eq _ _ _ (by rw [HJl.out]; exact hsS)
            have hsj : s < (J.set s (ofR x W a)).length := by rw [List.length_set, HJl.out]; exact hsS
            have hnil : (ofR x W a).getD a [] = [] := by
              rw [getD_lt (by rw [ofR_length]; exact haW)]
              simp [ofR]
            obtain ⟨gs, cs, hch, hgsg, hgsL, hgL⟩ := HJ.out.head hsj (by rw [hrow, ofR_length]; omega)
            rw [hrow, ofR_length] at hch
            obtain ⟨⟨u4, A4, m4, c4, hcu, rfl, hT4⟩, hfu⟩ := HJ.out.und.cell2 hsj hch (by rw [hrow, ofR_length]; exact haW)
            have hT0 := HJ.out.elem hsj hch (by rw [hrow, ofR_length]; exact haW) hcu
            rw [hrow, hnil] at hT0 hT4
            obtain rfl : m4 = 0 := hT4.1.symm
            have HOWN : Aside0 (∀ w1, Below wr.heap.size wr w1 → w1.ownsRow w.heap.size 3 1 (.slice A4 0 c4) 0 []) := ⟨fun w1 hb => hT0.keep (fun k hk => hb.block k (hT0.lt hk).2)⟩
            have HST : Aside0 (∀ w0 w3 g' cap', Below wr.heap.size wr w0 → w3.ownsRow w.heap.size 3 1 (.slice (some ⟨g', 0, none⟩) 1 cap') 1 [.int .i64 x[a]] → w0.grownBy w3 (Value.slice A4 0 c4).ownBlock → ((Value.slice A4 0 c4).ownBlock = some g' ∨ wr.heap.size ≤ g') →
                w3.frozen? ⟨gs, a, none⟩ = false ∧ w3.cell? ⟨gs, a, none⟩ = some (.slice A4 0 c4) ∧ w3.cell? ⟨g1, s, none⟩ = some (.slice (some ⟨gs, 0, none⟩) W cs) ∧ Jn w (w3.setCell ⟨gs, a, none⟩ (.slice (some ⟨g', 0, none⟩) 1 cap')) (.slice (some ⟨g1, 0, none⟩) tl c1) (J.set s (ofR x W (a + 1))) LL) := ⟨fun w0 w3 g' cap' h0 ho hg hlie => by
              have := HJ.out.store (u := .slice (some ⟨g', 0, none⟩) 1 cap') (ys := [x[a]]) hsj hch (by rw [hrow, ofR_length]; exact haW) hcu h0 (T1.snoc (v := .slice A4 0 c4) (xs := []) (w0 := w0) ho) hg (by
                rcases hlie with h1 | h1
                · exact .inl (h1 ▸ rfl)
                · exact .inr ⟨g', rfl, h1⟩)
              rw [hrow, set_twice, HM.out, hch] at this
              exact this⟩
            have HB1 : Aside0 (Below wr.heap.size wr (wr.alloc (.cells #[.int .i64 x[a]] 3)).drew) := ⟨((Below.refl _ _).alloc (Nat.le_refl _) _).drew⟩
            have HSZ : Aside0 (w.heap.size ≤ wr.heap.size) := ⟨HJ.out.bel.size⟩
            clear hrow HM hpos hfu HJ hxa hT0 hT4 hnil hgsg hgsL hgL
            generalize x[a] = y at *
            go_upto_region 9 with (fail)
            refine HeldTill.begin_ (S := fun (w' : World) => w'.cell? ⟨g1, s, none⟩ = some (.slice (some ⟨gs, 0, none⟩) W cs) ∧ w'.cell? ⟨gs, a, none⟩ = some (.slice A4 0 c4)) (F := fun j => j != 16) (by kernel_rfl) ?_
            have hSq0 : (fun (w' : World) => w'.cell? ⟨g1, s, none⟩ = some (.slice (some ⟨gs, 0, none⟩) W cs) ∧ w'.cell? ⟨gs, a, none⟩ = some (.slice A4 0 c4)) wr.drew := ⟨hch, hcu⟩
            refine HeldTill.take (i := 0) (n := 16) (v := ?_) rfl (by kernel_rfl) (by kernel_rfl) (by kernel_rfl) (by kernel_rfl) (fun _ _ _ h => h) (Or.inl ⟨by rfl, ?_⟩) hSq0 ?_
            rotate_left
            · intro w hSw; (try dsimp only at hSw); go_simp; (try with_reducible rfl)
            simp only [Act.put, List.setIfInBounds_toArray, List.set_cons_zero, List.set_cons_succ, List.getElem_toArray, List.getElem_cons_zero, List.getElem_cons_succ]
            refine HeldTill.take (i := 1) (n := 15) (v := ?_) rfl (by kernel_rfl) (by kernel_rfl) (by kernel_rfl) (by kernel_rfl) (fun _ _ _ h => h) (Or.inl ⟨by rfl, ?_⟩) hSq0 ?_
            rotate_left
            · intro w hSw; (try dsimp only at hSw); go_simp; (try with_reducible rfl)
            simp only [Act.put, List.setIfInBounds_toArray, List.set_cons_zero, List.set_cons_succ, List.getElem_toArray, List.getElem_cons_zero, List.getElem_cons_succ]
            refine HeldTill.take (i := 2) (n := 14) (v := ?_) rfl (by kernel_rfl) (by kernel_rfl) (by kernel_rfl) (by kernel_rfl) (fun _ _ _ h => h) (Or.inl ⟨by rfl, ?_⟩) hSq0 ?_
            rotate_left
            · intro w hSw; (try dsimp only at hSw); go_simp; (try with_reducible rfl)
            simp only [Act.put, List.setIfInBounds_toArray, List.set_cons_zero, List.set_cons_succ, List.getElem_toArray, List.getElem_cons_zero, List.getElem_cons_succ]
            refine HeldTill.take (i := 3) (n := 13) (v := ?_) rfl (by kernel_rfl) (by kernel_rfl) (by kernel_rfl) (by kernel_rfl) (fun _ _ _ h => h) (Or.inl ⟨by rfl, ?_⟩) hSq0 ?_
            rotate_left
            · intro w hSw; (try dsimp only at hSw); go_simp; (try with_reducible rfl)
            simp only [Act.put, List.setIfInBounds_toArray, List.set_cons_zero, List.set_cons_succ, List.getElem_toArray, List.getElem_cons_zero, List.getElem_cons_succ]
            refine HeldTill.take (i := 4) (n := 12) (v := ?_) rfl (by kernel_rfl) (by kernel_rfl) (by kernel_rfl) (by kernel_rfl) (fun _ _ _ h => h) (Or.inl ⟨by rfl, ?_⟩) hSq0 ?_
            rotate_left
            · intro w hSw; (try dsimp only at hSw); go_simp; (try with_reducible rfl)
            simp only [Act.put, List.setIfInBounds_toArray, List.set_cons_zero, List.set_cons_succ, List.getElem_toArray, List.getElem_cons_zero, List.getElem_cons_succ]
            refine HeldTill.take (i := 5) (n := 11) (v := ?_) rfl (by kernel_rfl) (by kernel_rfl) (by kernel_rfl) (by kernel_rfl) (fun _ _ _ h => h) (Or.inl ⟨by rfl, ?_⟩) hSq0 ?_
            rotate_left
            · intro w hSw; (try dsimp only at hSw); go_simp; (try with_reducible rfl)
            simp only [Act.put, List.setIfInBounds_toArray, List.set_cons_zero, List.set_cons_succ, List.getElem_toArray, List.getElem_cons_zero, List.getElem_cons_succ]
            refine HeldTill.take (i := 6) (n := 10) (v := ?_) rfl (by kernel_rfl) (by kernel_rfl) (by kernel_rfl) (by kernel_rfl) (fun _ _ _ h => h) (Or.inl ⟨by rfl, ?_⟩) hSq0 ?_
            rotate_left
            · intro w hSw; (try dsimp only at hSw); go_simp; (try with_reducible rfl)
            simp only [Act.put, List.setIfInBounds_toArray, List.set_cons_zero, List.set_cons_succ, List.getElem_toArray, List.getElem_cons_zero, List.getElem_cons_succ]
            refine HeldTill.take (i := 7) (n := 9) (v := ?_) rfl (by kernel_rfl) (by kernel_rfl) (by kernel_rfl) (by kernel_rfl) (fun _ _ _ h => h) (Or.inl ⟨by rfl, ?_⟩) hSq0 ?_
            rotate_left
            · intro w hSw; (try dsimp only at hSw); go_simp; (try with_reducible rfl)
            simp only [Act.put, List.setIfInBounds_toArray, List.set_cons_zero, List.set_cons_succ, List.getElem_toArray, List.getElem_cons_zero, List.getElem_cons_succ]
            refine HeldTill.take (i := 8) (n := 8) (v := ?_) rfl (by kernel_rfl) (by kernel_rfl) (by kernel_rfl) (by kernel_rfl) (fun _ _ _ h => h) (Or.inl ⟨by rfl, ?_⟩) hSq0 ?_
            rotate_left
            · intro w hSw; (try dsimp only at hSw); go_simp; (try with_reducible rfl)
            simp only [Act.put, List.setIfInBounds_toArray, List.set_cons_zero, List.set_cons_succ, List.getElem_toArray, List.getElem_cons_zero, List.getElem_cons_succ]
            refine HeldTill.take (i := 9) (n := 7) (v := ?_) rfl (by kernel_rfl) (by kernel_rfl) (by kernel_rfl) (by kernel_rfl) (fun _ _ _ h => h) (Or.inl ⟨by rfl, ?_⟩) hSq0 ?_
            rotate_left
            · intro w hSw; (try dsimp only at hSw); go_simp; (try with_reducible rfl)
            simp only [Act.put, List.setIfInBounds_toArray, List.set_cons_zero, List.set_cons_succ, List.getElem_toArray, List.getElem_cons_zero, List.getElem_cons_succ]
            refine HeldTill.take (i := 10) (n := 6) (v := ?_) rfl (by kernel_rfl) (by kernel_rfl) (by kernel_rfl) (by kernel_rfl) (fun _ _ _ h => h) (Or.inl ⟨by rfl, ?_⟩) hSq0 ?_
            rotate_left
            · intro w hSw; (try dsimp only at hSw); go_simp; (try with_reducible rfl)
            simp only [Act.put, List.setIfInBounds_toArray, List.set_cons_zero, List.set_cons_succ, List.getElem_toArray, List.getElem_cons_zero, List.getElem_cons_succ]
            refine HeldTill.take (i := 11) (n := 5) (v := ?_) rfl (by kernel_rfl) (by kernel_rfl) (by kernel_rfl) (by kernel_rfl) (fun _ _ _ h => h) (Or.inl ⟨by rfl, ?_⟩) hSq0 ?_
            rotate_left
            · intro w hSw; (try dsimp only at hSw); go_simp; (try with_reducible rfl)
            simp only [Act.put, List.setIfInBounds_toArray, List.set_cons_zero, List.set_cons_succ, List.getElem_toArray, List.getElem_cons_zero, List.getElem_cons_succ]
            refine HeldTill.take (i := 12) (n := 4) (v := ?_) rfl (by kernel_rfl) (by kernel_rfl) (by kernel_rfl) (by kernel_rfl) (fun _ _ _ h => h) (Or.inl ⟨by rfl, ?_⟩) hSq0 ?_
            rotate_left
            · intro w hSw; (try dsimp only at hSw); go_simp; (try with_reducible rfl)
            simp only [Act.put, List.setIfInBounds_toArray, List.set_cons_zero, List.set_cons_succ, List.getElem_toArray, List.getElem_cons_zero, List.getElem_cons_succ]
            refine HeldTill.next (j := 13) (n := 3) (by kernel_rfl) rfl ?_
            go_wp2
            have hSq1 : (fun (w' : World) => w'.cell? ⟨g1, s, none⟩ = some (.slice (some ⟨gs, 0, none⟩) W cs) ∧ w'.cell? ⟨gs, a, none⟩ = some (.slice A4 0 c4)) _ := ⟨pw_cell_below HB1.out hch, pw_cell_below HB1.out hcu⟩
            refine ⟨(by first | exact fun _ => hSq1 | exact hSq1), ?_⟩
            refine HeldTill.next (j := 14) (n := 2) (by kernel_rfl) rfl ?_
            refine app_one rfl (.tmp 55) (.tmp 57) 22 3 (.int .i64 0) 8 rfl Try.underlying22 info3 rfl w.heap.size (.slice A4 0 c4) (.int .i64 y) [] wr.heap.size rfl rfl (heap_new wr _) rfl (HOWN.out _ HB1.out) (by simp) (by simp [maxLen]) (by show w.heap.size ≤ (wr.alloc _).heap.size; rw [World.size_alloc]; have := HSZ.out; omega) ?_; intro g' cap' w2 ho hgr hlie; (try simp only [List.length_nil, Nat.zero_add, List.nil_append] at ho); (try simp only [List.length_nil, Nat.zero_add, List.nil_append]); have HQ := Aside0.mk (HST.out _ w2 g' cap' HB1.out ho hgr (by rcases hlie with h | h; exact .inl h; right; rw [h]; show wr.heap.size ≤ (wr.alloc _).heap.size; rw [World.size_alloc]; omega)); clear ho hgr hlie
            go_wp2
            have hSq2 : (fun (w' : World) => w'.cell? ⟨g1, s, none⟩ = some (.slice (some ⟨gs, 0, none⟩) W cs) ∧ w'.cell? ⟨gs, a, none⟩ = some (.slice A4 0 c4)) _ := ⟨HQ.out.2.2.1, HQ.out.2.1⟩
            refine ⟨(by first | exact fun _ => hSq2 | exact hSq2), ?_⟩
            refine HeldTill.take (i := 15) (n := 1) (v := ?_) rfl (by kernel_rfl) (by kernel_rfl) (by kernel_rfl) (by kernel_rfl) (fun _ _ _ h => h) (Or.inl ⟨by rfl, ?_⟩) hSq2 ?_
            rotate_left
            · intro w hSw; (try dsimp only at hSw); go_simp; (try with_reducible rfl)
            simp only [Act.put, List.setIfInBounds_toArray, List.set_cons_zero, List.set_cons_succ, List.getElem_toArray, List.getElem_cons_zero, List.getElem_cons_succ]
            refine HeldTill.next (j := 16) (n := 0) (by kernel_rfl) rfl ?_
            have qc := HQ.out.2.1
            have qf := HQ.out.1
            go_wp2
            first | refine ⟨fun h => absurd h (by decide), (by kernel_rfl), ?_⟩ | refine ⟨(by kernel_rfl), ?_⟩
            have HFIN := Aside0.mk HQ.out.2.2.2
            go_wp2
            go_roundw
            case rel => exact ⟨a + 1, hal, by go_num, HFIN⟩
            case measure => simp [RowKit.intOf]; omega
          · have g1' : decide ((0 : Int) ≤ x[a]) = false := decide_eq_false hpos
            have HM : Aside0 (ofR x W a = ofR x W (a + 1)) := ⟨ofR_no (by rw [hxa]; exact hpos)⟩
            clear hpos hxa
            generalize x[a] = y at *
            go_wp2
            go_roundw
            case rel => exact ⟨a + 1, hal, by go_num, ⟨by rw [← HM.out]; exact HJ.out⟩⟩
            case measure => simp [RowKit.intOf]; omega
        · obtain rfl : a = x.length := by omega
          have HJ3 : Aside0 (Jn w wr (.slice (some ⟨g1, 0, none⟩) tl c1) (ofN S W l (s + 1)) LL) := ⟨by rw [← HNs.out]; have := HJ.out; rw [HXL.out] at this; exact this⟩
          clear HJ
          go_wp2
          go_roundw
          case rel => exact ⟨s + 1, hlt, by go_num, HJ3⟩
          case measure => simp [RowKit.intOf]; omega
    · obtain rfl : s = l.length := by omega
      go_wp2
      go_ret
      obtain ⟨vs2, us2, hT, hB⟩ := HJ.out.und
      exact ⟨_, vs2, us2, rfl, by rw [ofM]; rw [HLS.out] at hT; exact hT, hB⟩
end Go.Proofs.Ytkgocbmnjlfkoaa.M
end
section
namespace Go.Proofs.Ytkgocbmnjlfkoaa.X
open Go.RowKit Go.Proofs.YtkgocbmnjlfkoaaW.PrintWords Go.Proofs.YtkgocbmnjlfkoaaW.PrintLast Go.Proofs.YtkgocbmnjlfkoaaW.PrintMore
attribute [local go_sem] max2_int min2_int max_two min_two max_three min_three max_four min_four
set_option linter.unusedVariables false
set_option linter.unusedSimpArgs false
mutual
def timeboundref24_Below.l0 : Nat → Int → Int → List (List (List Int)) → List (List (List Int)) → Option (Bool)
  | 0, _, _, _, _ => none
  | k + 1, x15, x16, x103000, x104000 => if x16 < x15 then (if 0 ≤ x16 then (if x16 < (x104000.length : Int) then (timeboundref24_Below.l1 k x16 x15 x16 (rd_L2 x104000 x16) ((rd_L2 x104000 x16).length : Int) 0 x103000 x104000) else (none)) else (none)) else (some true)
def timeboundref24_Below.l1 : Nat → Int → Int → Int → List (List Int) → Int → Int → List (List (List Int)) → List (List (List Int)) → Option (Bool)
  | 0, _, _, _, _, _, _, _, _ => none
  | k + 1, x7, x15, x16, x23, x24, x25, x103000, x104000 => if x25 < x24 then (if 0 ≤ x25 then (if x25 < (x23.length : Int) then (timeboundref24_Below.l2 k x7 x25 x15 x16 x23 x24 x25 (rd_L1 x23 x25) ((rd_L1 x23 x25).length : Int) 0 x103000 x104000) else (none)) else (none)) else (timeboundref24_Below.l0 k x15 (wrap64 (x16 + 1)) x103000 x104000)
def timeboundref24_Below.l2 : Nat → Int → Int → Int → Int → List (List Int) → Int → Int → List Int → Int → Int → List (List (List Int)) → List (List (List Int)) → Option (Bool)
  | 0, _, _, _, _, _, _, _, _, _, _, _, _ => none
  | k + 1, x7, x8, x15, x16, x23, x24, x25, x30, x31, x32, x103000, x104000 => if x32 < x31 then (if 0 ≤ x32 then (if x32 < (x30.length : Int) then (if 0 ≤ x7 then (if x7 < (x103000.length : Int) then ((timeboundref24_Place.f k (rd_L2 x103000 x7) (rd x30 x32)).bind fun t108 => (if t108 < 0 then (some false) else (if t108 > x8 then (some false) else (timeboundref24_Below.l2 k x7 x8 x15 x16 x23 x24 x25 x30 x31 (wrap64 (x32 + 1)) x103000 x104000)))) else (none)) else (none)) else (none)) else (none)) else (timeboundref24_Below.l1 k x7 x15 x16 x23 x24 (wrap64 (x25 + 1)) x103000 x104000)
end
def timeboundref24_Below.f (k : Nat) (a0_0 : Int) (a0_1 : Int) (a0_2 : Int) (l1_0 : List (List (List Int))) (l2_0 : List (List (List Int))) : Option (Bool) := timeboundref24_Below.l0 k (l2_0.length : Int) 0 l1_0 l2_0
end Go.Proofs.Ytkgocbmnjlfkoaa.X
end
section
namespace Go.Proofs.Ytkgocbmnjlfkoaa.M
open Go.RowKit Go.Proofs.Ytkgocbmnjlfkoaa.X Go.Proofs.YtkgocbmnjlfkoaaW.PrintWords Go.Proofs.YtkgocbmnjlfkoaaW.PrintLast Go.Proofs.YtkgocbmnjlfkoaaW.PrintMore
set_option linter.unusedVariables false
set_option linter.unusedSimpArgs false
set_option maxHeartbeats 1000000 in
theorem mof_calls {S W L : Nat} (h : CacheOk S W L) (A : Option Addr) (c : Nat) (l : List (List Int)) (w : World) (hl : Con S W l) (hr : C2 w A l) (hc : l.length ≤ c) : Calls Try.prog 37 #[.agg #[.int .i64 S, .int .i64 W, .int .i64 L], .agg #[.slice A l.length c]] w (New3S w (ofM S W l)) := by
  have HB0 : Aside0 (Below w.heap.size w (((w.alloc (.cells #[.int .i64 S, .int .i64 W, .int .i64 L] 26)).alloc (.cells #[.slice A l.length c] 54)).alloc (.cells #[.slice none 0 0] 39))) := ⟨(((Below.refl _ _).alloc (Nat.le_refl _) _).alloc (by simp) _).alloc (by simp; omega) _⟩
  have hin := Aside0.mk (aof_calls h A c l (((w.alloc (.cells #[.int .i64 S, .int .i64 W, .int .i64 L] 26)).alloc (.cells #[.slice A l.length c] 54)).alloc (.cells #[.slice none 0 0] 39)) hl.len hl.row (Kd.C_below hr HB0.out) hc)
  clear h hl hr
  go_enter Try.func37, Try.ntmps37
  go_wp2_with (first | (go_at_call 80; refine hin.out.mono ?_; rintro e w1 ⟨v1, vs1, us1, rfl, hT, hb⟩; obtain ⟨A1, c1, rfl, _, _⟩ := hT.reads; have HT1 := Aside0.mk (hT.lower (b' := w.heap.size) HB0.out.size); have HB1 := Aside0.mk (HB0.out.trans (hb.mono HB0.out.size)); obtain ⟨k1, k2, k3⟩ := three_box hb; have K3 := Aside0.mk k3; obtain ⟨q4, f4⟩ := cz1' k3; clear k1 k2 k3 hb hT))
  refine bodyPost_ret (results_cell rfl _ _ (w.heap.size + 2) 39 #[.slice A1 (ofM S W l).length c1] (0, 0) _ rfl (blk_put (cs := #[.slice none 0 0]) K3.out 0 _ rfl) Try.underlying39 rfl (by kernel_rfl)) rfl ?_
  exact ⟨_, vs1, us1, rfl, HT1.out.setFar K3.out (by decide) _, HB1.out.setCell (by show w.heap.size ≤ w.heap.size + 2; omega) _⟩
end Go.Proofs.Ytkgocbmnjlfkoaa.M
end
section
namespace Go.Proofs.Ytkgocbmnjlfkoaa.M
open Go.RowKit
set_option linter.unusedVariables false
set_option linter.unusedSimpArgs false
section
variable {S s W : Nat} {x : List Int}
theorem RowC.at_age (h : RowC S s W x) (y : Int) : (age (ofS W x) y < W ∧ x.getD (age (ofS W x) y) 0 = y ∧ 0 ≤ y) ∨ (age (ofS W x) y = W ∧ ∀ p, p < W → 0 ≤ y → x.getD p 0 ≠ y) := by
  have hV := h.of
  have hle := hV.age_le y
  by_cases hq : age (ofS W x) y < W
  · have hm := age_mem (r := ofS W x) (y := y) (by rw [hV.len]; exact hq)
    obtain ⟨h1, h2, h3⟩ := mem_ofS.1 hm
    exact .inl ⟨hq, h3.symm, by rw [h3]; exact h2⟩
  · refine .inr ⟨by omega, fun p hp h0 e => hq ?_⟩
    have hm : y ∈ (ofS W x).getD p [] := mem_ofS.2 ⟨hp, by rw [e]; exact h0, e.symm⟩
    rw [hV.age_of hm]
    exact hp
theorem RowC.age_of_at (h : RowC S s W x) {p : Nat} (hp : p < W) (h0 : 0 ≤ x.getD p 0) : age (ofS W x) (x.getD p 0) = p := h.of.age_of (mem_ofS.2 ⟨hp, h0, rfl⟩)
theorem RowC.at_use (h : RowC S s W x) {n : Int} (h0 : 0 ≤ n) : (age (ofS W x) n < W ∧ atC x n = age (ofS W x) n) ∨ (age (ofS W x) n = W ∧ atC x n = W - 1) := by
  have hl := h.len
  have hsp := atN_spec x n x.length
  rcases hsp with ⟨h1, h2⟩ | ⟨h1, h2, _⟩
  · rcases h.at_age n with ⟨h3, h4, _⟩ | ⟨h3, _⟩
    · exact absurd h4 (h2 _ (by omega))
    · exact .inr ⟨h3, by unfold atC; rw [h1, hl]⟩
  · have h5 : atN x n x.length < W := by omega
    have := h.age_of_at h5 (by rw [h1]; exact h0)
    rw [h1] at this
    exact .inl ⟨by omega, by unfold atC; exact this.symm⟩
theorem RowC.age_use (h : RowC S s W x) (hW : 0 < W) {n : Int} (h0 : 0 ≤ n) (h1 : n ≤ 1048576) (hn : n % S = s) (y : Int) : age (ofS W (useC x n)) y = ageU (fun a => decide (a < age (ofS W x) n)) W n y (age (ofS W x) y) := by
  have hl := h.len
  have h' := h.use h0 h1 hn
  have hat := h.at_use h0
  have hq := h.at_age y
  have hqn := h.at_age n
  have huse : ∀ i, i < W → (useC x n).getD i 0 = if i = 0 then n else x.getD (src (atC x n) i) 0 := fun i hi => useC_at n (by omega)
  refine age_eq (W := W) h'.of.len ?_ ?_ ?_
  · unfold ageU
    split
    · omega
    · split <;> omega
  · intro ha
    rw [mem_ofS]
    refine ⟨ha, ?_⟩
    have hv : (useC x n).getD (ageU (fun a => decide (a < age (ofS W x) n)) W n y (age (ofS W x) y)) 0 = y ∧ 0 ≤ y := by
      rw [huse _ ha]
      unfold ageU dst at ha ⊢
      by_cases hy : y = n
      · rw [if_pos hy, if_pos rfl]
        exact ⟨hy.symm, by omega⟩
      · rw [if_neg hy] at ha ⊢
        rcases hq with ⟨q1, q2, q3⟩ | ⟨q1, _⟩
        · refine ⟨?_, q3⟩
          rw [if_pos q1] at ha ⊢
          simp only [decide_eq_true_eq] at ha ⊢
          have hne : age (ofS W x) y ≠ age (ofS W x) n ∨ age (ofS W x) n = W := by
            rcases hqn with ⟨n1, n2, _⟩ | ⟨n1, _⟩
            · refine .inl fun e => hy ?_
              rw [← q2, e, n2]
            · exact .inr n1
          by_cases hlt : age (ofS W x) y < age (ofS W x) n
          · rw [if_pos hlt] at ha ⊢
            have e : min (age (ofS W x) y + 1) W = age (ofS W x) y + 1 := by omega
            rw [e, if_neg (by omega)]
            unfold src
            rw [if_pos (by omega)]
            exact q2
          · rw [if_neg hlt] at ha ⊢
            have e : min (age (ofS W x) y) W = age (ofS W x) y := by omega
            rw [e, if_neg (by omega)]
            unfold src
            rw [if_neg (by omega)]
            exact q2
        · rw [if_neg (by omega)] at ha
          omega
    exact ⟨by rw [hv.1]; exact hv.2, hv.1.symm⟩
  · intro i hi
    obtain ⟨hi1, hi2, hi3⟩ := mem_ofS.1 hi
    rw [huse i hi1] at hi2 hi3
    unfold ageU dst
    by_cases hy : y = n
    · rw [if_pos hy]
      omega
    · rw [if_neg hy]
      by_cases hi0 : i = 0
      · rw [if_pos hi0] at hi3
        exact absurd hi3 hy
      · rw [if_neg hi0] at hi2 hi3
        have hs : src (atC x n) i < W := by unfold src; split <;> omega
        have hqq := h.age_of_at hs hi2
        rw [← hi3] at hqq
        rw [if_pos (by omega)]
        simp only [decide_eq_true_eq]
        have hne : age (ofS W x) y ≠ age (ofS W x) n ∨ age (ofS W x) n = W := by
          rcases hqn with ⟨n1, n2, _⟩ | ⟨n1, _⟩
          · refine .inl fun e => hy ?_
            rw [hi3, ← hqq, e, n2]
          · exact .inr n1
        unfold src at hqq
        split at hqq <;> split <;> omega
end
theorem Le.trans {S : Nat} {a b c : List (List (List Int))} (h : Le S a b) (k : Le S b c) : Le S a c := fun s hs y => Nat.le_trans (h s hs y) (k s hs y)
theorem Le.refl (S : Nat) (a : List (List (List Int))) : Le S a a := fun s hs y => Nat.le_refl _
end Go.Proofs.Ytkgocbmnjlfkoaa.M
end
section
namespace Go.Proofs.Ytkgocbmnjlfkoaa.M
open Go.RowKit Go.Proofs.Ytkgocbmnjlfkoaa.X Go.Proofs.YtkgocbmnjlfkoaaW.PrintWords Go.Proofs.YtkgocbmnjlfkoaaW.PrintLast Go.Proofs.YtkgocbmnjlfkoaaW.PrintMore
set_option linter.unusedVariables false
set_option linter.unusedSimpArgs false
section
variable {w wr w' : World} {g : Nat} {xs : List Int} {Bx : List (Nat × Array Value × TypeId)} {Tx : List Th} {S W L : Nat}
theorem LM.lt (h : LM w wr g xs Bx Tx) : ∀ q ∈ Bx, q.1 < wr.heap.size := fun q hq => blk_lt (h.bx q hq).1
theorem LM.of (hC : CacheOk S W L) (h : LM w wr g xs Bx Tx) (i : Nat) {A : Option Addr} {k : Nat} {X : List (List Int)} (hi : Tx[i]? = some (.s2 (.slice A X.length k) X)) (hX : Con S W X) :
    Calls Try.prog 37 #[.agg #[.int .i64 S, .int .i64 W, .int .i64 L], .agg #[.slice A X.length k]] wr fun e w' => ∃ A' k', e = .returned (.agg #[.slice A' (ofM S W X).length k']) ∧ LM w w' g xs Bx (.s3 (.slice A' (ofM S W X).length k') (ofM S W X) :: Tx) :=
  h.made (mof_calls hC A k X wr hX (h.rd2 i hi).2.2 (h.rd2 i hi).2.1)
theorem LM.either (hC : CacheOk S W L) (h : LM w wr g xs Bx Tx) (i j : Nat) {A B : Option Addr} {k m q : Nat} {X : List (List (List Int))} {ls : List Int} (hi : Tx[i]? = some (.s3 (.slice A X.length k) X)) (hj : Tx[j]? = some (.s1 (.slice B q m) ls)) (hV : Val S W X) (hls : LinesOk ls) (hl : q < 1099511627776) :
    Calls Try.prog 39 #[.agg #[.int .i64 S, .int .i64 W, .int .i64 L], .agg #[.slice A X.length k], .slice B q m] wr fun e w' => ∃ A' k', e = .returned (.agg #[.slice A' (eitherM S W X ls).length k']) ∧ LM w w' g xs Bx (.s3 (.slice A' (eitherM S W X ls).length k') (eitherM S W X ls) :: Tx) := by
  obtain ⟨rfl, h1, h2⟩ := h.rd1 j hj
  exact h.made (meither_calls hC A B k m X ls wr hV hls (h.rd3 i hi).2.2 (h.rd3 i hi).2.1 h2 h1 hl)
theorem LM.copy (h : LM w wr g xs Bx Tx) (i : Nat) {A : Option Addr} {k : Nat} {l : List (List Int)} (hi : Tx[i]? = some (.s2 (.slice A l.length k) l)) (hl : Con S W l) (hS : S ≤ 8) (hW : W ≤ 4) :
    Calls Try.prog 40 #[.agg #[.slice A l.length k]] wr fun e w' => ∃ A' k' vs, e = .returned (.agg #[.slice A' l.length k']) ∧ T2 w' wr.heap.size (.slice A' l.length k') vs l ∧ LM w w' g xs Bx Tx ∧ Below wr.heap.size wr w' :=
  (copy40_calls A k l wr (h.rd2 i hi).2.2 (h.rd2 i hi).2.1 (by rw [hl.len]; omega) (fun x hx => by rw [hl.row x hx]; omega)).mono fun e w' ⟨v, vs, h1, h2, h3⟩ => by
    obtain ⟨A', k', rfl, _, _⟩ := h2.reads
    exact ⟨A', k', vs, h1, h2, h.step h3, h3⟩
theorem LM.use {wa : World} (hC : CacheOk S W L) (h : LM w wa g xs Bx Tx) (hb : Below wa.heap.size wa wr) {A : Option Addr} {k : Nat} {vs : List Value} {l : List (List Int)} (hT : T2 wr wa.heap.size (.slice A l.length k) vs l) (hl : Con S W l) {m : Nat} (hm : m ≤ 1073741824) (hd : m / L ≤ 1048576) :
    Calls Try.prog 41 #[.agg #[.int .i64 S, .int .i64 W, .int .i64 L], .agg #[.slice A l.length k], .int .i64 m] wr fun e w' => e = .returned (.bool (hitL S L l m)) ∧ LM w w' g xs Bx (.s2 (.slice A (useL S L l m).length k) (useL S L l m) :: Tx) ∧
      (∀ (p : Nat) (cs : Array Value) (t : TypeId), wr.heap[p]? = some (.cells cs t (0, 0)) → BoxT t → w'.heap[p]? = some (.cells cs t (0, 0))) :=
  (use41b_calls hC _ vs l wa.heap.size m wr hT hb.size hl.len hl.row hm hd).mono fun e w' ⟨h1, h2, h3⟩ => by
    have h4 : Below wa.heap.size wa w' := hb.trans (h3.below hb.size (fun k hk => (hT.lt hk).1))
    refine ⟨h1, (h.step h4).add ⟨_, vs, by rw [useL_length]; exact h2⟩, fun p cs t hp ht => (h3.block p (blk_lt hp) (fun hk => ?_)).trans hp⟩
    obtain ⟨c1, e1, h0, h5⟩ := In2.typed hT hk
    rw [hp] at h5
    injection h5 with h5
    injection h5 with _ h5
    rcases h0 with rfl | rfl
    · exact ht.2.2.1 h5
    · exact ht.2.2.2 h5
end
end Go.Proofs.Ytkgocbmnjlfkoaa.M
end
section
namespace Go.Proofs.Ytkgocbmnjlfkoaa.M
open Go.RowKit Go.Proofs.Ytkgocbmnjlfkoaa.X Go.Proofs.YtkgocbmnjlfkoaaW.PrintWords Go.Proofs.YtkgocbmnjlfkoaaW.PrintLast Go.Proofs.YtkgocbmnjlfkoaaW.PrintMore
set_option linter.unusedVariables false
set_option linter.unusedSimpArgs false
theorem add0 (g i : Nat) : (⟨g, 0, none⟩ : Addr).add i = ⟨g, i, none⟩ := by unfold Addr.add; split <;> simp [*]
theorem C2.mk {w : World} {ad : Addr} {x : List (List Int)} (hx : x.length ≤ 9223372036854775807) (h : ∀ i (hi : i < x.length), ∃ A0 c0, w.cell? (ad.add i) = some (.slice A0 x[i].length c0) ∧ x[i].length ≤ c0 ∧ C1 w A0 x[i]) : C2 w (some ad) x := by
  refine ⟨rfl, hx, fun _ => ⟨ad, rfl, fun j p hj => ?_⟩⟩
  obtain ⟨hl, rfl⟩ := List.getElem?_eq_some_iff.1 hj
  obtain ⟨A0, c0, h1, h2, h3⟩ := h j hl
  refine ⟨[.slice A0 x[j].length c0], rfl, ⟨A0, c0, rfl, h2, h3⟩, fun i u hu => ?_⟩
  obtain ⟨hi1, hi2⟩ := List.getElem?_eq_some_iff.1 hu
  have hi0 : i = 0 := by simpa using hi1
  subst hi0
  simp at hi2
  subst hi2
  show w.cell? (ad.add (j * 1 + 0)) = _
  simpa using h1
theorem C3.mk {w : World} {ad : Addr} {x : List (List (List Int))} (hx : x.length ≤ 9223372036854775807) (h : ∀ i (hi : i < x.length), ∃ A0 c0, w.cell? (ad.add i) = some (.slice A0 x[i].length c0) ∧ x[i].length ≤ c0 ∧ C2 w A0 x[i]) : C3 w (some ad) x := by
  refine ⟨rfl, hx, fun _ => ⟨ad, rfl, fun j p hj => ?_⟩⟩
  obtain ⟨hl, rfl⟩ := List.getElem?_eq_some_iff.1 hj
  obtain ⟨A0, c0, h1, h2, h3⟩ := h j hl
  refine ⟨[.slice A0 x[j].length c0], rfl, ⟨A0, c0, rfl, h2, h3⟩, fun i u hu => ?_⟩
  obtain ⟨hi1, hi2⟩ := List.getElem?_eq_some_iff.1 hu
  have hi0 : i = 0 := by simpa using hi1
  subst hi0
  simp at hi2
  subst hi2
  show w.cell? (ad.add (j * 1 + 0)) = _
  simpa using h1
theorem C3.tail {w : World} {ad : Addr} {r : List (List Int)} {x : List (List (List Int))} (h : C3 w (some ad) (r :: x)) : C3 w (some (ad.add 1)) x := by
  have hl := h.2.1
  refine C3.mk (by simp at hl; omega) fun i hi => ?_
  obtain ⟨ad', A0, c0, e, h1, h2, h3⟩ := C3.get h (i := i + 1) (by simp; omega)
  injection e with e
  subst e
  refine ⟨A0, c0, ?_, h2, h3⟩
  rw [show (ad.add 1).add i = ad.add (i + 1) by unfold Addr.add; split <;> simp [*] <;> omega]
  exact h1
theorem C3.nil (w : World) (A : Option Addr) : C3 w A [] := ⟨rfl, by simp, fun h => absurd h (by simp)⟩
section
variable {w w' : World} {b g n cap i : Nat} {vs : List Value} {us : List (List Value)} {X : List (List (List Int))}
theorem T3.patch (h : T3 w b (.slice (some ⟨g, 0, none⟩) n cap) vs us X) (hi : i < X.length) (hX : X.length < 1000) (hf : Fr (fun k => k = g ∨ In2 (vs.getD i undef) (us.getD i []) k) w w') (hg : ∀ j, j ≠ i → w'.cell? ⟨g, j, none⟩ = w.cell? ⟨g, j, none⟩)
    {Au : Option Addr} {cu : Nat} {ys : List (List Int)} (hci : w'.cell? ⟨g, i, none⟩ = some (.slice Au ys.length cu)) (hcu : ys.length ≤ cu) (hC : C2 w' Au ys) : C3 w' (some ⟨g, 0, none⟩) (X.set i ys) := by
  refine C3.mk (by rw [List.length_set]; omega) fun j hj => ?_
  rw [List.length_set] at hj
  rw [add0]
  by_cases e : i = j
  · subst e
    rw [List.getElem_set_self]
    exact ⟨Au, cu, hci, hcu, hC⟩
  · rw [List.getElem_set_ne e, hg j (Ne.symm e), (h.cell hj).1]
    have h1 := (h.el j hj).keep (w' := w') (fun k hk => hf.block k ((h.el j hj).lt hk).2 (by
      rintro (rfl | h2)
      · exact h.ne hj hk rfl
      · exact h.apart j i hj hi (Ne.symm e) k hk h2))
    rw [getD_lt hj] at h1
    obtain ⟨A, c, h3, h4, h5⟩ := h1.reads
    exact ⟨A, c, by rw [h3], h4, h5⟩
theorem T3.typed (h : T3 w b (.slice (some ⟨g, 0, none⟩) n cap) vs us X) {k : Nat} (hk : k = g ∨ In2 (vs.getD i undef) (us.getD i []) k) (hi : i < X.length) : b ≤ k ∧ ∃ cs t, (t = 43 ∨ t = 22 ∨ t = 3) ∧ w.heap[k]? = some (.cells cs t (0, 0)) := by
  rcases hk with rfl | hk
  · obtain ⟨cs, hc⟩ := own_typed h.own k rfl
    exact ⟨(h.lt (.inl rfl)).1, cs, 43, .inl rfl, hc⟩
  · obtain ⟨cs, e, he, hc⟩ := In2.typed (h.el i hi) hk
    exact ⟨((h.el i hi).lt hk).1, cs, e, .inr he, hc⟩
end
section
variable {w wr w' : World} {g : Nat} {xs : List Int} {Bx : List (Nat × Array Value × TypeId)} {Tx : List Th} {S W L : Nat}
theorem LM.fr (h : LM w wr g xs Bx Tx) {P : Nat → Prop} (hf : Fr P wr w') (hP : ∀ k, P k → w.heap.size ≤ k ∧ ∃ cs t, (t = 43 ∨ t = 22 ∨ t = 3) ∧ wr.heap[k]? = some (.cells cs t (0, 0))) : LM w w' g xs Bx [] := by
  have hb : Below w.heap.size w w' := h.below.trans (hf.below h.below.size (fun k hk => (hP k hk).1))
  have hnp : ∀ k cs t, wr.heap[k]? = some (.cells cs t (0, 0)) → (t ≠ 43 ∧ t ≠ 22 ∧ t ≠ 3) → ¬ P k := fun k cs t hk ht hp => by
    obtain ⟨_, cs2, t2, h2, h3⟩ := hP k hp
    rw [hk] at h3
    injection h3 with h3
    injection h3 with _ h3
    subst h3
    rcases h2 with rfl | rfl | rfl
    · exact ht.1 rfl
    · exact ht.2.1 rfl
    · exact ht.2.2 rfl
  refine ⟨?_, fun p hp => ?_, h.ne, fun t ht => by cases ht⟩
  · obtain ⟨s, k1, ⟨A0, c0, e1, e2, e3⟩, k3⟩ := h.deck
    exact ⟨s, k1, ⟨A0, c0, (hf.block g (blk_lt e1) (hnp g _ _ e1 (by decide))).trans e1, e2, e3⟩, hb⟩
  · obtain ⟨h1, h2, h3⟩ := h.bx p hp
    exact ⟨(hf.block _ (blk_lt h1) (hnp _ _ _ h1 h2.2)).trans h1, h2, h3⟩
theorem mod2_ (a n : Int) (h : 1 ≤ n) (h2 : n ≤ 1099511627776) : ∃ v, timeboundmake_Mod.f a n = some v ∧ 0 ≤ v ∧ v < n := by
  have h1 := Int.lt_tmod_of_pos a (b := n) (by omega)
  have h3 := Int.tmod_lt_of_pos a (b := n) (by omega)
  unfold timeboundmake_Mod.f
  rw [if_neg (by omega), w64 (by omega) (by omega)]
  exact ⟨_, rfl, Int.tmod_nonneg _ (by omega), Int.tmod_lt_of_pos _ (by omega)⟩
theorem mod_calls (a n : Int) (h : 1 ≤ n) (h2 : n ≤ 1099511627776) (w : World) : Calls Try.prog 24 #[.int .i64 a, .int .i64 n] w fun e w' => ∃ v : Nat, e = .returned (.int .i64 v) ∧ (v : Int) < n ∧ Below w.heap.size w w' := by
  obtain ⟨v, hv, h0, h1⟩ := mod2_ a n h h2
  refine (timeboundmake_Mod.calls a n v w hv).mono ?_
  rintro e w' ⟨rfl, hb⟩
  obtain ⟨q, rfl⟩ := hb
  exact ⟨v.toNat, by rw [Int.toNat_of_nonneg h0], by omega, pw_below_drewN (Below.refl _ _) q⟩
def Small3 (X : List (List (List Int))) : Prop := X.length < 1000 ∧ ∀ r ∈ X, r.length < 1000 ∧ ∀ l ∈ r, l.length ≤ 1073741824
theorem Val.small {X : List (List (List Int))} (hV : Val S W X) (hS : S ≤ 8) (hW : W ≤ 4) : Small3 X := ⟨by rw [hV.len]; omega, fun r hr => ⟨by rw [(hV.fit.el r hr).1]; omega, fun l hl => by have := ((hV.fit.el r hr).2 l hl).2; omega⟩⟩
theorem Small3.set {X : List (List (List Int))} (h : Small3 X) (i : Nat) {ys : List (List Int)} (hy : ys.length < 1000 ∧ ∀ l ∈ ys, l.length ≤ 1073741824) : Small3 (X.set i ys) := ⟨by rw [List.length_set]; exact h.1, fun r hr => by
  rcases List.mem_or_eq_of_mem_set hr with h1 | rfl
  · exact h.2 r h1
  · exact hy⟩
theorem LM.valids (hC : CacheOk S W L) (h : LM w wr g xs Bx Tx) {A : Option Addr} {k : Nat} {X : List (List (List Int))} (hr : C3 wr A X) (hk : X.length ≤ k) (hs : Small3 X) :
    Calls Try.prog 25 #[.agg #[.int .i64 S, .int .i64 W, .int .i64 L], .agg #[.slice A X.length k]] wr fun e w' => e = .returned (.bool (valb S W X)) ∧ LM w w' g xs Bx Tx ∧ C3 w' A X :=
  (mvalidb_calls hC A k X wr (by have := hs.1; omega) (fun r hr => by have := (hs.2 r hr).1; omega) (fun r hr l hl => by have := (hs.2 r hr).2 l hl; omega) hr hk).mono fun e w' ⟨h1, h2⟩ => ⟨h1, h.step h2, Kd.C_below hr h2⟩
theorem LM.rvalids (hC : CacheOk S W L) (h : LM w wr g xs Bx Tx) {A : Option Addr} {k : Nat} {X : List (List (List Int))} (hr : C3 wr A X) (hk : X.length ≤ k) (hs : Small3 X) :
    Calls Try.prog 26 #[.agg #[.int .i64 S, .int .i64 W, .int .i64 L], .agg #[.slice A X.length k]] wr fun e w' => e = .returned (.bool (valb S W X)) ∧ LM w w' g xs Bx Tx ∧ C3 w' A X :=
  (rvalid_calls hC A k X wr (by have := hs.1; omega) (fun r hr => by have := (hs.2 r hr).1; omega) (fun r hr l hl => by have := (hs.2 r hr).2 l hl; omega) hr hk).mono fun e w' ⟨h1, h2⟩ => ⟨h1, h.step h2, Kd.C_below hr h2⟩
theorem LM.rcopy (h : LM w wr g xs Bx Tx) (i : Nat) {A : Option Addr} {k : Nat} {X : List (List (List Int))} (hi : Tx[i]? = some (.s3 (.slice A X.length k) X)) (hs : Short3 X) :
    Calls Try.prog 23 #[.slice A X.length k] wr fun e w' => ∃ A' k' vs us, e = .returned (.slice A' X.length k') ∧ T3 w' wr.heap.size (.slice A' X.length k') vs us X ∧ LM w w' g xs Bx [] ∧ w.heap.size ≤ wr.heap.size :=
  (rcopy_calls A k X wr (h.rd3 i hi).2.2 (h.rd3 i hi).2.1 hs).mono fun e w' ⟨v, vs, us, h1, h2, h3⟩ => by
    obtain ⟨A', k', rfl, _, _⟩ := h2.reads
    exact ⟨A', k', vs, us, h1, h2, (h.step h3).drop (fun t ht => by cases ht), h.below.size⟩
end
end Go.Proofs.Ytkgocbmnjlfkoaa.M
end
section
namespace Go.Proofs.Ytkgocbmnjlfkoaa.M
open Go.RowKit Go.Proofs.Ytkgocbmnjlfkoaa.X Go.Proofs.YtkgocbmnjlfkoaaW.PrintWords Go.Proofs.YtkgocbmnjlfkoaaW.PrintLast Go.Proofs.YtkgocbmnjlfkoaaW.PrintMore
set_option linter.unusedVariables false
set_option linter.unusedSimpArgs false
section
variable {w w0 w3 : World} {b g n cap i : Nat} {vs : List Value} {us : List (List Value)} {X : List (List (List Int))}
theorem own_ne_outer (h : T3 w b (.slice (some ⟨g, 0, none⟩) n cap) vs us X) (hi : i < X.length) : (vs.getD i undef).ownBlock ≠ some g := fun e => h.ne hi (k := g) (.inl e) rfl
theorem outer_kept (h : T3 w b (.slice (some ⟨g, 0, none⟩) n cap) vs us X) (hi : i < X.length) (h0 : Below w.heap.size w w0) (hgr : w0.grownBy w3 (vs.getD i undef).ownBlock) : w3.heap[g]? = w.heap[g]? := by
  obtain ⟨cg, hcg⟩ := own_typed h.own g rfl
  exact (hgr.block g (by have := blk_lt hcg; have := h0.size; omega) (fun e => own_ne_outer h hi e.symm)).trans (h0.block g (blk_lt hcg))
theorem T3.app0 {g' q c' : Nat} (h : T3 w b (.slice (some ⟨g, 0, none⟩) n cap) vs us X) (hi : i < X.length) (hX : X.length < 1000) (h0 : Below w.heap.size w w0)
    (ho : w3.ownsRow b 22 1 (.slice (some ⟨g', 0, none⟩) q c') q (us.getD i [] ++ [.slice none 0 0])) (hgr : w0.grownBy w3 (vs.getD i undef).ownBlock) (hlie : (vs.getD i undef).ownBlock = some g' ∨ w.heap.size ≤ g') :
    w3.cell? ⟨g, i, none⟩ = some (vs.getD i undef) ∧ w3.frozen? ⟨g, i, none⟩ = false ∧ q = (X.getD i [] ++ [[]]).length ∧ C3 (w3.setCell ⟨g, i, none⟩ (.slice (some ⟨g', 0, none⟩) q c')) (some ⟨g, 0, none⟩) (X.set i (X.getD i [] ++ [[]])) ∧
      Fr (fun k => k = g ∨ In2 (vs.getD i undef) (us.getD i []) k) w (w3.setCell ⟨g, i, none⟩ (.slice (some ⟨g', 0, none⟩) q c')) := by
  have hrow := h.el i hi
  have hul := hrow.len
  obtain ⟨cg, hcg⟩ := own_typed h.own g rfl
  have hgb := (outer_kept h hi h0 hgr).trans hcg
  have hq : q = (us.getD i []).length + 1 := by
    have := own_one ho
    rw [List.length_append, List.length_singleton] at this
    omega
  have hT0 : T2 w0 b (vs.getD i undef) (us.getD i []) (X.getD i []) := hrow.fr (S := fun _ => False) (Fr.ofBelow h0) (fun _ _ => id)
  have hT3 : T2 w3 b (.slice (some ⟨g', 0, none⟩) q c') (us.getD i [] ++ [.slice none 0 0]) (X.getD i [] ++ [[]]) := hT0.snoc (T1.nil w0 b) (fun j hj => .inl rfl) (by rw [← hq]; exact ho) hgr (by
    cases hv : (vs.getD i undef).ownBlock with
    | none => exact .inl rfl
    | some k => exact .inr (by simp [Value.ownBlock]))
  have hin : ∀ k, In2 (.slice (some ⟨g', 0, none⟩) q c') (us.getD i [] ++ [.slice none 0 0]) k → k ≠ g := fun k hk e => by
    obtain ⟨c1, e1, h1, h2⟩ := In2.typed hT3 hk
    rw [e, hgb] at h2
    injection h2 with h2
    injection h2 with _ h2
    rcases h1 with rfl | rfl
    · cases h2
    · cases h2
  have hset : ∀ k, k ≠ g → (w3.setCell ⟨g, i, none⟩ (.slice (some ⟨g', 0, none⟩) q c')).heap[k]? = w3.heap[k]? := fun k hk => Below.heap_setCell w3 _ _ k hk
  have hT4 := hT3.keep (w' := w3.setCell ⟨g, i, none⟩ (.slice (some ⟨g', 0, none⟩) q c')) (fun k hk => hset k (hin k hk))
  obtain ⟨Au, cu, e1, e2, e3⟩ := hT4.reads
  injection e1 with e1 e4 e5
  subst e1
  subst e5
  have hfr : Fr (fun k => k = g ∨ In2 (vs.getD i undef) (us.getD i []) k) w (w3.setCell ⟨g, i, none⟩ (.slice (some ⟨g', 0, none⟩) q c')) := ((Fr.ofBelow h0).trans ((Fr.grown hgr).mono (fun k hk => .inr (.inl hk)))).trans (Fr.set _ (.inl rfl))
  have hnew : (w3.setCell ⟨g, i, none⟩ (.slice (some ⟨g', 0, none⟩) q c')).heap[g]? = some (.cells (cg.setIfInBounds i (.slice (some ⟨g', 0, none⟩) q c')) 43 (0, 0)) := blk_put hgb i _ rfl
  refine ⟨(World.cell?_of_block (w := w) (hgb.trans hcg.symm)).trans (h.cell hi).1, blk_frozen hgb i, e4, h.patch hi hX hfr (fun j hj => ?_) ?_ e2 e3, hfr⟩
  · rw [blk_cell hnew, blk_cell hcg, Array.getElem?_setIfInBounds_ne (Ne.symm hj)]
  · have hsz : i < cg.size := by
      have := (h.cell hi).1
      rw [blk_cell hcg] at this
      exact (Array.getElem?_eq_some_iff.1 this).1
    rw [blk_cell hnew, Array.getElem?_setIfInBounds_self_of_lt hsz, e4]
theorem T3.app1 {gs m cs a : Nat} {u : Value} {ys : List Int} (h : T3 w b (.slice (some ⟨g, 0, none⟩) n cap) vs us X) (hi : i < X.length) (hX : X.length < 1000) (hrow : vs.getD i undef = .slice (some ⟨gs, 0, none⟩) m cs) (ha : a < (X.getD i []).length) (h0 : Below w.heap.size w w0)
    (k1 : T1 w3 b u ys) (k2 : w0.grownBy w3 ((us.getD i []).getD a undef).ownBlock) (k3 : u.ownBlock = ((us.getD i []).getD a undef).ownBlock ∨ ∃ k, u.ownBlock = some k ∧ w.heap.size ≤ k) :
    w3.cell? ⟨gs, a, none⟩ = some ((us.getD i []).getD a undef) ∧ w3.frozen? ⟨gs, a, none⟩ = false ∧ w3.cell? ⟨g, i, none⟩ = w.cell? ⟨g, i, none⟩ ∧ C3 (w3.setCell ⟨gs, a, none⟩ u) (some ⟨g, 0, none⟩) (X.set i ((X.getD i []).set a ys)) ∧
      Fr (fun k => k = g ∨ In2 (vs.getD i undef) (us.getD i []) k) w (w3.setCell ⟨gs, a, none⟩ u) := by
  have h2 := h.el i hi
  have hcg0 := (h.cell hi).1
  rw [hrow] at h2
  obtain ⟨j1, j2, _, vs', k4, k5, k6, k7⟩ := T2.store h2 ha h0 k1 k2 k3
  obtain ⟨cg, hcg⟩ := own_typed h.own g rfl
  have hne : ∀ k, In2 (.slice (some ⟨gs, 0, none⟩) m cs) (us.getD i []) k → k ≠ g := fun k hk e => h.ne hi (k := k) (by rw [hrow]; exact hk) (by rw [e]; rfl)
  have hal : a < (us.getD i []).length := by have := h2.len; omega
  have hgk3 : w3.heap[g]? = w.heap[g]? := (k2.block g (by have := blk_lt hcg; have := h0.size; omega) (fun e => hne g (.inr ⟨a, hal, e.symm⟩) rfl)).trans (h0.block g (blk_lt hcg))
  have hgw : (w3.setCell ⟨gs, a, none⟩ u).heap[g]? = w.heap[g]? := k6.block g (blk_lt hcg) (fun hk => hne g hk rfl)
  obtain ⟨Au, cu, e1, e2, e3⟩ := k4.reads
  have hfr : Fr (fun k => k = g ∨ In2 (vs.getD i undef) (us.getD i []) k) w (w3.setCell ⟨gs, a, none⟩ u) := k6.mono (fun k hk => .inr (by rw [hrow]; exact hk))
  exact ⟨j1, j2, World.cell?_of_block hgk3, h.patch hi hX hfr (fun j hj => World.cell?_of_block hgw) (by rw [World.cell?_of_block (w := w) hgw, hcg0, hrow, e1]) e2 e3, hfr⟩
theorem T3.head (h : T3 w b (.slice (some ⟨g, 0, none⟩) n cap) vs us X) (hi : i < X.length) (hp : 0 < (X.getD i []).length) :
    ∃ gs cs, vs.getD i undef = .slice (some ⟨gs, 0, none⟩) (X.getD i []).length cs ∧ w.cell? ⟨g, i, none⟩ = some (.slice (some ⟨gs, 0, none⟩) (X.getD i []).length cs) ∧
      ∀ a, a < (X.getD i []).length → w.cell? ⟨gs, a, none⟩ = some ((us.getD i []).getD a undef) ∧ ∃ A4 c4, (us.getD i []).getD a undef = .slice A4 ((X.getD i []).getD a []).length c4 ∧ ((X.getD i []).getD a []).length ≤ c4 ∧ T1 w b (.slice A4 ((X.getD i []).getD a []).length c4) ((X.getD i []).getD a []) := by
  have h2 := h.el i hi
  rcases h2.open_ with ⟨_, _, h3⟩ | ⟨gs, cap2, cur, h1, _⟩
  · rw [h3] at hp
    exact absurd hp (Nat.lt_irrefl _)
  · refine ⟨gs, cap2, h1, by rw [(h.cell hi).1, h1], fun a ha => ?_⟩
    rw [h1] at h2
    have hel := h2.el a (by have := h2.len; omega)
    obtain ⟨A4, c4, e1, e2, _⟩ := hel.reads
    exact ⟨(h2.cell ha).1, A4, c4, e1, e2, by rw [← e1]; exact hel⟩
end
end Go.Proofs.Ytkgocbmnjlfkoaa.M
end
section
namespace Go.Proofs.Ytkgocbmnjlfkoaa.M
open Go.RowKit Go.Proofs.Ytkgocbmnjlfkoaa.X Go.Proofs.YtkgocbmnjlfkoaaW.PrintWords Go.Proofs.YtkgocbmnjlfkoaaW.PrintLast Go.Proofs.YtkgocbmnjlfkoaaW.PrintMore
set_option linter.unusedVariables false
set_option linter.unusedSimpArgs false
set_option maxRecDepth 100000 in
set_option maxHeartbeats 8000000 in
theorem mustValid_walk (A0 : Option Addr) (c0 : Nat) (l : List Int) (what bb : Int) (w : World) (hr : C1 w A0 l) (hc : l.length ≤ c0) (hl : l.length ≤ 17592186044416) :
    Calls Try.prog 4 #[.slice A0 l.length c0, .int .i64 what, .int .i64 bb] w fun e w' => e = .returned (.bool true) ∧ Below w.heap.size w w' := by
  have hnew := Aside0.mk (new_calls A0 c0 l w hr hc hl)
  clear hr
  go_enter Try.func4, Try.ntmps4
  go_upto_region 2 with (first | (go_at_call 14; refine hnew.out.mono ?_; rintro e w1 ⟨g, rfl, hd1, hb1⟩; have H1 := Aside0.mk (LM.first hd1); clear hd1 hb1))
  go_upto_region 3 with (first | (go_at_call 15; (with_reducible refine (LM.cache H1.out).mono ?_); rintro e w2 ⟨S, W, L, rfl, hC, hL⟩; have HC := Aside0.mk hC; have H2 := Aside0.mk hL; clear hC hL))
  have H3 := Aside0.mk (LM.newB H2.out #[.int .i64 S, .int .i64 W, .int .i64 L] 26 (by unfold BoxT; decide))
  generalize w2.heap.size = bc at *
  generalize w2.alloc (.cells #[.int .i64 S, .int .i64 W, .int .i64 L] 26) = w3 at *
  have hW1 := HC.out.w1
  have hS8 := HC.out.s8
  have hW4 := HC.out.w4
  clear hnew
  have qbc0 := LM.cell H3.out 0 rfl 0 rfl
  have qbc1 := LM.cell H3.out 0 rfl 1 rfl
  have qbc2 := LM.cell H3.out 0 rfl 2 rfl
  go_upto_region 4 with (first | (go_at_call 22; (with_reducible refine (LM.must HC.out H3.out).mono ?_); rintro e w4 ⟨A4, k4, X, rfl, hV, hL⟩; have HVX := Aside0.mk hV; have H4 := Aside0.mk hL; clear hV hL))
  clear qbc0 qbc1 qbc2
  have H5 := Aside0.mk (LM.newB H4.out #[.slice A4 X.length k4] 39 (by unfold BoxT; decide))
  generalize w4.heap.size = pm at *
  generalize w4.alloc (.cells #[.slice A4 X.length k4] 39) = w5 at *
  have qpm0 := LM.cell H5.out 0 rfl 0 rfl
  go_upto_region 5 with (first | (go_at_call 23; (with_reducible refine (LM.rcopy H5.out 0 rfl (HVX.out.fit.short hS8 hW4)).mono ?_); rintro e w6 ⟨Ac, kc, vs, us, rfl, hT, hL, hz⟩; have H6 := Aside0.mk hL; have HT6 := Aside0.mk hT; have HZ := Aside0.mk hz; clear hT hL hz; have qz := LM.cell H6.out 0 rfl 0 rfl; have qzf := LM.free H6.out 0 rfl 0))
  clear qpm0 qz qzf
  have H7 : Aside0 (LM w (w6.setCell ⟨pm, 0, none⟩ (.slice Ac X.length kc)) g l [(pm, #[.slice Ac X.length kc], 39), (bc, #[.int .i64 S, .int .i64 W, .int .i64 L], 26)] []) := ⟨LM.put H6.out 0 rfl 0 (.slice Ac X.length kc)⟩
  have HT7 := Aside0.mk (HT6.out.setFar (LM.blk H6.out 0 rfl) (by decide) (i := 0) (.slice Ac X.length kc))
  clear H6 HT6
  generalize (w6.setCell ⟨pm, 0, none⟩ (.slice Ac X.length kc)) = w7 at *
  generalize w5.heap.size = b at *
  have qbc0 := LM.cell H7.out 1 rfl 0 rfl
  have qbc1 := LM.cell H7.out 1 rfl 1 rfl
  have qbc2 := LM.cell H7.out 1 rfl 2 rfl
  go_upto_if 24 with (fail)
  clear qbc0 qbc1 qbc2
  go_cut [] from 22 to 94 (fun wx => Aside0 (∃ A k X', X'.length ≤ k ∧ Small3 X' ∧ C3 wx A X' ∧ LM w wx g l [(pm, #[.slice A X'.length k], 39), (bc, #[.int .i64 S, .int .i64 W, .int .i64 L], 26)] []))
  case first =>
    have HSM := Aside0.mk (HVX.out.small hS8 hW4)
    by_cases hS0 : S = 0
    · have g1 : decide ((0 : Int) < (S : Int)) = false := decide_eq_false (by omega)
      have g1n : decide (0 < S) = false := decide_eq_false (by omega)
      have g1m : ¬ 0 < S := by omega
      clear hS0
      obtain ⟨Ad, kd, e1, e2, e3⟩ := HT7.out.reads
      injection e1 with e1 _ e4
      subst e1
      subst e4
      have HC3 := Aside0.mk e3
      clear e3
      go_wp2_with fail
      go_meet
      case rel => exact ⟨Ac, kc, X, e2, HSM.out, HC3.out, H7.out⟩
    · have g1 : decide ((0 : Int) < (S : Int)) = true := decide_eq_true (by omega)
      have g1n : decide (0 < S) = true := decide_eq_true (by omega)
      have g1m : 0 < S := by omega
      have hXl : X.length = S := HVX.out.len
      have HXL := Aside0.mk hXl
      clear hXl
      have qbc0 := LM.cell H7.out 1 rfl 0 rfl
      have qbc1 := LM.cell H7.out 1 rfl 1 rfl
      have qbc2 := LM.cell H7.out 1 rfl 2 rfl
      go_upto_region 7 with (first | (go_at_call 18; (with_reducible refine (next_calls H7.out.deck (S : Int) (by omega)).mono ?_); rintro e w8 ⟨s, rfl, hj1, hj2, hd, hk⟩; have H8 := Aside0.mk (LM.turn H7.out hd hk); have HT8 := Aside0.mk (HT7.out.keepD H7.out.deck hk); have hsS : s < S := (by have := hj1 (by omega); omega); clear hj1 hj2 hd hk))
      clear qbc0 qbc1 qbc2 H7 HT7
      go_upto_region 8 with (first | (go_at_call 24; (with_reducible refine (mod_calls what 4 (by decide) (by decide) _).mono ?_); rintro e w9 ⟨v, rfl, hv, hb⟩; have H9 := Aside0.mk (LM.step H8.out hb); have HT9 := Aside0.mk (HT8.out.below hb); clear hb))
      clear H8 HT8
      have hsx : s < X.length := by rw [HXL.out]; exact hsS
      have hrl : (X.getD s []).length = W := (HVX.out.el s hsS).len
      obtain ⟨g1, hg1⟩ : ∃ g1, Ac = some ⟨g1, 0, none⟩ := by
        rcases HT9.out.open_ with ⟨_, _, h0⟩ | ⟨g1, cap, cur, h1, _⟩
        · rw [h0] at hsx
          cases hsx
        · injection h1 with h1
          exact ⟨g1, h1⟩
      subst hg1
      obtain ⟨gs, cs, hrow, hch, hel⟩ := T3.head HT9.out hsx (by omega)
      have hul : (us.getD s []).length = W := by have := (HT9.out.el s hsx).len; omega
      have HTY := Aside0.mk (fun k (hk : k = g1 ∨ In2 (vs.getD s undef) (us.getD s []) k) => (show w.heap.size ≤ k ∧ ∃ cs t, (t = 43 ∨ t = 22 ∨ t = 3) ∧ w9.heap[k]? = some (.cells cs t (0, 0)) from ⟨Nat.le_trans HZ.out (T3.typed HT9.out hk hsx).1, (T3.typed HT9.out hk hsx).2⟩))
      have HROW := Aside0.mk hrow
      have HEL := Aside0.mk hel
      have HRL := Aside0.mk hrl
      have HUL := Aside0.mk hul
      have hxl8 : X.length < 9 := by rw [HXL.out]; omega
      have hbw : b ≤ w9.heap.size := by have := (HT9.out.lt (.inl rfl)); omega
      have HBW := Aside0.mk hbw
      clear hrow hel hrl hul hbw
      rw [HRL.out] at hch
      have hv4 : v = 0 ∨ v = 1 ∨ v = 2 ∨ v = 3 := by omega
      clear hv
      rcases hv4 with rfl | rfl | rfl | rfl
      · go_upto_region 9 with (fail)
        have hpm := LM.cell H9.out 0 rfl 0 rfl
        have HB1 : Aside0 (Below w9.heap.size w9 (w9.alloc (.cells #[.slice none 0 0] 22)).drew) := ⟨((Below.refl _ _).alloc (Nat.le_refl _) _).drew⟩
        have HOWN : Aside0 ((w9.alloc (.cells #[.slice none 0 0] 22)).drew.ownsRow b 22 1 (.slice (some ⟨gs, 0, none⟩) W cs) (us.getD s []).length (us.getD s [])) := ⟨by have h2 := (HT9.out.el s hsx).fr (S := fun _ => False) (Fr.ofBelow HB1.out) (fun _ _ => id); rw [HROW.out] at h2; have h3 := h2.own; rw [HRL.out] at h3; exact h3⟩
        refine HeldTill.begin_ (S := fun (w' : World) => w'.cell? ⟨pm, 0, none⟩ = some (.slice (some ⟨g1, 0, none⟩) X.length kc) ∧ w'.cell? ⟨g1, s, none⟩ = some (.slice (some ⟨gs, 0, none⟩) W cs)) (F := fun j => j != 11) (by kernel_rfl) ?_
        have hSq0 : (fun (w' : World) => w'.cell? ⟨pm, 0, none⟩ = some (.slice (some ⟨g1, 0, none⟩) X.length kc) ∧ w'.cell? ⟨g1, s, none⟩ = some (.slice (some ⟨gs, 0, none⟩) W cs)) w9.drew := ⟨hpm, hch⟩
        refine HeldTill.take (i := 0) (n := 11) (v := ?_) rfl (by kernel_rfl) (by kernel_rfl) (by kernel_rfl) (by kernel_rfl) (fun _ _ _ h => h) (Or.inl ⟨by rfl, ?_⟩) hSq0 ?_
        rotate_left
        · intro w hSw; (try dsimp only at hSw); go_simp; (try with_reducible rfl)
        simp only [Act.put, List.setIfInBounds_toArray, List.set_cons_zero, List.set_cons_succ, List.getElem_toArray, List.getElem_cons_zero, List.getElem_cons_succ]
        refine HeldTill.take (i := 1) (n := 10) (v := ?_) rfl (by kernel_rfl) (by kernel_rfl) (by kernel_rfl) (by kernel_rfl) (fun _ _ _ h => h) (Or.inl ⟨by rfl, ?_⟩) hSq0 ?_
        rotate_left
        · intro w hSw; (try dsimp only at hSw); go_simp; (try with_reducible rfl)
        simp only [Act.put, List.setIfInBounds_toArray, List.set_cons_zero, List.set_cons_succ, List.getElem_toArray, List.getElem_cons_zero, List.getElem_cons_succ]
        refine HeldTill.take (i := 2) (n := 9) (v := ?_) rfl (by kernel_rfl) (by kernel_rfl) (by kernel_rfl) (by kernel_rfl) (fun _ _ _ h => h) (Or.inl ⟨by rfl, ?_⟩) hSq0 ?_
        rotate_left
        · intro w hSw; (try dsimp only at hSw); go_simp; (try with_reducible rfl)
        simp only [Act.put, List.setIfInBounds_toArray, List.set_cons_zero, List.set_cons_succ, List.getElem_toArray, List.getElem_cons_zero, List.getElem_cons_succ]
        refine HeldTill.take (i := 3) (n := 8) (v := ?_) rfl (by kernel_rfl) (by kernel_rfl) (by kernel_rfl) (by kernel_rfl) (fun _ _ _ h => h) (Or.inl ⟨by rfl, ?_⟩) hSq0 ?_
        rotate_left
        · intro w hSw; (try dsimp only at hSw); go_simp; (try with_reducible rfl)
        simp only [Act.put, List.setIfInBounds_toArray, List.set_cons_zero, List.set_cons_succ, List.getElem_toArray, List.getElem_cons_zero, List.getElem_cons_succ]
        refine HeldTill.take (i := 4) (n := 7) (v := ?_) rfl (by kernel_rfl) (by kernel_rfl) (by kernel_rfl) (by kernel_rfl) (fun _ _ _ h => h) (Or.inl ⟨by rfl, ?_⟩) hSq0 ?_
        rotate_left
        · intro w hSw; (try dsimp only at hSw); go_simp; (try with_reducible rfl)
        simp only [Act.put, List.setIfInBounds_toArray, List.set_cons_zero, List.set_cons_succ, List.getElem_toArray, List.getElem_cons_zero, List.getElem_cons_succ]
        refine HeldTill.take (i := 5) (n := 6) (v := ?_) rfl (by kernel_rfl) (by kernel_rfl) (by kernel_rfl) (by kernel_rfl) (fun _ _ _ h => h) (Or.inl ⟨by rfl, ?_⟩) hSq0 ?_
        rotate_left
        · intro w hSw; (try dsimp only at hSw); go_simp; (try with_reducible rfl)
        simp only [Act.put, List.setIfInBounds_toArray, List.set_cons_zero, List.set_cons_succ, List.getElem_toArray, List.getElem_cons_zero, List.getElem_cons_succ]
        refine HeldTill.take (i := 6) (n := 5) (v := ?_) rfl (by kernel_rfl) (by kernel_rfl) (by kernel_rfl) (by kernel_rfl) (fun _ _ _ h => h) (Or.inl ⟨by rfl, ?_⟩) hSq0 ?_
        rotate_left
        · intro w hSw; (try dsimp only at hSw); go_simp; (try with_reducible rfl)
        simp only [Act.put, List.setIfInBounds_toArray, List.set_cons_zero, List.set_cons_succ, List.getElem_toArray, List.getElem_cons_zero, List.getElem_cons_succ]
        refine HeldTill.take (i := 7) (n := 4) (v := ?_) rfl (by kernel_rfl) (by kernel_rfl) (by kernel_rfl) (by kernel_rfl) (fun _ _ _ h => h) (Or.inl ⟨by rfl, ?_⟩) hSq0 ?_
        rotate_left
        · intro w hSw; (try dsimp only at hSw); go_simp; (try with_reducible rfl)
        simp only [Act.put, List.setIfInBounds_toArray, List.set_cons_zero, List.set_cons_succ, List.getElem_toArray, List.getElem_cons_zero, List.getElem_cons_succ]
        refine HeldTill.next (j := 8) (n := 3) (by kernel_rfl) rfl ?_
        go_wp2
        have hSq1 : (fun (w' : World) => w'.cell? ⟨pm, 0, none⟩ = some (.slice (some ⟨g1, 0, none⟩) X.length kc) ∧ w'.cell? ⟨g1, s, none⟩ = some (.slice (some ⟨gs, 0, none⟩) W cs)) _ := ⟨pw_cell_below HB1.out hpm, pw_cell_below HB1.out hch⟩
        refine ⟨(by first | exact fun _ => hSq1 | exact hSq1), ?_⟩
        refine HeldTill.next (j := 9) (n := 2) (by kernel_rfl) rfl ?_
        refine app_one rfl (.tmp 40) (.tmp 41) 43 22 (.slice none 0 0) 24 rfl Try.underlying43 info22 rfl b (.slice (some ⟨gs, 0, none⟩) W cs) (.slice none 0 0) (us.getD s []) w9.heap.size rfl rfl (heap_new w9 _) rfl HOWN.out (by rw [HUL.out]; omega) (by rw [HUL.out]; unfold maxLen; omega) (Nat.le_trans HBW.out HB1.out.size) ?_; intro g' cap' w30 ho hgr hlie; have HQ := Aside0.mk (T3.app0 HT9.out hsx (by omega) HB1.out ho (by rw [HROW.out, HRL.out]; exact hgr) (by rw [HROW.out, HRL.out]; rcases hlie with h | h; exact .inl h; right; rw [h]; exact HB1.out.size)); have HL30 := Aside0.mk (LM.fr H9.out (w' := w30) (((Fr.ofBelow HB1.out).trans ((Fr.grown hgr).mono (fun k hk => (.inr (.inl (by rw [HROW.out, HRL.out]; exact hk)) : k = g1 ∨ In2 (vs.getD s undef) (us.getD s []) k))))) HTY.out); have hrr := HQ.out.1; rw [HROW.out, HRL.out] at hrr; clear ho hgr hlie
        go_wp2
        have hSq2 : (fun (w' : World) => w'.cell? ⟨pm, 0, none⟩ = some (.slice (some ⟨g1, 0, none⟩) X.length kc) ∧ w'.cell? ⟨g1, s, none⟩ = some (.slice (some ⟨gs, 0, none⟩) W cs)) _ := ⟨LM.cell HL30.out 0 rfl 0 rfl, hrr⟩
        refine ⟨(by first | exact fun _ => hSq2 | exact hSq2), ?_⟩
        refine HeldTill.take (i := 10) (n := 1) (v := ?_) rfl (by kernel_rfl) (by kernel_rfl) (by kernel_rfl) (by kernel_rfl) (fun _ _ _ h => h) (Or.inl ⟨by rfl, ?_⟩) hSq2 ?_
        rotate_left
        · intro w hSw; (try dsimp only at hSw); go_simp; (try with_reducible rfl)
        simp only [Act.put, List.setIfInBounds_toArray, List.set_cons_zero, List.set_cons_succ, List.getElem_toArray, List.getElem_cons_zero, List.getElem_cons_succ]
        refine HeldTill.next (j := 11) (n := 0) (by kernel_rfl) rfl ?_
        have qf := HQ.out.2.1
        go_wp2
        first | refine ⟨fun h => absurd h (by decide), (by kernel_rfl), ?_⟩ | refine ⟨(by kernel_rfl), ?_⟩
        have HFIN := Aside0.mk (And.intro HQ.out.2.2.2.1 (LM.fr H9.out HQ.out.2.2.2.2 HTY.out))
        have HLE := Aside0.mk (show (X.set s (X.getD s [] ++ [[]])).length ≤ kc by rw [List.length_set]; exact (T3.rd HT9.out).2.1)
        have HS9 := Aside0.mk (HSM.out.set s (ys := X.getD s [] ++ [[]]) ⟨by rw [List.length_append, HRL.out]; simp; omega, fun l hl => by rcases List.mem_append.1 hl with h | h; exact (HSM.out.2 (X.getD s []) (by rw [getD_lt hsx]; exact List.getElem_mem hsx)).2 l h; rw [List.mem_singleton.1 h]; simp⟩)
        go_wp2_with fail
        go_meet
        case rel => exact ⟨_, _, _, HLE.out, HS9.out, HFIN.out.1, by rw [List.length_set]; exact HFIN.out.2⟩
      · go_upto_region 11 with (fail)
        obtain ⟨hc4, A4, c4, e1, e2, e3⟩ := HEL.out 0 (by rw [HRL.out]; omega)
        rw [e1] at hc4
        have hWn : 0 < W := by omega
        have hl0 : ((X.getD s []).getD 0 []).length ≤ 1048577 := ((HVX.out.el s hsS).good _ (by rw [getD_lt (show 0 < (X.getD s []).length by rw [HRL.out]; omega)]; exact List.getElem_mem _)).2
        have hpm := LM.cell H9.out 0 rfl 0 rfl
        generalize (X.getD s []).getD 0 [] = l0 at *
        have HE1 := Aside0.mk e1
        have HE3 := Aside0.mk e3
        have HNL := Aside0.mk (show ((nums .i64 l0).length + 1) * 8 ≤ 140737488355328 by simp [nums]; omega)
        have HNM := Aside0.mk (show (nums .i64 l0).length + 1 ≤ maxLen by simp [nums, maxLen]; omega)
        clear e1 e3
        refine HeldTill.begin_ (S := fun (w' : World) => w'.cell? ⟨pm, 0, none⟩ = some (.slice (some ⟨g1, 0, none⟩) X.length kc) ∧ w'.cell? ⟨g1, s, none⟩ = some (.slice (some ⟨gs, 0, none⟩) W cs) ∧ w'.cell? ⟨gs, 0, none⟩ = some (.slice A4 l0.length c4)) (F := fun j => j != 18) (by kernel_rfl) ?_
        have hSq0 : (fun (w' : World) => w'.cell? ⟨pm, 0, none⟩ = some (.slice (some ⟨g1, 0, none⟩) X.length kc) ∧ w'.cell? ⟨g1, s, none⟩ = some (.slice (some ⟨gs, 0, none⟩) W cs) ∧ w'.cell? ⟨gs, 0, none⟩ = some (.slice A4 l0.length c4)) w9.drew := ⟨hpm, hch, hc4⟩
        refine HeldTill.take (i := 0) (n := 18) (v := ?_) rfl (by kernel_rfl) (by kernel_rfl) (by kernel_rfl) (by kernel_rfl) (fun _ _ _ h => h) (Or.inl ⟨by rfl, ?_⟩) hSq0 ?_
        rotate_left
        · intro w hSw; (try dsimp only at hSw); go_simp; (try with_reducible rfl)
        simp only [Act.put, List.setIfInBounds_toArray, List.set_cons_zero, List.set_cons_succ, List.getElem_toArray, List.getElem_cons_zero, List.getElem_cons_succ]
        refine HeldTill.take (i := 1) (n := 17) (v := ?_) rfl (by kernel_rfl) (by kernel_rfl) (by kernel_rfl) (by kernel_rfl) (fun _ _ _ h => h) (Or.inl ⟨by rfl, ?_⟩) hSq0 ?_
        rotate_left
        · intro w hSw; (try dsimp only at hSw); go_simp; (try with_reducible rfl)
        simp only [Act.put, List.setIfInBounds_toArray, List.set_cons_zero, List.set_cons_succ, List.getElem_toArray, List.getElem_cons_zero, List.getElem_cons_succ]
        refine HeldTill.take (i := 2) (n := 16) (v := ?_) rfl (by kernel_rfl) (by kernel_rfl) (by kernel_rfl) (by kernel_rfl) (fun _ _ _ h => h) (Or.inl ⟨by rfl, ?_⟩) hSq0 ?_
        rotate_left
        · intro w hSw; (try dsimp only at hSw); go_simp; (try with_reducible rfl)
        simp only [Act.put, List.setIfInBounds_toArray, List.set_cons_zero, List.set_cons_succ, List.getElem_toArray, List.getElem_cons_zero, List.getElem_cons_succ]
        refine HeldTill.take (i := 3) (n := 15) (v := ?_) rfl (by kernel_rfl) (by kernel_rfl) (by kernel_rfl) (by kernel_rfl) (fun _ _ _ h => h) (Or.inl ⟨by rfl, ?_⟩) hSq0 ?_
        rotate_left
        · intro w hSw; (try dsimp only at hSw); go_simp; (try with_reducible rfl)
        simp only [Act.put, List.setIfInBounds_toArray, List.set_cons_zero, List.set_cons_succ, List.getElem_toArray, List.getElem_cons_zero, List.getElem_cons_succ]
        refine HeldTill.take (i := 4) (n := 14) (v := ?_) rfl (by kernel_rfl) (by kernel_rfl) (by kernel_rfl) (by kernel_rfl) (fun _ _ _ h => h) (Or.inl ⟨by rfl, ?_⟩) hSq0 ?_
        rotate_left
        · intro w hSw; (try dsimp only at hSw); go_simp; (try with_reducible rfl)
        simp only [Act.put, List.setIfInBounds_toArray, List.set_cons_zero, List.set_cons_succ, List.getElem_toArray, List.getElem_cons_zero, List.getElem_cons_succ]
        refine HeldTill.take (i := 5) (n := 13) (v := ?_) rfl (by kernel_rfl) (by kernel_rfl) (by kernel_rfl) (by kernel_rfl) (fun _ _ _ h => h) (Or.inl ⟨by rfl, ?_⟩) hSq0 ?_
        rotate_left
        · intro w hSw; (try dsimp only at hSw); go_simp; (try with_reducible rfl)
        simp only [Act.put, List.setIfInBounds_toArray, List.set_cons_zero, List.set_cons_succ, List.getElem_toArray, List.getElem_cons_zero, List.getElem_cons_succ]
        refine HeldTill.take (i := 6) (n := 12) (v := ?_) rfl (by kernel_rfl) (by kernel_rfl) (by kernel_rfl) (by kernel_rfl) (fun _ _ _ h => h) (Or.inl ⟨by rfl, ?_⟩) hSq0 ?_
        rotate_left
        · intro w hSw; (try dsimp only at hSw); go_simp; (try with_reducible rfl)
        simp only [Act.put, List.setIfInBounds_toArray, List.set_cons_zero, List.set_cons_succ, List.getElem_toArray, List.getElem_cons_zero, List.getElem_cons_succ]
        refine HeldTill.take (i := 7) (n := 11) (v := ?_) rfl (by kernel_rfl) (by kernel_rfl) (by kernel_rfl) (by kernel_rfl) (fun _ _ _ h => h) (Or.inl ⟨by rfl, ?_⟩) hSq0 ?_
        rotate_left
        · intro w hSw; (try dsimp only at hSw); go_simp; (try with_reducible rfl)
        simp only [Act.put, List.setIfInBounds_toArray, List.set_cons_zero, List.set_cons_succ, List.getElem_toArray, List.getElem_cons_zero, List.getElem_cons_succ]
        refine HeldTill.take (i := 8) (n := 10) (v := ?_) rfl (by kernel_rfl) (by kernel_rfl) (by kernel_rfl) (by kernel_rfl) (fun _ _ _ h => h) (Or.inl ⟨by rfl, ?_⟩) hSq0 ?_
        rotate_left
        · intro w hSw; (try dsimp only at hSw); go_simp; (try with_reducible rfl)
        simp only [Act.put, List.setIfInBounds_toArray, List.set_cons_zero, List.set_cons_succ, List.getElem_toArray, List.getElem_cons_zero, List.getElem_cons_succ]
        refine HeldTill.take (i := 9) (n := 9) (v := ?_) rfl (by kernel_rfl) (by kernel_rfl) (by kernel_rfl) (by kernel_rfl) (fun _ _ _ h => h) (Or.inl ⟨by rfl, ?_⟩) hSq0 ?_
        rotate_left
        · intro w hSw; (try dsimp only at hSw); go_simp; (try with_reducible rfl)
        simp only [Act.put, List.setIfInBounds_toArray, List.set_cons_zero, List.set_cons_succ, List.getElem_toArray, List.getElem_cons_zero, List.getElem_cons_succ]
        refine HeldTill.take (i := 10) (n := 8) (v := ?_) rfl (by kernel_rfl) (by kernel_rfl) (by kernel_rfl) (by kernel_rfl) (fun _ _ _ h => h) (Or.inl ⟨by rfl, ?_⟩) hSq0 ?_
        rotate_left
        · intro w hSw; (try dsimp only at hSw); go_simp; (try with_reducible rfl)
        simp only [Act.put, List.setIfInBounds_toArray, List.set_cons_zero, List.set_cons_succ, List.getElem_toArray, List.getElem_cons_zero, List.getElem_cons_succ]
        refine HeldTill.take (i := 11) (n := 7) (v := ?_) rfl (by kernel_rfl) (by kernel_rfl) (by kernel_rfl) (by kernel_rfl) (fun _ _ _ h => h) (Or.inl ⟨by rfl, ?_⟩) hSq0 ?_
        rotate_left
        · intro w hSw; (try dsimp only at hSw); go_simp; (try with_reducible rfl)
        simp only [Act.put, List.setIfInBounds_toArray, List.set_cons_zero, List.set_cons_succ, List.getElem_toArray, List.getElem_cons_zero, List.getElem_cons_succ]
        refine HeldTill.take (i := 12) (n := 6) (v := ?_) rfl (by kernel_rfl) (by kernel_rfl) (by kernel_rfl) (by kernel_rfl) (fun _ _ _ h => h) (Or.inl ⟨by rfl, ?_⟩) hSq0 ?_
        rotate_left
        · intro w hSw; (try dsimp only at hSw); go_simp; (try with_reducible rfl)
        simp only [Act.put, List.setIfInBounds_toArray, List.set_cons_zero, List.set_cons_succ, List.getElem_toArray, List.getElem_cons_zero, List.getElem_cons_succ]
        refine HeldTill.next (j := 13) (n := 5) (by kernel_rfl) rfl ?_
        go_wp2_with (go_at_call 24; (with_reducible refine (mod_calls bb 40 (by decide) (by decide) _).mono ?_); rintro e w31 ⟨v2, rfl, hv2, hb⟩; have HB31 := Aside0.mk (((Below.refl w9.heap.size w9).drew).trans (hb.mono (Nat.le_refl _))); have HB32 := Aside0.mk (Below.alloc HB31.out HB31.out.size (.cells #[.int .i64 ((v2 : Int) - 2)] 3)); have hws : IntKind.i64.wrap ((v2 : Int) - 2) = (v2 : Int) - 2 := IntWalk.i64_in _ (by omega); have HOWN : Aside0 ((w31.alloc (.cells #[.int .i64 ((v2 : Int) - 2)] 3)).ownsRow b 3 1 (.slice A4 l0.length c4) (nums .i64 l0).length (nums .i64 l0)) := ⟨by have h2 := HE3.out.fr (S := fun _ => False) (Fr.ofBelow HB32.out) (fun _ _ => id); have h3 : (nums .i64 l0).length = l0.length := (by simp [nums]); rw [h3]; exact h2⟩; clear hb)
        have hSq1 : (fun (w' : World) => w'.cell? ⟨pm, 0, none⟩ = some (.slice (some ⟨g1, 0, none⟩) X.length kc) ∧ w'.cell? ⟨g1, s, none⟩ = some (.slice (some ⟨gs, 0, none⟩) W cs) ∧ w'.cell? ⟨gs, 0, none⟩ = some (.slice A4 l0.length c4)) _ := ⟨pw_cell_below HB31.out hpm, pw_cell_below HB31.out hch, pw_cell_below HB31.out hc4⟩
        refine ⟨fun _ => hSq1, ?_⟩
        refine HeldTill.take (i := 14) (n := 4) (v := ?_) rfl (by kernel_rfl) (by kernel_rfl) (by kernel_rfl) (by kernel_rfl) (fun _ _ _ h => h) (Or.inl ⟨by rfl, ?_⟩) hSq1 ?_
        rotate_left
        · intro w hSw; (try dsimp only at hSw); go_simp; (try with_reducible rfl)
        simp only [Act.put, List.setIfInBounds_toArray, List.set_cons_zero, List.set_cons_succ, List.getElem_toArray, List.getElem_cons_zero, List.getElem_cons_succ]
        refine HeldTill.next (j := 15) (n := 3) (by kernel_rfl) rfl ?_
        go_wp2
        have hSq2 : (fun (w' : World) => w'.cell? ⟨pm, 0, none⟩ = some (.slice (some ⟨g1, 0, none⟩) X.length kc) ∧ w'.cell? ⟨g1, s, none⟩ = some (.slice (some ⟨gs, 0, none⟩) W cs) ∧ w'.cell? ⟨gs, 0, none⟩ = some (.slice A4 l0.length c4)) _ := ⟨pw_cell_below HB32.out hpm, pw_cell_below HB32.out hch, pw_cell_below HB32.out hc4⟩
        refine ⟨(by first | exact fun _ => hSq2 | exact hSq2), ?_⟩
        refine HeldTill.next (j := 16) (n := 2) (by kernel_rfl) rfl ?_
        refine app_one rfl (.tmp 57) (.tmp 61) 22 3 (.int .i64 0) 8 rfl Try.underlying22 info3 rfl b (.slice A4 l0.length c4) (.int .i64 ((v2 : Int) - 2)) (nums .i64 l0) w31.heap.size rfl rfl (heap_new w31 _) rfl HOWN.out HNL.out HNM.out (Nat.le_trans HBW.out HB32.out.size) ?_
        intro g' cap' w33 ho hgr hlie
        have HK1 := Aside0.mk (T1.snoc (w0 := w9) (v := .slice A4 l0.length c4) ho)
        have HQ := Aside0.mk (T3.app1 HT9.out hsx (by omega) HROW.out (show 0 < (X.getD s []).length by rw [HRL.out]; omega) HB32.out HK1.out (by rw [HE1.out]; exact hgr) (by rw [HE1.out]; exact hlie.elim (fun h => .inl (by rw [h]; rfl)) (fun h => .inr ⟨g', rfl, by rw [h]; exact HB32.out.size⟩)))
        have HL33 := Aside0.mk (LM.fr H9.out (w' := w33) ((Fr.ofBelow HB32.out).trans ((Fr.grown hgr).mono (fun k hk => (.inr (.inr ⟨0, by rw [HUL.out]; omega, by rw [HE1.out]; exact hk⟩) : k = g1 ∨ In2 (vs.getD s undef) (us.getD s []) k)))) HTY.out)
        have hq1 := HQ.out.1
        rw [HE1.out] at hq1
        have hq3 := HQ.out.2.2.1.trans hch
        clear ho hgr hlie
        go_wp2
        have hSq3 : (fun (w' : World) => w'.cell? ⟨pm, 0, none⟩ = some (.slice (some ⟨g1, 0, none⟩) X.length kc) ∧ w'.cell? ⟨g1, s, none⟩ = some (.slice (some ⟨gs, 0, none⟩) W cs) ∧ w'.cell? ⟨gs, 0, none⟩ = some (.slice A4 l0.length c4)) _ := ⟨LM.cell HL33.out 0 rfl 0 rfl, hq3, hq1⟩
        refine ⟨(by first | exact fun _ => hSq3 | exact hSq3), ?_⟩
        refine HeldTill.take (i := 17) (n := 1) (v := ?_) rfl (by kernel_rfl) (by kernel_rfl) (by kernel_rfl) (by kernel_rfl) (fun _ _ _ h => h) (Or.inl ⟨by rfl, ?_⟩) hSq3 ?_
        rotate_left
        · intro w hSw; (try dsimp only at hSw); go_simp; (try with_reducible rfl)
        simp only [Act.put, List.setIfInBounds_toArray, List.set_cons_zero, List.set_cons_succ, List.getElem_toArray, List.getElem_cons_zero, List.getElem_cons_succ]
        refine HeldTill.next (j := 18) (n := 0) (by kernel_rfl) rfl ?_
        have qf := HQ.out.2.1
        go_wp2
        first | refine ⟨fun h => absurd h (by decide), (by kernel_rfl), ?_⟩ | refine ⟨(by kernel_rfl), ?_⟩
        have HFIN := Aside0.mk (And.intro HQ.out.2.2.2.1 (LM.fr H9.out HQ.out.2.2.2.2 HTY.out))
        have HLE := Aside0.mk (show (X.set s ((X.getD s []).set 0 (l0 ++ [(v2 : Int) - 2]))).length ≤ kc by rw [List.length_set]; exact (T3.rd HT9.out).2.1)
        have HS9 := Aside0.mk (HSM.out.set s (ys := (X.getD s []).set 0 (l0 ++ [(v2 : Int) - 2])) ⟨by rw [List.length_set, HRL.out]; omega, fun l hl => by rcases List.mem_or_eq_of_mem_set hl with h | h; exact (HSM.out.2 (X.getD s []) (by rw [getD_lt hsx]; exact List.getElem_mem hsx)).2 l h; rw [h, List.length_append, List.length_singleton]; omega⟩)
        go_wp2_with fail
        go_meet
        case rel => exact ⟨_, _, _, HLE.out, HS9.out, HFIN.out.1, by rw [List.length_set]; exact HFIN.out.2⟩
      · go_upto_region 13 with (fail)
        have hpm := LM.cell H9.out 0 rfl 0 rfl
        have hpf := LM.free H9.out 0 rfl 0
        have hX1 : 1 ≤ X.length := by omega
        have hXk : X.length ≤ kc := (T3.rd HT9.out).2.1
        have hXi : (1 : Int) ≤ (X.length : Int) := by omega
        have hXki : (X.length : Int) ≤ (kc : Int) := by omega
        have hkc9 := (HT9.out.own)
        clear hkc9
        have hXp : 0 < X.length := by omega
        have HCS := Aside0.mk (fun v => (T3.rd (HT9.out.setFar (LM.blk H9.out 0 rfl) (by decide) (i := 0) v)).2.2)
        by_cases hkc : kc = 1
        · subst hkc
          have HPUT := Aside0.mk (LM.put H9.out 0 rfl 0 (.slice (some ⟨g1, 0, none⟩) (X.length - 1) 0))
          have hz : X.length - 1 = 0 := by omega
          have HZ1 := Aside0.mk hz
          clear hz
          go_wp2_with fail
          go_meet
          case rel => exact ⟨some ⟨g1, 0, none⟩, 0, [], Nat.le_refl _, ⟨by simp, fun r hr => by cases hr⟩, C3.nil _ _, by have h := HPUT.out; rw [HZ1.out] at h; exact h⟩
        · have HPUT := Aside0.mk (LM.put H9.out 0 rfl 0 (.slice (some ⟨g1, 1, none⟩) (X.length - 1) (kc - 1)))
          have HC9 : Aside0 (C3 (w9.setCell ⟨pm, 0, none⟩ (.slice (some ⟨g1, 1, none⟩) (X.length - 1) (kc - 1))) (some ⟨g1, 1, none⟩) X.tail) := ⟨by have h := HCS.out (.slice (some ⟨g1, 1, none⟩) (X.length - 1) (kc - 1)); cases X with | nil => exact absurd hsx (by simp) | cons r x => have h2 := C3.tail h; rw [add0] at h2; exact h2⟩
          have HSM2 : Aside0 (Small3 X.tail) := ⟨⟨by rw [List.length_tail]; omega, fun r hr => HSM.out.2 r (List.mem_of_mem_tail hr)⟩⟩
          go_wp2_with fail
          go_meet
          case rel => exact ⟨some ⟨g1, 1, none⟩, kc - 1, X.tail, by rw [List.length_tail]; omega, HSM2.out, HC9.out, by rw [List.length_tail]; exact HPUT.out⟩
      · go_upto_region 15 with (fail)
        obtain ⟨p, hp⟩ : ∃ p, W = p + 1 := ⟨W - 1, by omega⟩
        have hpW : p < W := by omega
        have hpi : (p : Int) < (W : Int) := by omega
        have hp0 : (0 : Int) ≤ (p : Int) := by omega
        have hpt : ((p : Int)).toNat = p := Int.toNat_natCast p
        have hwW : IntKind.i64.wrap ((W : Int) - 1) = (p : Int) := by rw [show (W : Int) - 1 = (p : Int) by omega]; exact IntWalk.i64_in _ (by omega)
        have HPW := Aside0.mk hp
        clear hp
        obtain ⟨hc4, A4, c4, e1, e2, e3⟩ := HEL.out p (by rw [HRL.out]; omega)
        rw [e1] at hc4
        have hWn : 0 < W := by omega
        have hl0 : ((X.getD s []).getD p []).length ≤ 1048577 := ((HVX.out.el s hsS).good _ (by rw [getD_lt (show p < (X.getD s []).length by rw [HRL.out]; omega)]; exact List.getElem_mem _)).2
        have hpm := LM.cell H9.out 0 rfl 0 rfl
        generalize (X.getD s []).getD p [] = l0 at *
        have HE1 := Aside0.mk e1
        have HE3 := Aside0.mk e3
        have HNL := Aside0.mk (show ((nums .i64 l0).length + 1) * 8 ≤ 140737488355328 by simp [nums]; omega)
        have HNM := Aside0.mk (show (nums .i64 l0).length + 1 ≤ maxLen by simp [nums, maxLen]; omega)
        clear e1 e3
        have hbc1 := LM.cell H9.out 1 rfl 1 rfl
        refine HeldTill.begin_ (S := fun (w' : World) => w'.cell? ⟨pm, 0, none⟩ = some (.slice (some ⟨g1, 0, none⟩) X.length kc) ∧ w'.cell? ⟨g1, s, none⟩ = some (.slice (some ⟨gs, 0, none⟩) W cs) ∧ w'.cell? ⟨gs, p, none⟩ = some (.slice A4 l0.length c4) ∧ w'.cell? ⟨bc, 1, none⟩ = some (.int .i64 W)) (F := fun j => j != 23) (by kernel_rfl) ?_
        have hSq0 : (fun (w' : World) => w'.cell? ⟨pm, 0, none⟩ = some (.slice (some ⟨g1, 0, none⟩) X.length kc) ∧ w'.cell? ⟨g1, s, none⟩ = some (.slice (some ⟨gs, 0, none⟩) W cs) ∧ w'.cell? ⟨gs, p, none⟩ = some (.slice A4 l0.length c4) ∧ w'.cell? ⟨bc, 1, none⟩ = some (.int .i64 W)) w9.drew := ⟨hpm, hch, hc4, hbc1⟩
        refine HeldTill.take (i := 0) (n := 23) (v := ?_) rfl (by kernel_rfl) (by kernel_rfl) (by kernel_rfl) (by kernel_rfl) (fun _ _ _ h => h) (Or.inl ⟨by rfl, ?_⟩) hSq0 ?_
        rotate_left
        · intro w hSw; (try dsimp only at hSw); go_simp; (try with_reducible rfl)
        simp only [Act.put, List.setIfInBounds_toArray, List.set_cons_zero, List.set_cons_succ, List.getElem_toArray, List.getElem_cons_zero, List.getElem_cons_succ]
        refine HeldTill.take (i := 1) (n := 22) (v := ?_) rfl (by kernel_rfl) (by kernel_rfl) (by kernel_rfl) (by kernel_rfl) (fun _ _ _ h => h) (Or.inl ⟨by rfl, ?_⟩) hSq0 ?_
        rotate_left
        · intro w hSw; (try dsimp only at hSw); go_simp; (try with_reducible rfl)
        simp only [Act.put, List.setIfInBounds_toArray, List.set_cons_zero, List.set_cons_succ, List.getElem_toArray, List.getElem_cons_zero, List.getElem_cons_succ]
        refine HeldTill.take (i := 2) (n := 21) (v := ?_) rfl (by kernel_rfl) (by kernel_rfl) (by kernel_rfl) (by kernel_rfl) (fun _ _ _ h => h) (Or.inl ⟨by rfl, ?_⟩) hSq0 ?_
        rotate_left
        · intro w hSw; (try dsimp only at hSw); go_simp; (try with_reducible rfl)
        simp only [Act.put, List.setIfInBounds_toArray, List.set_cons_zero, List.set_cons_succ, List.getElem_toArray, List.getElem_cons_zero, List.getElem_cons_succ]
        refine HeldTill.take (i := 3) (n := 20) (v := ?_) rfl (by kernel_rfl) (by kernel_rfl) (by kernel_rfl) (by kernel_rfl) (fun _ _ _ h => h) (Or.inl ⟨by rfl, ?_⟩) hSq0 ?_
        rotate_left
        · intro w hSw; (try dsimp only at hSw); go_simp; (try with_reducible rfl)
        simp only [Act.put, List.setIfInBounds_toArray, List.set_cons_zero, List.set_cons_succ, List.getElem_toArray, List.getElem_cons_zero, List.getElem_cons_succ]
        refine HeldTill.take (i := 4) (n := 19) (v := ?_) rfl (by kernel_rfl) (by kernel_rfl) (by kernel_rfl) (by kernel_rfl) (fun _ _ _ h => h) (Or.inl ⟨by rfl, ?_⟩) hSq0 ?_
        rotate_left
        · intro w hSw; (try dsimp only at hSw); go_simp; (try with_reducible rfl)
        simp only [Act.put, List.setIfInBounds_toArray, List.set_cons_zero, List.set_cons_succ, List.getElem_toArray, List.getElem_cons_zero, List.getElem_cons_succ]
        refine HeldTill.take (i := 5) (n := 18) (v := ?_) rfl (by kernel_rfl) (by kernel_rfl) (by kernel_rfl) (by kernel_rfl) (fun _ _ _ h => h) (Or.inl ⟨by rfl, ?_⟩) hSq0 ?_
        rotate_left
        · intro w hSw; (try dsimp only at hSw); go_simp; (try with_reducible rfl)
        simp only [Act.put, List.setIfInBounds_toArray, List.set_cons_zero, List.set_cons_succ, List.getElem_toArray, List.getElem_cons_zero, List.getElem_cons_succ]
        refine HeldTill.take (i := 6) (n := 17) (v := ?_) rfl (by kernel_rfl) (by kernel_rfl) (by kernel_rfl) (by kernel_rfl) (fun _ _ _ h => h) (Or.inl ⟨by rfl, ?_⟩) hSq0 ?_
        rotate_left
        · intro w hSw; (try dsimp only at hSw); go_simp; (try with_reducible rfl)
        simp only [Act.put, List.setIfInBounds_toArray, List.set_cons_zero, List.set_cons_succ, List.getElem_toArray, List.getElem_cons_zero, List.getElem_cons_succ]
        refine HeldTill.take (i := 7) (n := 16) (v := ?_) rfl (by kernel_rfl) (by kernel_rfl) (by kernel_rfl) (by kernel_rfl) (fun _ _ _ h => h) (Or.inl ⟨by rfl, ?_⟩) hSq0 ?_
        rotate_left
        · intro w hSw; (try dsimp only at hSw); go_simp; (try with_reducible rfl)
        simp only [Act.put, List.setIfInBounds_toArray, List.set_cons_zero, List.set_cons_succ, List.getElem_toArray, List.getElem_cons_zero, List.getElem_cons_succ]
        refine HeldTill.take (i := 8) (n := 15) (v := ?_) rfl (by kernel_rfl) (by kernel_rfl) (by kernel_rfl) (by kernel_rfl) (fun _ _ _ h => h) (Or.inl ⟨by rfl, ?_⟩) hSq0 ?_
        rotate_left
        · intro w hSw; (try dsimp only at hSw); go_simp; (try with_reducible rfl)
        simp only [Act.put, List.setIfInBounds_toArray, List.set_cons_zero, List.set_cons_succ, List.getElem_toArray, List.getElem_cons_zero, List.getElem_cons_succ]
        refine HeldTill.take (i := 11) (n := 14) (v := ?_) rfl (by kernel_rfl) (by kernel_rfl) (by kernel_rfl) (by kernel_rfl) (fun _ _ _ h => h) (Or.inl ⟨by rfl, ?_⟩) hSq0 ?_
        rotate_left
        · intro w hSw; (try dsimp only at hSw); go_simp; (try with_reducible rfl)
        simp only [Act.put, List.setIfInBounds_toArray, List.set_cons_zero, List.set_cons_succ, List.getElem_toArray, List.getElem_cons_zero, List.getElem_cons_succ]
        refine HeldTill.take (i := 12) (n := 13) (v := ?_) rfl (by kernel_rfl) (by kernel_rfl) (by kernel_rfl) (by kernel_rfl) (fun _ _ _ h => h) (Or.inl ⟨by rfl, ?_⟩) hSq0 ?_
        rotate_left
        · intro w hSw; (try dsimp only at hSw); go_simp; (try with_reducible rfl)
        simp only [Act.put, List.setIfInBounds_toArray, List.set_cons_zero, List.set_cons_succ, List.getElem_toArray, List.getElem_cons_zero, List.getElem_cons_succ]
        refine HeldTill.take (i := 13) (n := 12) (v := ?_) rfl (by kernel_rfl) (by kernel_rfl) (by kernel_rfl) (by kernel_rfl) (fun _ _ _ h => h) (Or.inl ⟨by rfl, ?_⟩) hSq0 ?_
        rotate_left
        · intro w hSw; (try dsimp only at hSw); go_simp; (try with_reducible rfl)
        simp only [Act.put, List.setIfInBounds_toArray, List.set_cons_zero, List.set_cons_succ, List.getElem_toArray, List.getElem_cons_zero, List.getElem_cons_succ]
        refine HeldTill.take (i := 14) (n := 11) (v := ?_) rfl (by kernel_rfl) (by kernel_rfl) (by kernel_rfl) (by kernel_rfl) (fun _ _ _ h => h) (Or.inl ⟨by rfl, ?_⟩) hSq0 ?_
        rotate_left
        · intro w hSw; (try dsimp only at hSw); go_simp; (try with_reducible rfl)
        simp only [Act.put, List.setIfInBounds_toArray, List.set_cons_zero, List.set_cons_succ, List.getElem_toArray, List.getElem_cons_zero, List.getElem_cons_succ]
        refine HeldTill.take (i := 15) (n := 10) (v := ?_) rfl (by kernel_rfl) (by kernel_rfl) (by kernel_rfl) (by kernel_rfl) (fun _ _ _ h => h) (Or.inl ⟨by rfl, ?_⟩) hSq0 ?_
        rotate_left
        · intro w hSw; (try dsimp only at hSw); go_simp; (try with_reducible rfl)
        simp only [Act.put, List.setIfInBounds_toArray, List.set_cons_zero, List.set_cons_succ, List.getElem_toArray, List.getElem_cons_zero, List.getElem_cons_succ]
        refine HeldTill.take (i := 16) (n := 9) (v := ?_) rfl (by kernel_rfl) (by kernel_rfl) (by kernel_rfl) (by kernel_rfl) (fun _ _ _ h => h) (Or.inl ⟨by rfl, ?_⟩) hSq0 ?_
        rotate_left
        · intro w hSw; (try dsimp only at hSw); go_simp; (try with_reducible rfl)
        simp only [Act.put, List.setIfInBounds_toArray, List.set_cons_zero, List.set_cons_succ, List.getElem_toArray, List.getElem_cons_zero, List.getElem_cons_succ]
        refine HeldTill.take (i := 17) (n := 8) (v := ?_) rfl (by kernel_rfl) (by kernel_rfl) (by kernel_rfl) (by kernel_rfl) (fun _ _ _ h => h) (Or.inl ⟨by rfl, ?_⟩) hSq0 ?_
        rotate_left
        · intro w hSw; (try dsimp only at hSw); go_simp; (try with_reducible rfl)
        simp only [Act.put, List.setIfInBounds_toArray, List.set_cons_zero, List.set_cons_succ, List.getElem_toArray, List.getElem_cons_zero, List.getElem_cons_succ]
        refine HeldTill.take (i := 18) (n := 7) (v := ?_) rfl (by kernel_rfl) (by kernel_rfl) (by kernel_rfl) (by kernel_rfl) (fun _ _ _ h => h) (Or.inl ⟨by rfl, ?_⟩) hSq0 ?_
        rotate_left
        · intro w hSw; (try dsimp only at hSw); go_simp; (try with_reducible rfl)
        simp only [Act.put, List.setIfInBounds_toArray, List.set_cons_zero, List.set_cons_succ, List.getElem_toArray, List.getElem_cons_zero, List.getElem_cons_succ]
        refine HeldTill.take (i := 19) (n := 6) (v := ?_) rfl (by kernel_rfl) (by kernel_rfl) (by kernel_rfl) (by kernel_rfl) (fun _ _ _ h => h) (Or.inl ⟨by rfl, ?_⟩) hSq0 ?_
        rotate_left
        · intro w hSw; (try dsimp only at hSw); go_simp; (try with_reducible rfl)
        simp only [Act.put, List.setIfInBounds_toArray, List.set_cons_zero, List.set_cons_succ, List.getElem_toArray, List.getElem_cons_zero, List.getElem_cons_succ]
        refine HeldTill.take (i := 20) (n := 5) (v := ?_) rfl (by kernel_rfl) (by kernel_rfl) (by kernel_rfl) (by kernel_rfl) (fun _ _ _ h => h) (Or.inl ⟨by rfl, ?_⟩) hSq0 ?_
        rotate_left
        · intro w hSw; (try dsimp only at hSw); go_simp; (try with_reducible rfl)
        simp only [Act.put, List.setIfInBounds_toArray, List.set_cons_zero, List.set_cons_succ, List.getElem_toArray, List.getElem_cons_zero, List.getElem_cons_succ]
        refine HeldTill.next (j := 9) (n := 4) (by kernel_rfl) rfl ?_
        go_wp2_with (go_at_call 24; (with_reducible refine (mod_calls bb 1048580 (by decide) (by decide) _).mono ?_); rintro e w41 ⟨v3, rfl, hv3, hb⟩; have HB41 := Aside0.mk (((Below.refl w9.heap.size w9).drew).trans (hb.mono (Nat.le_refl _))); have HB42 := Aside0.mk (Below.alloc HB41.out HB41.out.size (.cells #[.int .i64 v3] 3)); have HNEW : Aside0 ((Kd.int .i64).R 3 (w41.alloc (.cells #[.int .i64 v3] 3)) w9.heap.size (fun _ => True) (.slice (some ⟨w41.heap.size, 0, none⟩) 1 1) [(v3 : Int)]) := ⟨T1.toR (T1.one w41 _ v3 HB41.out.size) (fun _ _ => trivial)⟩; have HRD : Aside0 (C1 (w41.alloc (.cells #[.int .i64 v3] 3)) A4 l0) := ⟨Kd.C_below (T1.rd HE3.out).2.2 HB42.out⟩; clear hb)
        have hSq1 : (fun (w' : World) => w'.cell? ⟨pm, 0, none⟩ = some (.slice (some ⟨g1, 0, none⟩) X.length kc) ∧ w'.cell? ⟨g1, s, none⟩ = some (.slice (some ⟨gs, 0, none⟩) W cs) ∧ w'.cell? ⟨gs, p, none⟩ = some (.slice A4 l0.length c4) ∧ w'.cell? ⟨bc, 1, none⟩ = some (.int .i64 W)) _ := ⟨pw_cell_below HB41.out hpm, pw_cell_below HB41.out hch, pw_cell_below HB41.out hc4, pw_cell_below HB41.out hbc1⟩
        refine ⟨fun _ => hSq1, ?_⟩
        refine HeldTill.next (j := 10) (n := 3) (by kernel_rfl) rfl ?_
        go_wp2
        have hSq2 : (fun (w' : World) => w'.cell? ⟨pm, 0, none⟩ = some (.slice (some ⟨g1, 0, none⟩) X.length kc) ∧ w'.cell? ⟨g1, s, none⟩ = some (.slice (some ⟨gs, 0, none⟩) W cs) ∧ w'.cell? ⟨gs, p, none⟩ = some (.slice A4 l0.length c4) ∧ w'.cell? ⟨bc, 1, none⟩ = some (.int .i64 W)) _ := ⟨pw_cell_below HB42.out hpm, pw_cell_below HB42.out hch, pw_cell_below HB42.out hc4, pw_cell_below HB42.out hbc1⟩
        refine ⟨(by first | exact fun _ => hSq2 | exact hSq2), ?_⟩
        refine HeldTill.next (j := 21) (n := 2) (by kernel_rfl) rfl ?_
        refine Kd.R_append_rows (Kd.int .i64) (w0 := w9) w9.heap.size rfl (.tmp 82) (.tmp 92) 22 3 (.int .i64 0) 8 rfl Try.underlying22 info3 rfl (by decide) (by decide) (.slice (some ⟨w41.heap.size, 0, none⟩) 1 1) [(v3 : Int)] l0 A4 l0.length c4 (fun _ => True) (fun _ => False) rfl rfl HNEW.out HRD.out (fun _ _ h => h) (fun _ h => h.elim) (fun _ _ => trivial) HB42.out HB42.out.size (by simp; omega) ?_
        intro v1 w43 ho hb hgr hlie
        have hT1 := T1.ofR ho
        obtain ⟨A5, c5, rfl, hc5, _⟩ := hT1.reads
        have HB43 := Aside0.mk hb
        obtain ⟨g5, hg5⟩ : ∃ g5, A5 = some ⟨g5, 0, none⟩ := by
          rcases hT1.open_ with ⟨_, h0⟩ | ⟨g5, cap, cur, h1, _⟩
          · simp at h0
          · injection h1 with h1
            exact ⟨g5, h1⟩
        subst hg5
        have HQ := Aside0.mk (T3.app1 HT9.out hsx (by omega) HROW.out (show p < (X.getD s []).length by rw [HRL.out]; omega) HB43.out (hT1.lower HBW.out) (w0 := w43) ⟨rfl, rfl, rfl, Nat.le_refl _, fun _ _ _ => rfl⟩ (.inr ⟨g5, rfl, (hT1.lt rfl).1⟩))
        have hq1 := HQ.out.1
        rw [HE1.out] at hq1
        have hq3 := HQ.out.2.2.1.trans hch
        clear ho hb hgr hlie hT1 hc5
        go_wp2
        have hSq3 : (fun (w' : World) => w'.cell? ⟨pm, 0, none⟩ = some (.slice (some ⟨g1, 0, none⟩) X.length kc) ∧ w'.cell? ⟨g1, s, none⟩ = some (.slice (some ⟨gs, 0, none⟩) W cs) ∧ w'.cell? ⟨gs, p, none⟩ = some (.slice A4 l0.length c4) ∧ w'.cell? ⟨bc, 1, none⟩ = some (.int .i64 W)) _ := ⟨pw_cell_below HB43.out hpm, pw_cell_below HB43.out hch, pw_cell_below HB43.out hc4, pw_cell_below HB43.out hbc1⟩
        refine ⟨(by first | exact fun _ => hSq3 | exact hSq3), ?_⟩
        refine HeldTill.take (i := 22) (n := 1) (v := ?_) rfl (by kernel_rfl) (by kernel_rfl) (by kernel_rfl) (by kernel_rfl) (fun _ _ _ h => h) (Or.inl ⟨by rfl, ?_⟩) hSq3 ?_
        rotate_left
        · intro w hSw; (try dsimp only at hSw); go_simp; (try with_reducible rfl)
        simp only [Act.put, List.setIfInBounds_toArray, List.set_cons_zero, List.set_cons_succ, List.getElem_toArray, List.getElem_cons_zero, List.getElem_cons_succ]
        refine HeldTill.next (j := 23) (n := 0) (by kernel_rfl) rfl ?_
        have qf := HQ.out.2.1
        go_wp2
        first | refine ⟨fun h => absurd h (by decide), (by kernel_rfl), ?_⟩ | refine ⟨(by kernel_rfl), ?_⟩
        have HFIN := Aside0.mk (And.intro HQ.out.2.2.2.1 (LM.fr H9.out HQ.out.2.2.2.2 HTY.out))
        have HLE := Aside0.mk (show (X.set s ((X.getD s []).set p ([(v3 : Int)] ++ l0))).length ≤ kc by rw [List.length_set]; exact (T3.rd HT9.out).2.1)
        have HS9 := Aside0.mk (HSM.out.set s (ys := (X.getD s []).set p ([(v3 : Int)] ++ l0)) ⟨by rw [List.length_set, HRL.out]; omega, fun l hl => by rcases List.mem_or_eq_of_mem_set hl with h | h; exact (HSM.out.2 (X.getD s []) (by rw [getD_lt hsx]; exact List.getElem_mem hsx)).2 l h; rw [h, List.length_append, List.length_singleton]; omega⟩)
        go_wp2_with fail
        go_meet
        case rel => exact ⟨_, _, _, HLE.out, HS9.out, HFIN.out.1, by rw [List.length_set]; exact HFIN.out.2⟩
  case rest =>
    obtain ⟨A, k, X', hk, hs, hr3, hL⟩ := hcut.out
    have HS3 := Aside0.mk hs
    have HR0 := Aside0.mk hr3
    have HL0 := Aside0.mk hL
    clear hs hr3 hL hcut
    have HRd := Aside0.mk (Kd.C_below HR0.out (Below.refl _ wc).drew)
    have hnn : (valb S W X' == valb S W X') = true := by simp
    have HV25 := Aside0.mk (fun w1 Tx Bx (h : LM w w1 g l Bx Tx) (hr : C3 w1 A X') => LM.valids HC.out h hr hk HS3.out)
    have HV26 := Aside0.mk (fun w1 Tx Bx (h : LM w w1 g l Bx Tx) (hr : C3 w1 A X') => LM.rvalids HC.out h hr hk HS3.out)
    generalize valb S W X' = bv at *
    go_upto_region 16 with (fail)
    have Hd := Aside0.mk (LM.drew HL0.out)
    refine HeldTill.begin_ (S := fun (w' : World) => w'.cell? ⟨bc, 0, none⟩ = some (.int .i64 S) ∧ w'.cell? ⟨bc, 1, none⟩ = some (.int .i64 W) ∧ w'.cell? ⟨bc, 2, none⟩ = some (.int .i64 L) ∧ w'.cell? ⟨pm, 0, none⟩ = some (.slice A X'.length k)) (F := fun _ => true) (by kernel_rfl) ?_
    have hSq0 : (fun (w' : World) => w'.cell? ⟨bc, 0, none⟩ = some (.int .i64 S) ∧ w'.cell? ⟨bc, 1, none⟩ = some (.int .i64 W) ∧ w'.cell? ⟨bc, 2, none⟩ = some (.int .i64 L) ∧ w'.cell? ⟨pm, 0, none⟩ = some (.slice A X'.length k)) wc.drew := ⟨LM.cell Hd.out 1 rfl 0 rfl, LM.cell Hd.out 1 rfl 1 rfl, LM.cell Hd.out 1 rfl 2 rfl, LM.cell Hd.out 0 rfl 0 rfl⟩
    refine HeldTill.take (i := 0) (n := 10) (v := ?_) rfl (by kernel_rfl) (by kernel_rfl) (by kernel_rfl) (by kernel_rfl) (fun _ _ _ h => h) (Or.inl ⟨by rfl, ?_⟩) hSq0 ?_
    rotate_left
    · intro w hSw; (try dsimp only at hSw); go_simp; (try with_reducible rfl)
    simp only [Act.put, List.setIfInBounds_toArray, List.set_cons_zero, List.set_cons_succ, List.getElem_toArray, List.getElem_cons_zero, List.getElem_cons_succ]
    refine HeldTill.take (i := 1) (n := 9) (v := ?_) rfl (by kernel_rfl) (by kernel_rfl) (by kernel_rfl) (by kernel_rfl) (fun _ _ _ h => h) (Or.inl ⟨by rfl, ?_⟩) hSq0 ?_
    rotate_left
    · intro w hSw; (try dsimp only at hSw); go_simp; (try with_reducible rfl)
    simp only [Act.put, List.setIfInBounds_toArray, List.set_cons_zero, List.set_cons_succ, List.getElem_toArray, List.getElem_cons_zero, List.getElem_cons_succ]
    refine HeldTill.take (i := 3) (n := 8) (v := ?_) rfl (by kernel_rfl) (by kernel_rfl) (by kernel_rfl) (by kernel_rfl) (fun _ _ _ h => h) (Or.inl ⟨by rfl, ?_⟩) hSq0 ?_
    rotate_left
    · intro w hSw; (try dsimp only at hSw); go_simp; (try with_reducible rfl)
    simp only [Act.put, List.setIfInBounds_toArray, List.set_cons_zero, List.set_cons_succ, List.getElem_toArray, List.getElem_cons_zero, List.getElem_cons_succ]
    refine HeldTill.take (i := 4) (n := 7) (v := ?_) rfl (by kernel_rfl) (by kernel_rfl) (by kernel_rfl) (by kernel_rfl) (fun _ _ _ h => h) (Or.inl ⟨by rfl, ?_⟩) hSq0 ?_
    rotate_left
    · intro w hSw; (try dsimp only at hSw); go_simp; (try with_reducible rfl)
    simp only [Act.put, List.setIfInBounds_toArray, List.set_cons_zero, List.set_cons_succ, List.getElem_toArray, List.getElem_cons_zero, List.getElem_cons_succ]
    refine HeldTill.next (j := 2) (n := 6) (by kernel_rfl) rfl ?_
    go_wp2_with (go_at_call 25; (with_reducible refine (HV25.out _ _ _ Hd.out HRd.out).mono ?_); rintro e w61 ⟨rfl, hL, hR⟩; have H61 := Aside0.mk hL; have R61 := Aside0.mk hR; clear hL hR)
    have hSq1 : (fun (w' : World) => w'.cell? ⟨bc, 0, none⟩ = some (.int .i64 S) ∧ w'.cell? ⟨bc, 1, none⟩ = some (.int .i64 W) ∧ w'.cell? ⟨bc, 2, none⟩ = some (.int .i64 L) ∧ w'.cell? ⟨pm, 0, none⟩ = some (.slice A X'.length k)) _ := ⟨LM.cell H61.out 1 rfl 0 rfl, LM.cell H61.out 1 rfl 1 rfl, LM.cell H61.out 1 rfl 2 rfl, LM.cell H61.out 0 rfl 0 rfl⟩
    refine ⟨fun _ => hSq1, ?_⟩
    refine HeldTill.next (j := 5) (n := 5) (by kernel_rfl) rfl ?_
    go_wp2_with (go_at_call 26; (with_reducible refine (HV26.out _ _ _ H61.out R61.out).mono ?_); rintro e w62 ⟨rfl, hL, hR⟩; have H62 := Aside0.mk hL; have R62 := Aside0.mk hR; clear hL hR)
    have hSq2 : (fun (w' : World) => w'.cell? ⟨bc, 0, none⟩ = some (.int .i64 S) ∧ w'.cell? ⟨bc, 1, none⟩ = some (.int .i64 W) ∧ w'.cell? ⟨bc, 2, none⟩ = some (.int .i64 L) ∧ w'.cell? ⟨pm, 0, none⟩ = some (.slice A X'.length k)) _ := ⟨LM.cell H62.out 1 rfl 0 rfl, LM.cell H62.out 1 rfl 1 rfl, LM.cell H62.out 1 rfl 2 rfl, LM.cell H62.out 0 rfl 0 rfl⟩
    refine ⟨fun _ => hSq2, ?_⟩
    refine HeldTill.take (i := 6) (n := 4) (v := ?_) rfl (by kernel_rfl) (by kernel_rfl) (by kernel_rfl) (by kernel_rfl) (fun _ _ _ h => h) (Or.inl ⟨by rfl, ?_⟩) hSq2 ?_
    rotate_left
    · intro w hSw; (try dsimp only at hSw); go_simp; (try with_reducible rfl)
    simp only [Act.put, List.setIfInBounds_toArray, List.set_cons_zero, List.set_cons_succ, List.getElem_toArray, List.getElem_cons_zero, List.getElem_cons_succ]
    refine HeldTill.take (i := 7) (n := 3) (v := ?_) rfl (by kernel_rfl) (by kernel_rfl) (by kernel_rfl) (by kernel_rfl) (fun _ _ _ h => h) (Or.inl ⟨by rfl, ?_⟩) hSq2 ?_
    rotate_left
    · intro w hSw; (try dsimp only at hSw); go_simp; (try with_reducible rfl)
    simp only [Act.put, List.setIfInBounds_toArray, List.set_cons_zero, List.set_cons_succ, List.getElem_toArray, List.getElem_cons_zero, List.getElem_cons_succ]
    refine HeldTill.next (j := 8) (n := 2) (by kernel_rfl) rfl ?_
    go_wp2_with (go_at_call 27; (with_reducible refine (LM.awake H62.out).mono ?_); rintro e w63 ⟨rfl, hL⟩; have H63 := Aside0.mk hL; clear hL)
    have hSq3 : (fun (w' : World) => w'.cell? ⟨bc, 0, none⟩ = some (.int .i64 S) ∧ w'.cell? ⟨bc, 1, none⟩ = some (.int .i64 W) ∧ w'.cell? ⟨bc, 2, none⟩ = some (.int .i64 L) ∧ w'.cell? ⟨pm, 0, none⟩ = some (.slice A X'.length k)) _ := ⟨LM.cell H63.out 1 rfl 0 rfl, LM.cell H63.out 1 rfl 1 rfl, LM.cell H63.out 1 rfl 2 rfl, LM.cell H63.out 0 rfl 0 rfl⟩
    refine ⟨fun _ => hSq3, ?_⟩
    refine HeldTill.take (i := 9) (n := 1) (v := ?_) rfl (by kernel_rfl) (by kernel_rfl) (by kernel_rfl) (by kernel_rfl) (fun _ _ _ h => h) (Or.inl ⟨by rfl, ?_⟩) hSq3 ?_
    rotate_left
    · intro w hSw; (try dsimp only at hSw); go_simp; (try with_reducible rfl)
    simp only [Act.put, List.setIfInBounds_toArray, List.set_cons_zero, List.set_cons_succ, List.getElem_toArray, List.getElem_cons_zero, List.getElem_cons_succ]
    refine HeldTill.take (i := 10) (n := 0) (v := ?_) rfl (by kernel_rfl) (by kernel_rfl) (by kernel_rfl) (by kernel_rfl) (fun _ _ _ h => h) (Or.inl ⟨by rfl, ?_⟩) hSq3 ?_
    rotate_left
    · intro w hSw; (try dsimp only at hSw); go_simp; (try with_reducible rfl)
    simp only [Act.put, List.setIfInBounds_toArray, List.set_cons_zero, List.set_cons_succ, List.getElem_toArray, List.getElem_cons_zero, List.getElem_cons_succ]
    refine ⟨by kernel_rfl, ?_⟩
    go_wp2
    go_ret
    exact ⟨rfl, LM.below H63.out⟩
end Go.Proofs.Ytkgocbmnjlfkoaa.M
end
section
namespace Go.Proofs.YtkgocbmnjlfkoaaW.PrintWords
open Go.ChangeShapes Go.WideShapes
theorem sized_ints {H : Type} {enc : TypeId × Value → H} {P : Program} {W : World} {base : Nat} {spare : Nat → Bool} {held : Bool} {t e : TypeId} {k : IntKind} {a : Option Addr} {len cap : Nat} {d : DataW H} {ps : List MemPlace} {ts : List TypeId} {ds : List (DataW H)} {j : Nat}
    (hsz : (DataW.weightsEach P ts ds).all (· ≤ reachBytes) = true) (ht : ts[j]? = some t) (hd : ds[j]? = some d) (hu : P.underlying t = some (.slice e)) (he : P.underlying e = some (.int k)) (hc : P.cellsOf e = 1) {B : Nat} (hB : P.bytesOf e = B)
    (h : DataW.Trod enc P W base spare held t (.slice a len cap) d ps) : len * B ≤ 140737488351232 := by
  obtain ⟨fuel, hf⟩ := h
  rcases open_ints hu he hc hf with ⟨hcs, _⟩ | ⟨x, l, c, zs, hcs, _, hl, _, hz, hx, _, _⟩
  · simp [Value.cells] at hcs
    obtain ⟨rfl, rfl, rfl⟩ := hcs
    simp
  · simp [Value.cells] at hcs
    obtain ⟨rfl, rfl, rfl⟩ := hcs
    obtain ⟨hx, _⟩ := Prod.mk.inj hx
    subst hx
    have z := sized_slice hsz ht hd hu
    rw [hB] at z
    have hl2 : len ≤ zs.length := by
      rw [hz]
      split
      · exact hl
      · exact Nat.le_refl _
    have h1 : (lits (H := H) k (zs.take len)).length + (lits (H := H) k (zs.drop len)).length = zs.length := by
      simp [lits]
      omega
    rw [h1] at z
    exact Nat.le_trans (Nat.mul_le_mul_right _ hl2) z
end Go.Proofs.YtkgocbmnjlfkoaaW.PrintWords
end
section
namespace Go.Proofs.Ytkgocbmnjlfkoaa.mustValid
open Go.ChangeShapes Go.WideShapes Go.ChangeAt Go.RowKit
open Go.ChangeMaps (open_string shut_string)
set_option linter.unusedVariables false
theorem own : ownKnob Try.prog.godebug = none := by kernel_rfl
theorem laidOut : laidOutB Try.prog = true := by kernel_rfl
def IsRow (k : IntKind) (w : World) (a : Option Addr) (len cap : Nat) (zs : List Int) : Prop :=
  (a = none ∧ len = 0 ∧ cap = 0 ∧ zs = []) ∨
  ∃ x, a = some x ∧ len ≤ cap ∧ cap ≤ maxLen ∧ zs.length = cap ∧ (∀ i, i < zs.length → w.cell? (x.add i) = some (.int k (zs.getD i 0))) ∧ ∀ n ∈ zs, (Lit.int k n).wf = true
theorem walk (w : World) (a0 : Option Addr) (len0 cap0 : Nat) (z0 : List Int) (w0 : IsRow .i64 w a0 len0 cap0 z0) (y0 : len0 * 8 ≤ 140737488351232) (x1 : Int) (w1 : (Lit.int .i64 x1).wf = true) (x2 : Int) (w2 : (Lit.int .i64 x2).wf = true) :
    Calls Try.prog 4 #[.slice a0 len0 cap0, .int .i64 x1, .int .i64 x2] w fun e w' => e = .returned (.bool true) ∧ Below w.heap.size w w' := by
  obtain ⟨l0, rfl, hr0, hm0, hw0, hc0⟩ := Go.Proofs.YtkgocbmnjlfkoaaW.PrintWords.ReadsInt.ofRowC w0
  exact M.mustValid_walk a0 cap0 l0 x1 x2 w (Go.Proofs.YtkgocbmnjlfkoaaW.PrintWords.Kd.C_of_reads (d := (0 : Int)) (h1 := fun _ => rfl) hr0) hc0 (by omega)
set_option maxRecDepth 100000 in
theorem lifted (os : Os) (started : os.Started) (H : Type) (enc : TypeId × Value → H) :
    ReturnsInHanded {} Try.checked os 4 .any (Rows.mustValidSpec.pre6 enc Try.prog Try.f4 Rows.mustValidRow.domain false) (Rows.mustValidSpec.post enc Try.prog Try.f4 false true false false) := by
  refine returnsInHanded_of_change_sized (C := Try.checked) own started (by kernel_rfl) Try.func4
    (ChangeSpec.witness6 (enc := enc) (C := Try.checked) false ⟨#[], #[.slice none 0 0, .int .i64 0, .int .i64 0], []⟩ 8 (by kernel_rfl) (by kernel_rfl) (by kernel_rfl) (by kernel_rfl)) ?_
  intro W base args ds gs before hval0 hW hcnd hsz0 _
  have hsz : (DataW.weightsEach Try.prog (Try.f4.params.toList ++ Rows.mustValidSpec.plain.varTypes Try.prog) (ds ++ gs)).all (· ≤ reachBytes) = true := hsz0
  have hval : ∀ (j : Nat) t v, Try.f4.params[j]? = some t → args[j]? = some v → Value.okWide Try.prog W .any base t v := hval0
  have hW' := hW
  obtain ⟨p, q, hA0, hV, rfl, hfz, hnd⟩ := hW
  have hA : DataW.TrodAll enc Try.prog W 0 (fun _ => true) true Try.f4.params.toList args.toList ds p := hA0
  rw [Try.params4] at hA hval hsz
  obtain ⟨v0, vs0, d0, ds0, p0, q0, hargs, rfl, rfl, h0, r0⟩ := trodAll_cons hA
  obtain ⟨v1, vs1, d1, ds1, p1, q1, rfl, rfl, rfl, h1, r1⟩ := trodAll_cons r0
  obtain ⟨v2, vs2, d2, ds2, p2, q2, rfl, rfl, rfl, h2, r2⟩ := trodAll_cons r1
  obtain ⟨rfl, rfl, rfl⟩ := trodAll_nil r2
  obtain rfl : args = #[v0, v1, v2] := by cases args; simp_all
  obtain ⟨rfl, rfl⟩ := trodVars_none hV
  have k0 := h0
  have lt0 : ∀ x ∈ p0, x.block < W.heap.size := by obtain ⟨m, hm⟩ := k0; exact DataW.trod_lt m _ _ _ hm
  obtain ⟨a0, len0, cap0, rfl⟩ := okWide_slice Try.underlying22 (hval 0 22 v0 rfl rfl)
  obtain ⟨z0, w0⟩ : ∃ zs, IsRow .i64 W a0 len0 cap0 zs := by
    obtain ⟨fuel, hf⟩ := h0
    rcases open_ints Try.underlying22 Try.underlying3 (by kernel_rfl) hf with ⟨hcs, _⟩ | ⟨x, l, c, zs, hcs, _, hl, hm, hz, _, hcell, hwz⟩
    · simp [Value.cells] at hcs
      obtain ⟨rfl, rfl, rfl⟩ := hcs
      exact ⟨[], .inl ⟨rfl, rfl, rfl, rfl⟩⟩
    · simp [Value.cells] at hcs
      obtain ⟨rfl, rfl, rfl⟩ := hcs
      exact ⟨zs, .inr ⟨_, rfl, hl, hm, by simpa using hz, hcell, hwz⟩⟩
  have y0 : len0 * 8 ≤ 140737488351232 := Go.Proofs.YtkgocbmnjlfkoaaW.PrintWords.sized_ints hsz (j := 0) (t := 22) rfl rfl Try.underlying22 Try.underlying3 (by kernel_rfl) (by kernel_rfl) h0
  obtain ⟨x1, rfl, rfl, rfl, w1⟩ := open_int Try.underlying3 (hval 1 3 v1 rfl rfl) h1
  obtain ⟨x2, rfl, rfl, rfl, w2⟩ := open_int Try.underlying3 (hval 2 3 v2 rfl rfl) h2
  clear hA0 hval0 hsz0 hsz
  refine (walk W a0 len0 cap0 z0 w0 y0 x1 w1 x2 w2).mono fun e W' ⟨he, bel⟩ => ?_
  subst he
  exact ⟨_, rfl, _, _, _, [], _, [], hW', trodAll_mk1 (shut_bool Try.underlying4 _), (trodAll_cons_mk (Below.trod laidOut (by kernel_rfl) (of_decide_eq_true (by kernel_rfl)) k0 bel lt0) (trodAll_cons_mk (shut_int Try.underlying3 w1) (trodAll_cons_mk (shut_int Try.underlying3 w2) trodAll_mk0))), rfl, bel.frame _, fun h => by cases h⟩
theorem over : Rows.mustValidRow.holds Try.pinned (OpenSpec.ofChange Rows.mustValidSpec) :=
  OpenClaim.holds_of_wide 4 Try.f4 rfl rfl rfl rfl rfl rfl rfl ⟨rfl, rfl, rfl, rfl, rfl⟩ rfl rfl rfl rfl rfl (by kernel_rfl) Try.func4 (by kernel_rfl)
    (of_decide_eq_true (by kernel_rfl)) (by unfold Func.isWrapper; first | (rw [if_pos (by decide +kernel)]; kernel_rfl) | (rw [if_neg (by decide +kernel)]; exact ⟨rfl, rfl⟩))
    (fun os started H enc _ => lifted os started H enc)
theorem proved : Rows.MustValidSaid := over
#print axioms proved
end Go.Proofs.Ytkgocbmnjlfkoaa.mustValid
namespace Go.Proofs.Ytkgocbmnjlfkoaa
theorem mustValid_holds : Rows.MustValidSaid := mustValid.proved
end Go.Proofs.Ytkgocbmnjlfkoaa
end
