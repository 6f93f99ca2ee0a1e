/- The Must law on states that describe contents holds of the given program for every input. -/
import Derived.Test.YtkgocbmnjlfkoaaMustDescribesPart3
import Derived.SizedLaws
import Derived.ChangeSlices
import Derived.Test.YtkgocbmnjlfkoaaRows
import Derived.WalkKit
import Derived.ProofKit
import Derived.OpenShut
import Derived.ShutString
import Derived.ChangeOld
import Derived.Below
section
namespace Go.Proofs.Ytkgocbmnjlfkoaa.M
open Go.RowKit Go.Proofs.Ytkgocbmnjlfkoaa.X Go.Proofs.YtkgocbmnjlfkoaaW.PrintWords Go.Proofs.YtkgocbmnjlfkoaaW.PrintLast Go.Proofs.YtkgocbmnjlfkoaaW.PrintMore
set_option linter.unusedVariables false
set_option linter.unusedSimpArgs false
theorem T2.store {w w0 w3 : World} {b g cap n a : Nat} {vs : List Value} {s : List (List Int)} {u : Value} {ys : List Int} (h : T2 w b (.slice (some ⟨g, 0, none⟩) n cap) vs s) (ha : a < s.length) (h0 : Below w.heap.size w w0)
    (k1 : T1 w3 b u ys) (k2 : w0.grownBy w3 (vs.getD a undef).ownBlock) (k3 : u.ownBlock = (vs.getD a undef).ownBlock ∨ ∃ k, u.ownBlock = some k ∧ w.heap.size ≤ k) :
    w3.cell? ⟨g, a, none⟩ = some (vs.getD a undef) ∧ w3.frozen? ⟨g, a, none⟩ = false ∧ PutR w b (.slice (some ⟨g, 0, none⟩) n cap) vs (s.set a ys) (.returned (.tuple #[])) (w3.setCell ⟨g, a, none⟩ u) := by
  have hlen := h.len
  obtain ⟨hcell, hfro⟩ := h.cell ha
  obtain ⟨cur, hg⟩ := own_typed h.own g rfl
  have hgw := blk_lt hg
  have f0 : Fr (In2 (.slice (some ⟨g, 0, none⟩) n cap) vs) w w0 := Fr.ofBelow h0
  have f1 : Fr (In2 (.slice (some ⟨g, 0, none⟩) n cap) vs) w w3 := f0.trans ((Fr.grown k2).mono (fun k hk => .inr ⟨a, by omega, hk⟩))
  have hsz : w.heap.size ≤ w0.heap.size := h0.size
  have hold : ∀ k, k < w.heap.size → (vs.getD a undef).ownBlock ≠ some k → w3.heap[k]? = w.heap[k]? := fun k hk hn =>
    (k2.block k (by omega) (fun e => hn e.symm)).trans (h0.block k hk)
  have hgb : w3.heap[g]? = some (.cells cur 22 (0, 0)) := (hold g hgw (fun e => h.ne (by omega) e rfl)).trans hg
  have hT : ∀ j, j < vs.length → j ≠ a → T1 w3 b (vs.getD j undef) (s.getD j []) := fun j hj hja => (h.el j hj).keep (fun k hk => hold k ((h.el j hj).lt hk).2 (fun e => by
    rcases Nat.lt_or_gt_of_ne hja with hlt | hgt
    · rcases h.apart j a hlt (by omega) with h3 | h3
      · rw [h3] at hk; cases hk
      · exact h3 (hk.trans e.symm)
    · rcases h.apart a j hgt hj with h3 | h3
      · rw [h3] at e; cases e
      · exact h3 (e.trans hk.symm)))
  have hap : ∀ j, j < vs.length → j ≠ a → u.ownBlock = none ∨ u.ownBlock ≠ (vs.getD j undef).ownBlock := fun j hj hja => by
    rcases k3 with k3 | ⟨k, k3, k4⟩
    · rw [k3]
      rcases Nat.lt_or_gt_of_ne hja with hlt | hgt
      · rcases h.apart j a hlt (by omega) with h3 | h3
        · cases hv : (vs.getD a undef).ownBlock with
          | none => exact .inl rfl
          | some k => exact .inr (by rw [h3]; simp)
        · exact .inr (Ne.symm h3)
      · exact h.apart a j hgt hj
    · refine .inr (fun e => ?_)
      have := ((h.el j hj).lt (e.symm.trans k3)).2
      omega
  have hcell3 : w3.cell? ⟨g, a, none⟩ = some (vs.getD a undef) := by
    rw [← hcell]
    exact World.cell?_of_block (w := w) (hgb.trans hg.symm)
  have hn : n = vs.length := own_len h.own
  have h2 : T2 (w3.setCell ⟨g, a, none⟩ u) b (.slice (some ⟨g, 0, none⟩) n cap) (vs.set a u) (s.set a ys) := by
    have ho : w3.ownsRow b 22 1 (.slice (some ⟨g, 0, none⟩) n cap) vs.length vs := own_move h.own (fun k hk => by
      have : g = k := by simpa [Value.ownBlock] using hk
      subst this
      exact hgb.trans hg.symm)
    have hs3 := World.ownsRow.stored (by rw [← hn] at ho; exact ho) a u
    have hgx : ∀ k, k ≠ g → (w3.setCell ⟨g, a, none⟩ u).heap[k]? = w3.heap[k]? := fun k hk => Below.heap_setCell w3 _ u k hk
    refine ⟨by rw [List.length_set, ← hn]; exact hs3.1, by simpa using hlen, ?_, ?_⟩
    · intro j hj
      rw [List.length_set] at hj
      rw [getD_set _ _ _ _ (by omega), getD_set _ _ _ _ ha]
      split
      · refine k1.keep (fun k hk => hgx k (fun e => ?_))
        obtain ⟨c1, e1⟩ := k1.typed hk
        rw [e, hgb] at e1
        injection e1 with e1
        injection e1 with _ e1
        cases e1
      · rename_i hne
        exact (hT j hj (Ne.symm hne)).keep (fun k hk => hgx k (fun e => h.ne hj hk (by rw [e]; rfl)))
    · intro j l hjl hl'
      rw [List.length_set] at hl'
      rw [getD_set _ _ _ _ (by omega), getD_set _ _ _ _ (by omega)]
      split
      · rename_i e1
        subst e1
        rw [if_neg (by omega)]
        exact hap l hl' (by omega)
      · split
        · rename_i e1 e2
          subst e2
          rcases hap j (by omega) (by omega) with h3 | h3
          · cases hv : (vs.getD j undef).ownBlock with
            | none => exact .inl rfl
            | some k => exact .inr (by rw [h3]; simp)
          · exact .inr (Ne.symm h3)
        · exact h.apart j l hjl hl'
  refine ⟨hcell3, (World.frozen?_of_block (w := w) (hgb.trans hg.symm)).trans hfro, rfl, vs.set a u, h2, List.length_set, f1.trans (Fr.set u (.inl rfl)), fun i hi k hk => ?_⟩
  rw [getD_set _ _ _ _ (by omega)] at hk
  split at hk
  · rcases k3 with k3 | ⟨k', k3, k4⟩
    · exact .inl (.inr ⟨a, by omega, k3 ▸ hk⟩)
    · rw [k3] at hk
      injection hk with hk
      exact .inr (by omega)
  · exact .inl (.inr ⟨i, hi, hk⟩)
theorem T1.snoc {w0 w3 : World} {b g' cap n : Nat} {v : Value} {xs : List Int} {y : Int} (ho : w3.ownsRow b 3 1 (.slice (some ⟨g', 0, none⟩) n cap) n (nums .i64 xs ++ [.int .i64 y])) : T1 w3 b (.slice (some ⟨g', 0, none⟩) n cap) (xs ++ [y]) := by
  have hn : n = (xs ++ [y]).length := by
    have := own_one ho
    simp [nums] at this ⊢
    omega
  unfold T1
  rw [hn] at ho
  rw [show nums .i64 (xs ++ [y]) = nums .i64 xs ++ [.int .i64 y] by simp [nums], hn]
  exact ho
theorem Jn.store {w wr w0 w3 : World} {g n cap i a gs m c : Nat} {X : List (List (List Int))} {L : List (Nat × Array Value × Nat)} {u A4 : Value} {ys : List Int} (h : Jn w wr (.slice (some ⟨g, 0, none⟩) n cap) X L) (hi : i < X.length)
    (hcell : wr.cell? ⟨g, i, none⟩ = some (.slice (some ⟨gs, 0, none⟩) m c)) (ha : a < (X.getD i []).length) (hc4 : wr.cell? ⟨gs, a, none⟩ = some A4) (h0 : Below wr.heap.size wr w0)
    (hu : T1 w3 w.heap.size u ys) (k2 : w0.grownBy w3 A4.ownBlock) (k3 : u.ownBlock = A4.ownBlock ∨ ∃ k, u.ownBlock = some k ∧ wr.heap.size ≤ k) :
    w3.frozen? ⟨gs, a, none⟩ = false ∧ w3.cell? ⟨gs, a, none⟩ = some A4 ∧ w3.cell? ⟨g, i, none⟩ = wr.cell? ⟨g, i, none⟩ ∧ Jn w (w3.setCell ⟨gs, a, none⟩ u) (.slice (some ⟨g, 0, none⟩) n cap) (X.set i ((X.getD i []).set a ys)) L := by
  obtain ⟨vs, uss, hT, hB⟩ := h.und
  obtain ⟨h5, h6⟩ := hT.cell hi
  rw [hcell] at h5
  injection h5 with h5
  have h2 := hT.el i hi
  rw [← h5] at h2
  have h7 := (h2.cell ha).1
  rw [hc4] at h7
  injection h7 with h7
  have hT1 := h2.el a (by have := h2.len; omega)
  rw [← h7] at hT1
  obtain ⟨j1, j2, _, vs', k4, k5, k6, k7⟩ := T2.store h2 ha h0 hu (by rw [← h7]; exact k2) (by rw [← h7]; exact k3)
  obtain ⟨cg, hcg⟩ := own_typed hT.own g rfl
  have hgk : w3.heap[g]? = wr.heap[g]? := (k2.block g (by have := blk_lt hcg; have := h0.size; omega) (fun e => by
    obtain ⟨c1, e1⟩ := hT1.typed e.symm
    rw [hcg] at e1
    injection e1 with e1
    injection e1 with _ e1
    cases e1)).trans (h0.block g (blk_lt hcg))
  refine ⟨j2, by rw [j1, ← h7], World.cell?_of_block hgk, ⟨vs, uss.set i vs', hT.upd hi (by rw [← h5]; exact k4) (by rw [← h5]; exact k6) (by
    rw [← h5]
    rintro k (hk | ⟨j, hj, hk⟩)
    · exact .inl (.inl hk)
    · exact k7 j (by omega) k hk), hB.trans (k6.below hB.size (fun k hk => (h2.lt hk).1))⟩, fun p hp => ?_⟩
  obtain ⟨b1, b2⟩ := h.box p hp
  refine ⟨(k6.block _ (blk_lt b1) (fun hk => ?_)).trans b1, b2⟩
  obtain ⟨c1, e1, h0, h1⟩ := In2.typed h2 hk
  rw [b1] at h1
  injection h1 with h1
  injection h1 with _ h1
  rcases h0 with rfl | rfl
  · exact b2.2.1 h1
  · exact b2.2.2 h1
theorem Jn.elem {w wr : World} {g n cap i a gs m c : Nat} {X : List (List (List Int))} {L : List (Nat × Array Value × Nat)} {A4 : Value} (h : Jn w wr (.slice (some ⟨g, 0, none⟩) n cap) X L) (hi : i < X.length)
    (hcell : wr.cell? ⟨g, i, none⟩ = some (.slice (some ⟨gs, 0, none⟩) m c)) (ha : a < (X.getD i []).length) (hc4 : wr.cell? ⟨gs, a, none⟩ = some A4) : T1 wr w.heap.size A4 ((X.getD i []).getD a []) := by
  obtain ⟨vs, uss, hT, hB⟩ := h.und
  obtain ⟨h5, h6⟩ := hT.cell hi
  rw [hcell] at h5
  injection h5 with h5
  have h2 := hT.el i hi
  rw [← h5] at h2
  have h7 := (h2.cell ha).1
  rw [hc4] at h7
  injection h7 with h7
  have hT1 := h2.el a (by have := h2.len; omega)
  rwa [← h7] at hT1
theorem aof_start {w w1 : World} {v va c0 c1 c2 : Value} {vs : List Value} {us : List (List Value)} {x : List (List (List Int))}
    (hb : Below ((w.alloc (.cells #[c0, c1, c2] 26)).alloc (.cells #[va] 54)).heap.size ((w.alloc (.cells #[c0, c1, c2] 26)).alloc (.cells #[va] 54)) w1)
    (hT : T3 w1 ((w.alloc (.cells #[c0, c1, c2] 26)).alloc (.cells #[va] 54)).heap.size v vs us x) :
    Jn w w1 v x [(w.heap.size, #[c0, c1, c2], 26), (w.heap.size + 1, #[va], 54)] := by
  obtain ⟨k1, k2⟩ := two_box hb
  have h0 : Below w.heap.size w ((w.alloc (.cells #[c0, c1, c2] 26)).alloc (.cells #[va] 54)) := ((Below.refl _ _).alloc (Nat.le_refl _) _).alloc (by simp) _
  refine ⟨⟨_, _, hT.lower h0.size, h0.trans (hb.mono h0.size)⟩, fun p hp => ?_⟩
  simp only [List.mem_cons, List.not_mem_nil, or_false] at hp
  rcases hp with rfl | rfl
  · exact ⟨k1, (by decide : (26 : Nat) ≠ 43 ∧ (26 : Nat) ≠ 22 ∧ (26 : Nat) ≠ 3)⟩
  · exact ⟨k2, (by decide : (54 : Nat) ≠ 43 ∧ (54 : Nat) ≠ 22 ∧ (54 : Nat) ≠ 3)⟩
set_option maxHeartbeats 4000000 in
theorem aof_calls {S W L : Nat} (h : CacheOk S W L) (A : Option Addr) (c : Nat) (l : List (List Int)) (w : World) (hl : l.length = S) (hlw : ∀ x ∈ l, x.length = W) (hr : C2 w A l) (hc : l.length ≤ c) :
    Calls Try.prog 80 #[.agg #[.int .i64 S, .int .i64 W, .int .i64 L], .agg #[.slice A l.length c]] w (New3 w (ofM S W l)) := by
  have hW1 := h.w1; have hW4 := h.w4; have hS8 := h.s8
  have htop := Aside0.mk (top_calls h ((w.alloc (.cells #[.int .i64 S, .int .i64 W, .int .i64 L] 26)).alloc (.cells #[.slice A l.length c] 54)))
  have HB0 : Aside0 (Below w.heap.size w ((w.alloc (.cells #[.int .i64 S, .int .i64 W, .int .i64 L] 26)).alloc (.cells #[.slice A l.length c] 54))) := ⟨((Below.refl _ _).alloc (Nat.le_refl _) _).alloc (by simp) _⟩
  have HA := Aside0.mk hr
  have HLW := Aside0.mk hlw
  have HLS := Aside0.mk hl
  have hl9 : l.length < 9 := by rw [hl]; omega
  have hts : (top S W).length < 9 := by simp [top]; omega
  clear hr hlw hl h
  go_enter Try.func80, Try.ntmps80
  go_wp2_with (first | (go_at_call 65; refine htop.out.mono ?_; rintro e w1 ⟨v1, vs1, us1, rfl, hT, hb⟩; obtain ⟨A1, c1, rfl, _, _⟩ := hT.reads; have HJ := Aside0.mk (aof_start hb hT); obtain ⟨k1, k2⟩ := two_box hb; obtain ⟨q2, f2⟩ := cz1' k2; clear k1 k2 hb hT f2))
  obtain ⟨LL, hLL⟩ : ∃ LL : List (Nat × Array Value × Nat), LL = [(w.heap.size, #[.int .i64 S, .int .i64 W, .int .i64 L], 26), (w.heap.size + 1, #[.slice A l.length c], 54)] := ⟨_, rfl⟩
  rw [← hLL] at HJ
  have HTL := Aside0.mk (show (top S W).length = S by simp [top])
  clear hLL q2 htop
  generalize (top S W).length = tl at *
  rw [← ofN_zero S W l] at HJ
  go_loopw [15] (fun v15 wr => ∃ s : Nat, s ≤ l.length ∧ v15 = .int .i64 s ∧ Aside0 (Jn w wr (.slice A1 tl c1) (ofN S W l s) LL)) (fun v15 _ => l.length - (RowKit.intOf v15).toNat)
  case atStart => exact ⟨0, Nat.zero_le _, rfl, HJ⟩
  case round =>
    clear HJ
    obtain ⟨s, hs, rfl, HJ⟩ := hrel
    by_cases hlt : s < l.length
    · have hsS : s < S := by rw [← HLS.out]; exact hlt
      obtain ⟨ad, A0, c0, rfl, hcell0, hc0, hl0⟩ := C2.get HA.out hlt
      have hxl := HLW.out _ (List.getElem_mem hlt)
      have hcell := pw_cell_below HJ.out.bel hcell0
      have HLx := Aside0.mk hl0
      have HNs : Aside0 ((ofN S W l s).set s (ofR l[s] W W) = ofN S W l (s + 1)) := ⟨by have := ofN_set (W := W) l hsS; rwa [getD_lt hlt, ofS] at this⟩
      have HJ1 : Aside0 (Jn w wr (.slice A1 tl c1) ((ofN S W l s).set s (ofR l[s] W 0)) LL) := ⟨by have := ofN_at (W := W) l hsS; rw [getD_lt hlt] at this; rw [this]; exact HJ.out⟩
      have HJl : Aside0 ((ofN S W l s).length = S) := ⟨ofN_length S W l s⟩
      obtain ⟨g1, hg1⟩ : ∃ g1, A1 = some ⟨g1, 0, none⟩ := by
        obtain ⟨vs, uss, hT, hB⟩ := HJ.out.und
        rcases hT.open_ with ⟨_, _, h0⟩ | ⟨g1, cap, cur, h1, _⟩
        · have := congrArg List.length h0
          rw [ofN_length] at this
          simp at this
          omega
        · injection h1 with h1
          exact ⟨g1, h1⟩
      subst hg1
      have hstl : s < tl := by rw [HTL.out]; exact hsS
      have HXL := Aside0.mk hxl
      have hx9 : l[s].length < 5 := by omega
      clear hl0 hcell0 HJ hxl
      generalize l[s] = x at *
      generalize ofN S W l s = J at *
      obtain ⟨wo, rfl⟩ : ∃ wo : World, wo = wr := ⟨_, rfl⟩
      go_wp2
      go_loopw [22] (fun v22 wr => ∃ a : Nat, a ≤ x.length ∧ v22 = .int .i64 a ∧ Aside0 (Jn w wr (.slice (some ⟨g1, 0, none⟩) tl c1) (J.set s (ofR x W a)) LL)) (fun v22 _ => x.length - (RowKit.intOf v22).toNat)
      case atStart => exact ⟨0, Nat.zero_le _, rfl, HJ1⟩
      case round =>
        clear HJ1 hcell
        obtain ⟨a, ha, rfl, HJ⟩ := hrel
        by_cases hal : a < x.length
        · have haW : a < W := by rw [← HXL.out]; exact hal
          obtain ⟨ad2, rfl, hcell2⟩ := C1.get (Kd.C_below HLx.out HJ.out.bel) hal
          have hxa : x.getD a 0 = x[a] := getD_lt hal
          by_cases hpos : 0 ≤ x[a]
          · have g1' : decide ((0 : Int) ≤ x[a]) = true := decide_eq_true hpos
            have g2' : decide ((s : Int) < (tl : Int)) = true := decide_eq_true (by omega)
            have g3' : decide ((a : Int) < (W : Int)) = true := decide_eq_true (by omega)
            have HM : Aside0 ((ofR x W a).set a [x[a]] = ofR x W (a + 1)) := ⟨by have := ofR_yes haW (x := x) (by rw [hxa]; exact hpos); rwa [hxa] at this⟩
            have hrow : (J.set s (ofR x W a)).getD s [] = ofR x W a := getD_set_eq _ _ _ (by rw [HJl.out]; exact hsS)
            have hsj : s < (J.set s (ofR x W a)).length := by rw [List.length_set, HJl.out]; exact hsS
            have hnil : (ofR x W a).getD a [] = [] := by
              rw [getD_lt (by rw [ofR_length]; exact haW)]
              simp [ofR]
            obtain ⟨gs, cs, hch, hgsg, hgsL, hgL⟩ := HJ.out.head hsj (by rw [hrow, ofR_length]; omega)
            rw [hrow, ofR_length] at hch
            obtain ⟨⟨u4, A4, m4, c4, hcu, rfl, hT4⟩, hfu⟩ := HJ.out.und.cell2 hsj hch (by rw [hrow, ofR_length]; exact haW)
            have hT0 := HJ.out.elem hsj hch (by rw [hrow, ofR_length]; exact haW) hcu
            rw [hrow, hnil] at hT0 hT4
            obtain rfl : m4 = 0 := hT4.1.symm
            have HOWN : Aside0 (∀ w1, Below wr.heap.size wr w1 → w1.ownsRow w.heap.size 3 1 (.slice A4 0 c4) 0 []) := ⟨fun w1 hb => hT0.keep (fun k hk => hb.block k (hT0.lt hk).2)⟩
            have HST : Aside0 (∀ w0 w3 g' cap', Below wr.heap.size wr w0 → w3.ownsRow w.heap.size 3 1 (.slice (some ⟨g', 0, none⟩) 1 cap') 1 [.int .i64 x[a]] → w0.grownBy w3 (Value.slice A4 0 c4).ownBlock → ((Value.slice A4 0 c4).ownBlock = some g' ∨ wr.heap.size ≤ g') →
                w3.frozen? ⟨gs, a, none⟩ = false ∧ w3.cell? ⟨gs, a, none⟩ = some (.slice A4 0 c4) ∧ w3.cell? ⟨g1, s, none⟩ = some (.slice (some ⟨gs, 0, none⟩) W cs) ∧ Jn w (w3.setCell ⟨gs, a, none⟩ (.slice (some ⟨g', 0, none⟩) 1 cap')) (.slice (some ⟨g1, 0, none⟩) tl c1) (J.set s (ofR x W (a + 1))) LL) := ⟨fun w0 w3 g' cap' h0 ho hg hlie => by
              have := HJ.out.store (u := .slice (some ⟨g', 0, none⟩) 1 cap') (ys := [x[a]]) hsj hch (by rw [hrow, ofR_length]; exact haW) hcu h0 (T1.snoc (v := .slice A4 0 c4) (xs := []) (w0 := w0) ho) hg (by
                rcases hlie with h1 | h1
                · exact .inl (h1 ▸ rfl)
                · exact .inr ⟨g', rfl, h1⟩)
              rw [hrow, set_twice, HM.out, hch] at this
              exact this⟩
            have HB1 : Aside0 (Below wr.heap.size wr (wr.alloc (.cells #[.int .i64 x[a]] 3)).drew) := ⟨((Below.refl _ _).alloc (Nat.le_refl _) _).drew⟩
            have HSZ : Aside0 (w.heap.size ≤ wr.heap.size) := ⟨HJ.out.bel.size⟩
            clear hrow HM hpos hfu HJ hxa hT0 hT4 hnil hgsg hgsL hgL
            generalize x[a] = y at *
            go_upto_region 9 with (fail)
            refine HeldTill.begin_ (S := fun (w' : World) => w'.cell? ⟨g1, s, none⟩ = some (.slice (some ⟨gs, 0, none⟩) W cs) ∧ w'.cell? ⟨gs, a, none⟩ = some (.slice A4 0 c4)) (F := fun j => j != 16) (by kernel_rfl) ?_
            have hSq0 : (fun (w' : World) => w'.cell? ⟨g1, s, none⟩ = some (.slice (some ⟨gs, 0, none⟩) W cs) ∧ w'.cell? ⟨gs, a, none⟩ = some (.slice A4 0 c4)) wr.drew := ⟨hch, hcu⟩
            refine HeldTill.take (i := 0) (n := 16) (v := ?_) rfl (by kernel_rfl) (by kernel_rfl) (by kernel_rfl) (by kernel_rfl) (fun _ _ _ h => h) (Or.inl ⟨by rfl, ?_⟩) hSq0 ?_
            rotate_left
            · intro w hSw; (try dsimp only at hSw); go_simp; (try with_reducible rfl)
            simp only [Act.put, List.setIfInBounds_toArray, List.set_cons_zero, List.set_cons_succ, List.getElem_toArray, List.getElem_cons_zero, List.getElem_cons_succ]
            refine HeldTill.take (i := 1) (n := 15) (v := ?_) rfl (by kernel_rfl) (by kernel_rfl) (by kernel_rfl) (by kernel_rfl) (fun _ _ _ h => h) (Or.inl ⟨by rfl, ?_⟩) hSq0 ?_
            rotate_left
            · intro w hSw; (try dsimp only at hSw); go_simp; (try with_reducible rfl)
            simp only [Act.put, List.setIfInBounds_toArray, List.set_cons_zero, List.set_cons_succ, List.getElem_toArray, List.getElem_cons_zero, List.getElem_cons_succ]
            refine HeldTill.take (i := 2) (n := 14) (v := ?_) rfl (by kernel_rfl) (by kernel_rfl) (by kernel_rfl) (by kernel_rfl) (fun _ _ _ h => h) (Or.inl ⟨by rfl, ?_⟩) hSq0 ?_
            rotate_left
            · intro w hSw; (try dsimp only at hSw); go_simp; (try with_reducible rfl)
            simp only [Act.put, List.setIfInBounds_toArray, List.set_cons_zero, List.set_cons_succ, List.getElem_toArray, List.getElem_cons_zero, List.getElem_cons_succ]
            refine HeldTill.take (i := 3) (n := 13) (v := ?_) rfl (by kernel_rfl) (by kernel_rfl) (by kernel_rfl) (by kernel_rfl) (fun _ _ _ h => h) (Or.inl ⟨by rfl, ?_⟩) hSq0 ?_
            rotate_left
            · intro w hSw; (try dsimp only at hSw); go_simp; (try with_reducible rfl)
            simp only [Act.put, List.setIfInBounds_toArray, List.set_cons_zero, List.set_cons_succ, List.getElem_toArray, List.getElem_cons_zero, List.getElem_cons_succ]
            refine HeldTill.take (i := 4) (n := 12) (v := ?_) rfl (by kernel_rfl) (by kernel_rfl) (by kernel_rfl) (by kernel_rfl) (fun _ _ _ h => h) (Or.inl ⟨by rfl, ?_⟩) hSq0 ?_
            rotate_left
            · intro w hSw; (try dsimp only at hSw); go_simp; (try with_reducible rfl)
            simp only [Act.put, List.setIfInBounds_toArray, List.set_cons_zero, List.set_cons_succ, List.getElem_toArray, List.getElem_cons_zero, List.getElem_cons_succ]
            refine HeldTill.take (i := 5) (n := 11) (v := ?_) rfl (by kernel_rfl) (by kernel_rfl) (by kernel_rfl) (by kernel_rfl) (fun _ _ _ h => h) (Or.inl ⟨by rfl, ?_⟩) hSq0 ?_
            rotate_left
            · intro w hSw; (try dsimp only at hSw); go_simp; (try with_reducible rfl)
            simp only [Act.put, List.setIfInBounds_toArray, List.set_cons_zero, List.set_cons_succ, List.getElem_toArray, List.getElem_cons_zero, List.getElem_cons_succ]
            refine HeldTill.take (i := 6) (n := 10) (v := ?_) rfl (by kernel_rfl) (by kernel_rfl) (by kernel_rfl) (by kernel_rfl) (fun _ _ _ h => h) (Or.inl ⟨by rfl, ?_⟩) hSq0 ?_
            rotate_left
            · intro w hSw; (try dsimp only at hSw); go_simp; (try with_reducible rfl)
            simp only [Act.put, List.setIfInBounds_toArray, List.set_cons_zero, List.set_cons_succ, List.getElem_toArray, List.getElem_cons_zero, List.getElem_cons_succ]
            refine HeldTill.take (i := 7) (n := 9) (v := ?_) rfl (by kernel_rfl) (by kernel_rfl) (by kernel_rfl) (by kernel_rfl) (fun _ _ _ h => h) (Or.inl ⟨by rfl, ?_⟩) hSq0 ?_
            rotate_left
            · intro w hSw; (try dsimp only at hSw); go_simp; (try with_reducible rfl)
            simp only [Act.put, List.setIfInBounds_toArray, List.set_cons_zero, List.set_cons_succ, List.getElem_toArray, List.getElem_cons_zero, List.getElem_cons_succ]
            refine HeldTill.take (i := 8) (n := 8) (v := ?_) rfl (by kernel_rfl) (by kernel_rfl) (by kernel_rfl) (by kernel_rfl) (fun _ _ _ h => h) (Or.inl ⟨by rfl, ?_⟩) hSq0 ?_
            rotate_left
            · intro w hSw; (try dsimp only at hSw); go_simp; (try with_reducible rfl)
            simp only [Act.put, List.setIfInBounds_toArray, List.set_cons_zero, List.set_cons_succ, List.getElem_toArray, List.getElem_cons_zero, List.getElem_cons_succ]
            refine HeldTill.take (i := 9) (n := 7) (v := ?_) rfl (by kernel_rfl) (by kernel_rfl) (by kernel_rfl) (by kernel_rfl) (fun _ _ _ h => h) (Or.inl ⟨by rfl, ?_⟩) hSq0 ?_
            rotate_left
            · intro w hSw; (try dsimp only at hSw); go_simp; (try with_reducible rfl)
            simp only [Act.put, List.setIfInBounds_toArray, List.set_cons_zero, List.set_cons_succ, List.getElem_toArray, List.getElem_cons_zero, List.getElem_cons_succ]
            refine HeldTill.take (i := 10) (n := 6) (v := ?_) rfl (by kernel_rfl) (by kernel_rfl) (by kernel_rfl) (by kernel_rfl) (fun _ _ _ h => h) (Or.inl ⟨by rfl, ?_⟩) hSq0 ?_
            rotate_left
            · intro w hSw; (try dsimp only at hSw); go_simp; (try with_reducible rfl)
            simp only [Act.put, List.setIfInBounds_toArray, List.set_cons_zero, List.set_cons_succ, List.getElem_toArray, List.getElem_cons_zero, List.getElem_cons_succ]
            refine HeldTill.take (i := 11) (n := 5) (v := ?_) rfl (by kernel_rfl) (by kernel_rfl) (by kernel_rfl) (by kernel_rfl) (fun _ _ _ h => h) (Or.inl ⟨by rfl, ?_⟩) hSq0 ?_
            rotate_left
            · intro w hSw; (try dsimp only at hSw); go_simp; (try with_reducible rfl)
            simp only [Act.put, List.setIfInBounds_toArray, List.set_cons_zero, List.set_cons_succ, List.getElem_toArray, List.getElem_cons_zero, List.getElem_cons_succ]
            refine HeldTill.take (i := 12) (n := 4) (v := ?_) rfl (by kernel_rfl) (by kernel_rfl) (by kernel_rfl) (by kernel_rfl) (fun _ _ _ h => h) (Or.inl ⟨by rfl, ?_⟩) hSq0 ?_
            rotate_left
            · intro w hSw; (try dsimp only at hSw); go_simp; (try with_reducible rfl)
            simp only [Act.put, List.setIfInBounds_toArray, List.set_cons_zero, List.set_cons_succ, List.getElem_toArray, List.getElem_cons_zero, List.getElem_cons_succ]
            refine HeldTill.next (j := 13) (n := 3) (by kernel_rfl) rfl ?_
            go_wp2
            have hSq1 : (fun (w' : World) => w'.cell? ⟨g1, s, none⟩ = some (.slice (some ⟨gs, 0, none⟩) W cs) ∧ w'.cell? ⟨gs, a, none⟩ = some (.slice A4 0 c4)) _ := ⟨pw_cell_below HB1.out hch, pw_cell_below HB1.out hcu⟩
            refine ⟨(by first | exact fun _ => hSq1 | exact hSq1), ?_⟩
            refine HeldTill.next (j := 14) (n := 2) (by kernel_rfl) rfl ?_
            refine app_one rfl (.tmp 55) (.tmp 57) 22 3 (.int .i64 0) 8 rfl Try.underlying22 info3 rfl w.heap.size (.slice A4 0 c4) (.int .i64 y) [] wr.heap.size rfl rfl (heap_new wr _) rfl (HOWN.out _ HB1.out) (by simp) (by simp [maxLen]) (by show w.heap.size ≤ (wr.alloc _).heap.size; rw [World.size_alloc]; have := HSZ.out; omega) ?_; intro g' cap' w2 ho hgr hlie; (try simp only [List.length_nil, Nat.zero_add, List.nil_append] at ho); (try simp only [List.length_nil, Nat.zero_add, List.nil_append]); have HQ := Aside0.mk (HST.out _ w2 g' cap' HB1.out ho hgr (by rcases hlie with h | h; exact .inl h; right; rw [h]; show wr.heap.size ≤ (wr.alloc _).heap.size; rw [World.size_alloc]; omega)); clear ho hgr hlie
            go_wp2
            have hSq2 : (fun (w' : World) => w'.cell? ⟨g1, s, none⟩ = some (.slice (some ⟨gs, 0, none⟩) W cs) ∧ w'.cell? ⟨gs, a, none⟩ = some (.slice A4 0 c4)) _ := ⟨HQ.out.2.2.1, HQ.out.2.1⟩
            refine ⟨(by first | exact fun _ => hSq2 | exact hSq2), ?_⟩
            refine HeldTill.take (i := 15) (n := 1) (v := ?_) rfl (by kernel_rfl) (by kernel_rfl) (by kernel_rfl) (by kernel_rfl) (fun _ _ _ h => h) (Or.inl ⟨by rfl, ?_⟩) hSq2 ?_
            rotate_left
            · intro w hSw; (try dsimp only at hSw); go_simp; (try with_reducible rfl)
            simp only [Act.put, List.setIfInBounds_toArray, List.set_cons_zero, List.set_cons_succ, List.getElem_toArray, List.getElem_cons_zero, List.getElem_cons_succ]
            refine HeldTill.next (j := 16) (n := 0) (by kernel_rfl) rfl ?_
            have qc := HQ.out.2.1
            have qf := HQ.out.1
            go_wp2
            first | refine ⟨fun h => absurd h (by decide), (by kernel_rfl), ?_⟩ | refine ⟨(by kernel_rfl), ?_⟩
            have HFIN := Aside0.mk HQ.out.2.2.2
            go_wp2
            go_roundw
            case rel => exact ⟨a + 1, hal, by go_num, HFIN⟩
            case measure => simp [RowKit.intOf]; omega
          · have g1' : decide ((0 : Int) ≤ x[a]) = false := decide_eq_false hpos
            have HM : Aside0 (ofR x W a = ofR x W (a + 1)) := ⟨ofR_no (by rw [hxa]; exact hpos)⟩
            clear hpos hxa
            generalize x[a] = y at *
            go_wp2
            go_roundw
            case rel => exact ⟨a + 1, hal, by go_num, ⟨by rw [← HM.out]; exact HJ.out⟩⟩
            case measure => simp [RowKit.intOf]; omega
        · obtain rfl : a = x.length := by omega
          have HJ3 : Aside0 (Jn w wr (.slice (some ⟨g1, 0, none⟩) tl c1) (ofN S W l (s + 1)) LL) := ⟨by rw [← HNs.out]; have := HJ.out; rw [HXL.out] at this; exact this⟩
          clear HJ
          go_wp2
          go_roundw
          case rel => exact ⟨s + 1, hlt, by go_num, HJ3⟩
          case measure => simp [RowKit.intOf]; omega
    · obtain rfl : s = l.length := by omega
      go_wp2
      go_ret
      obtain ⟨vs2, us2, hT, hB⟩ := HJ.out.und
      exact ⟨_, vs2, us2, rfl, by rw [ofM]; rw [HLS.out] at hT; exact hT, hB⟩
end Go.Proofs.Ytkgocbmnjlfkoaa.M
end
section
namespace Go.Proofs.Ytkgocbmnjlfkoaa.X
open Go.RowKit Go.Proofs.YtkgocbmnjlfkoaaW.PrintWords Go.Proofs.YtkgocbmnjlfkoaaW.PrintLast Go.Proofs.YtkgocbmnjlfkoaaW.PrintMore
attribute [local go_sem] max2_int min2_int max_two min_two max_three min_three max_four min_four
set_option linter.unusedVariables false
set_option linter.unusedSimpArgs false
mutual
def timeboundref24_Below.l0 : Nat → Int → Int → List (List (List Int)) → List (List (List Int)) → Option (Bool)
  | 0, _, _, _, _ => none
  | k + 1, x15, x16, x103000, x104000 => if x16 < x15 then (if 0 ≤ x16 then (if x16 < (x104000.length : Int) then (timeboundref24_Below.l1 k x16 x15 x16 (rd_L2 x104000 x16) ((rd_L2 x104000 x16).length : Int) 0 x103000 x104000) else (none)) else (none)) else (some true)
def timeboundref24_Below.l1 : Nat → Int → Int → Int → List (List Int) → Int → Int → List (List (List Int)) → List (List (List Int)) → Option (Bool)
  | 0, _, _, _, _, _, _, _, _ => none
  | k + 1, x7, x15, x16, x23, x24, x25, x103000, x104000 => if x25 < x24 then (if 0 ≤ x25 then (if x25 < (x23.length : Int) then (timeboundref24_Below.l2 k x7 x25 x15 x16 x23 x24 x25 (rd_L1 x23 x25) ((rd_L1 x23 x25).length : Int) 0 x103000 x104000) else (none)) else (none)) else (timeboundref24_Below.l0 k x15 (wrap64 (x16 + 1)) x103000 x104000)
def timeboundref24_Below.l2 : Nat → Int → Int → Int → Int → List (List Int) → Int → Int → List Int → Int → Int → List (List (List Int)) → List (List (List Int)) → Option (Bool)
  | 0, _, _, _, _, _, _, _, _, _, _, _, _ => none
  | k + 1, x7, x8, x15, x16, x23, x24, x25, x30, x31, x32, x103000, x104000 => if x32 < x31 then (if 0 ≤ x32 then (if x32 < (x30.length : Int) then (if 0 ≤ x7 then (if x7 < (x103000.length : Int) then ((timeboundref24_Place.f k (rd_L2 x103000 x7) (rd x30 x32)).bind fun t108 => (if t108 < 0 then (some false) else (if t108 > x8 then (some false) else (timeboundref24_Below.l2 k x7 x8 x15 x16 x23 x24 x25 x30 x31 (wrap64 (x32 + 1)) x103000 x104000)))) else (none)) else (none)) else (none)) else (none)) else (timeboundref24_Below.l1 k x7 x15 x16 x23 x24 (wrap64 (x25 + 1)) x103000 x104000)
end
def timeboundref24_Below.f (k : Nat) (a0_0 : Int) (a0_1 : Int) (a0_2 : Int) (l1_0 : List (List (List Int))) (l2_0 : List (List (List Int))) : Option (Bool) := timeboundref24_Below.l0 k (l2_0.length : Int) 0 l1_0 l2_0
set_option maxHeartbeats 80000000 in
set_option maxRecDepth 100000 in
theorem timeboundref24_Below.calls (k : Nat) (a0_0 : Int) (a0_1 : Int) (a0_2 : Int) (A1_0 : Option Addr) (c1_0 : Nat) (l1_0 : List (List (List Int))) (A2_0 : Option Addr) (c2_0 : Nat) (l2_0 : List (List (List Int))) (r : Bool) (w : World) (hr1_0 : Kd.C (Kd.slice 22 (Kd.slice 3 (Kd.int .i64))) w A1_0 l1_0.length l1_0) (hc1_0 : l1_0.length ≤ c1_0) (hr2_0 : Kd.C (Kd.slice 22 (Kd.slice 3 (Kd.int .i64))) w A2_0 l2_0.length l2_0) (hc2_0 : l2_0.length ≤ c2_0) (h : timeboundref24_Below.f k a0_0 a0_1 a0_2 l1_0 l2_0 = some r) :
   Calls Try.prog 45 #[.agg #[.int .i64 a0_0, .int .i64 a0_1, .int .i64 a0_2], .agg #[.slice A1_0 l1_0.length c1_0], .agg #[.slice A2_0 l2_0.length c2_0]] w fun e w' => e = .returned (.bool r) ∧ Below w.heap.size w w' := by
  have hu26 := Try.underlying26
  have hu39 := Try.underlying39
  have HR1_0 := Aside0.mk hr1_0
  have HC1_0 := Aside0.mk hc1_0
  clear hr1_0 hc1_0
  have HR2_0 := Aside0.mk hr2_0
  have HC2_0 := Aside0.mk hc2_0
  clear hr2_0 hc2_0
  have HB := Aside0.mk (Below.refl w.heap.size w)
  have H : (timeboundref24_Below.l0 k (l2_0.length : Int) 0 l1_0 l2_0) = some r := h
  clear h
  have H' := Aside0.mk H
  clear H
  go_enter Try.func45, Try.ntmps45
  go_wp2_with (first | ((with_reducible refine gate_dst (N := 3) rfl ?_); refine box_event ?hg (N := 3) ?hd (cs := #[.int .i64 a0_0, .int .i64 a0_1, .int .i64 a0_2]) (t := 26) ?hr ?_; (case hd => rfl); (case hg => rfl); (case hr => first | (go_simp; done) | (go_simp; rfl)); intro gb101 hg w4 hbox hb; have n0_ := Aside0.mk (below_step (hB0 HB.out) hb); have n1_ := Aside0.mk (hbox); have n2_ := Aside0.mk ((by rw [hg]; exact (below_size (hB0 HB.out)) : w.heap.size ≤ gb101)); have n3_ := Aside0.mk ((by rw [hg]; exact (below_size (hB0 HB.out)) : w.heap.size ≤ gb101)); clear HB; have HB := n0_; have BK101 := n1_; have GW101 := n2_; have GE101 := n3_; clear n0_ n1_ n2_ n3_; clear hb hbox hg) | ((with_reducible refine gate_dst (N := 4) rfl ?_); refine box_event ?hg (N := 4) ?hd (cs := #[.slice A1_0 l1_0.length c1_0]) (t := 39) ?hr ?_; (case hd => rfl); (case hg => rfl); (case hr => first | (go_simp; done) | (go_simp; rfl)); intro gb102 hg w5 hbox hb; have n0_ := Aside0.mk (blk_below (g := gb101) (bK BK101.out) hb); have n1_ := Aside0.mk (below_step (hB1 HB.out GE101.out) hb); have n2_ := Aside0.mk (hbox); have n3_ := Aside0.mk ((by rw [hg]; exact (below_size (hB1 HB.out GE101.out)) : w.heap.size ≤ gb102)); have n4_ := Aside0.mk ((by rw [hg]; exact (below_size (hB1 HB.out GE101.out)) : w.heap.size ≤ gb102)); have n5_ := Aside0.mk ((by rw [hg]; exact Nat.ne_of_lt (blk_lt (g := gb101) (bK BK101.out)) : gb101 ≠ gb102)); have n6_ := Aside0.mk ((by rw [hg]; exact Nat.ne_of_gt (blk_lt (g := gb101) (bK BK101.out)) : gb102 ≠ gb101)); clear BK101 HB; have BK101 := n0_; have HB := n1_; have BK102 := n2_; have GW102 := n3_; have GE102 := n4_; have NB101_102 := n5_; have NB102_101 := n6_; clear n0_ n1_ n2_ n3_ n4_ n5_ n6_; clear hb hbox hg) | ((with_reducible refine gate_dst (N := 5) rfl ?_); refine box_event ?hg (N := 5) ?hd (cs := #[.slice A2_0 l2_0.length c2_0]) (t := 39) ?hr ?_; (case hd => rfl); (case hg => rfl); (case hr => first | (go_simp; done) | (go_simp; rfl)); intro gb103 hg w6 hbox hb; have n0_ := Aside0.mk (blk_below (g := gb101) (bK BK101.out) hb); have n1_ := Aside0.mk (blk_below (g := gb102) (bK BK102.out) hb); have n2_ := Aside0.mk (below_step (hB2 HB.out GE101.out GE102.out) hb); have n3_ := Aside0.mk (hbox); have n4_ := Aside0.mk ((by rw [hg]; exact (below_size (hB2 HB.out GE101.out GE102.out)) : w.heap.size ≤ gb103)); have n5_ := Aside0.mk ((by rw [hg]; exact (below_size (hB2 HB.out GE101.out GE102.out)) : w.heap.size ≤ gb103)); have n6_ := Aside0.mk ((by rw [hg]; exact Nat.ne_of_lt (blk_lt (g := gb101) (bK BK101.out)) : gb101 ≠ gb103)); have n7_ := Aside0.mk ((by rw [hg]; exact Nat.ne_of_gt (blk_lt (g := gb101) (bK BK101.out)) : gb103 ≠ gb101)); have n8_ := Aside0.mk ((by rw [hg]; exact Nat.ne_of_lt (blk_lt (g := gb102) (bK BK102.out)) : gb102 ≠ gb103)); have n9_ := Aside0.mk ((by rw [hg]; exact Nat.ne_of_gt (blk_lt (g := gb102) (bK BK102.out)) : gb103 ≠ gb102)); clear BK101 BK102 HB; have BK101 := n0_; have BK102 := n1_; have HB := n2_; have BK103 := n3_; have GW103 := n4_; have GE103 := n5_; have NB101_103 := n6_; have NB103_101 := n7_; have NB102_103 := n8_; have NB103_102 := n9_; clear n0_ n1_ n2_ n3_ n4_ n5_ n6_ n7_ n8_ n9_; clear hb hbox hg; have hnb7 := NB103_101.out; have hnc7 := NB101_103.out; have hnb8 := NB103_102.out; have hnc8 := NB102_103.out; obtain ⟨hcz9_0, hfz9_0⟩ := cz1 BK103.out))
  (try simp only [Act.put, List.setIfInBounds_toArray, List.set_cons_zero, List.set_cons_succ])
  go_loopg [16] k (fun kq v16 w' => ∃ (x16_1 : Int), v16 = .int .i64 x16_1 ∧ Aside0 (timeboundref24_Below.l0 kq (l2_0.length : Int) x16_1 l1_0 l2_0 = some r) ∧ Aside0 (kq ≤ k) ∧ Aside0 (w'.heap[gb101]? = some (.cells #[.int .i64 a0_0, .int .i64 a0_1, .int .i64 a0_2] 26 (0, 0))) ∧ Aside0 (w'.heap[gb102]? = some (.cells #[(.slice A1_0 l1_0.length c1_0)] 39 (0, 0))) ∧ Aside0 (w'.heap[gb103]? = some (.cells #[(.slice A2_0 l2_0.length c2_0)] 39 (0, 0))) ∧ Aside0 (Below w.heap.size w w'))
  case atStart => exact ⟨(0), rS, H', ⟨Nat.le_refl _⟩, ⟨bK BK101.out⟩, ⟨bK BK102.out⟩, ⟨bK BK103.out⟩, ⟨hB3 HB.out GE101.out GE102.out GE103.out⟩⟩
  case round =>
   clear H'
   try clear hcz9_0
   try clear hfz9_0
   obtain ⟨x16_1, rfl, HA, HK1, BK101, BK102, BK103, HB⟩ := hrel
   cases gk with
   | zero => exact absurd HA.out (by simp [timeboundref24_Below.l0])
   | succ k1 =>
    have H := HA.out
    clear HA
    simp only [timeboundref24_Below.l0] at H
    by_cases c10 : x16_1 < (l2_0.length : Int)
    ·rw [if_pos c10] at H
     have c10b0 : decide (x16_1 < (l2_0.length : Int)) = true := decide_eq_true c10
     clear c10
     by_cases c11 : 0 ≤ x16_1
     ·rw [if_pos c11] at H
      have c11b0 : decide (0 ≤ x16_1) = true := decide_eq_true c11
      clear c11
      by_cases c12 : x16_1 < (l2_0.length : Int)
      ·rw [if_pos c12] at H
       have c12b0 : decide (x16_1 < (l2_0.length : Int)) = true := decide_eq_true c12
       clear c12
       have H' := Aside0.mk H
       clear H
       have hnb13 := NB103_101.out
       have hnc13 := NB101_103.out
       have hnb14 := NB103_102.out
       have hnc14 := NB102_103.out
       obtain ⟨hcz15_0, hfz15_0⟩ := cz1 BK103.out
       have p104 : 0 ≤ (x16_1 : Int) := oD
       have q104 : x16_1 < (l2_0.length : Int) := oD
       obtain ⟨ad104, A104_0, c104_0, e104, hx104_0, hl104_0, hi104_0⟩ := at_L2 HR2_0.out x16_1 p104 q104
       cases e104
       replace hx104_0 := (HB.out.cell (World.block_lt_of_cell? w _ hx104_0)).trans hx104_0
       have HR104_0 := Aside0.mk hi104_0
       have HC104_0 := Aside0.mk hl104_0
       clear hi104_0 hl104_0
       replace p104 := eq_true p104
       replace q104 := eq_true q104
       go_wp2
       go_loopg [25] k1 (fun kq v25 w' => ∃ (x25_2 : Int), v25 = .int .i64 x25_2 ∧ Aside0 (timeboundref24_Below.l1 kq x16_1 (l2_0.length : Int) x16_1 (rd_L2 l2_0 x16_1) ((rd_L2 l2_0 x16_1).length : Int) x25_2 l1_0 l2_0 = some r) ∧ Aside0 (kq ≤ k1) ∧ Aside0 (w'.heap[gb101]? = some (.cells #[.int .i64 a0_0, .int .i64 a0_1, .int .i64 a0_2] 26 (0, 0))) ∧ Aside0 (w'.heap[gb102]? = some (.cells #[(.slice A1_0 l1_0.length c1_0)] 39 (0, 0))) ∧ Aside0 (w'.heap[gb103]? = some (.cells #[(.slice (some ad104) l2_0.length c2_0)] 39 (0, 0))) ∧ Aside0 (Below w.heap.size w w'))
       case atStart => exact ⟨(0), rS, H', ⟨Nat.le_refl _⟩, ⟨bK BK101.out⟩, ⟨bK BK102.out⟩, ⟨bK BK103.out⟩, ⟨hB3 HB.out GE101.out GE102.out GE103.out⟩⟩
       case round =>
        clear H'
        try clear c10b0
        try clear c11b0
        try clear c12b0
        try clear hcz15_0
        try clear hfz15_0
        try clear hx104_0
        try clear p104
        try clear q104
        obtain ⟨x25_2, rfl, HA, HK2, BK101, BK102, BK103, HB⟩ := hrel
        cases gk with
        | zero => exact absurd HA.out (by simp [timeboundref24_Below.l1])
        | succ k2 =>
         have H := HA.out
         clear HA
         simp only [timeboundref24_Below.l1] at H
         by_cases c16 : x25_2 < ((rd_L2 l2_0 x16_1).length : Int)
         ·rw [if_pos c16] at H
          have c16b0 : decide (x25_2 < ((rd_L2 l2_0 x16_1).length : Int)) = true := decide_eq_true c16
          clear c16
          by_cases c17 : 0 ≤ x25_2
          ·rw [if_pos c17] at H
           have c17b0 : decide (0 ≤ x25_2) = true := decide_eq_true c17
           clear c17
           by_cases c18 : x25_2 < ((rd_L2 l2_0 x16_1).length : Int)
           ·rw [if_pos c18] at H
            have c18b0 : decide (x25_2 < ((rd_L2 l2_0 x16_1).length : Int)) = true := decide_eq_true c18
            clear c18
            have H' := Aside0.mk H
            clear H
            have p105 : 0 ≤ (x25_2 : Int) := oD
            have q105 : x25_2 < ((rd_L2 l2_0 x16_1).length : Int) := oD
            obtain ⟨ad105, A105_0, c105_0, e105, hx105_0, hl105_0, hi105_0⟩ := at_L1 HR104_0.out x25_2 p105 q105
            cases e105
            replace hx105_0 := (HB.out.cell (World.block_lt_of_cell? w _ hx105_0)).trans hx105_0
            have HR105_0 := Aside0.mk hi105_0
            have HC105_0 := Aside0.mk hl105_0
            clear hi105_0 hl105_0
            replace p105 := eq_true p105
            replace q105 := eq_true q105
            go_wp2
            go_loopg [32] k2 (fun kq v32 w' => ∃ (x32_3 : Int), v32 = .int .i64 x32_3 ∧ Aside0 (timeboundref24_Below.l2 kq x16_1 x25_2 (l2_0.length : Int) x16_1 (rd_L2 l2_0 x16_1) ((rd_L2 l2_0 x16_1).length : Int) x25_2 (rd_L1 (rd_L2 l2_0 x16_1) x25_2) ((rd_L1 (rd_L2 l2_0 x16_1) x25_2).length : Int) x32_3 l1_0 l2_0 = some r) ∧ Aside0 (kq ≤ k2) ∧ Aside0 (w'.heap[gb101]? = some (.cells #[.int .i64 a0_0, .int .i64 a0_1, .int .i64 a0_2] 26 (0, 0))) ∧ Aside0 (w'.heap[gb102]? = some (.cells #[(.slice A1_0 l1_0.length c1_0)] 39 (0, 0))) ∧ Aside0 (w'.heap[gb103]? = some (.cells #[(.slice (some ad104) l2_0.length c2_0)] 39 (0, 0))) ∧ Aside0 (Below w.heap.size w w'))
            case atStart => exact ⟨(0), rS, H', ⟨Nat.le_refl _⟩, ⟨bK BK101.out⟩, ⟨bK BK102.out⟩, ⟨bK BK103.out⟩, ⟨hB3 HB.out GE101.out GE102.out GE103.out⟩⟩
            case round =>
             clear H'
             try clear c16b0
             try clear c17b0
             try clear c18b0
             try clear hx105_0
             try clear p105
             try clear q105
             obtain ⟨x32_3, rfl, HA, HK3, BK101, BK102, BK103, HB⟩ := hrel
             cases gk with
             | zero => exact absurd HA.out (by simp [timeboundref24_Below.l2])
             | succ k3 =>
              have H := HA.out
              clear HA
              simp only [timeboundref24_Below.l2] at H
              by_cases c19 : x32_3 < ((rd_L1 (rd_L2 l2_0 x16_1) x25_2).length : Int)
              ·rw [if_pos c19] at H
               have c19b0 : decide (x32_3 < ((rd_L1 (rd_L2 l2_0 x16_1) x25_2).length : Int)) = true := decide_eq_true c19
               clear c19
               by_cases c20 : 0 ≤ x32_3
               ·rw [if_pos c20] at H
                have c20b0 : decide (0 ≤ x32_3) = true := decide_eq_true c20
                clear c20
                by_cases c21 : x32_3 < ((rd_L1 (rd_L2 l2_0 x16_1) x25_2).length : Int)
                ·rw [if_pos c21] at H
                 have c21b0 : decide (x32_3 < ((rd_L1 (rd_L2 l2_0 x16_1) x25_2).length : Int)) = true := decide_eq_true c21
                 clear c21
                 by_cases c22 : 0 ≤ x16_1
                 ·rw [if_pos c22] at H
                  have c22b0 : decide (0 ≤ x16_1) = true := decide_eq_true c22
                  clear c22
                  by_cases c23 : x16_1 < (l1_0.length : Int)
                  ·rw [if_pos c23] at H
                   have c23b0 : decide (x16_1 < (l1_0.length : Int)) = true := decide_eq_true c23
                   clear c23
                   replace H := Option.bind_eq_some_iff.mp H
                   obtain ⟨t108, A240, H⟩ := H
                   replace H : (if t108 < 0 then (some false) else (if t108 > x25_2 then (some false) else (timeboundref24_Below.l2 k3 x16_1 x25_2 (l2_0.length : Int) x16_1 (rd_L2 l2_0 x16_1) ((rd_L2 l2_0 x16_1).length : Int) x25_2 (rd_L1 (rd_L2 l2_0 x16_1) x25_2) ((rd_L1 (rd_L2 l2_0 x16_1) x25_2).length : Int) (wrap64 (x32_3 + 1)) l1_0 l2_0))) = some r := H
                   have A24 := Aside0.mk A240
                   clear A240
                   by_cases c25 : t108 < 0
                   ·rw [if_pos c25] at H
                    have c25b0 : decide (t108 < 0) = true := decide_eq_true c25
                    clear c25
                    obtain rfl := Option.some.inj H
                    have p106 : 0 ≤ (x32_3 : Int) := oD
                    have q106 : x32_3 < ((rd_L1 (rd_L2 l2_0 x16_1) x25_2).length : Int) := oD
                    obtain ⟨ad106, e106, hx106_0⟩ := Kd.at_int HR105_0.out x32_3 p106 q106
                    cases e106
                    replace hx106_0 := (HB.out.cell (World.block_lt_of_cell? w _ hx106_0)).trans hx106_0
                    replace p106 := eq_true p106
                    replace q106 := eq_true q106
                    have hnb26 := NB102_101.out
                    have hnc26 := NB101_102.out
                    have hnb27 := NB102_103.out
                    have hnc27 := NB103_102.out
                    obtain ⟨hcz28_0, hfz28_0⟩ := cz1 BK102.out
                    have p107 : 0 ≤ (x16_1 : Int) := oD
                    have q107 : x16_1 < (l1_0.length : Int) := oD
                    obtain ⟨ad107, A107_0, c107_0, e107, hx107_0, hl107_0, hi107_0⟩ := at_L2 HR1_0.out x16_1 p107 q107
                    cases e107
                    replace hx107_0 := (HB.out.cell (World.block_lt_of_cell? w _ hx107_0)).trans hx107_0
                    have HR107_0 := Aside0.mk hi107_0
                    have HC107_0 := Aside0.mk hl107_0
                    clear hi107_0 hl107_0
                    replace p107 := eq_true p107
                    replace q107 := eq_true q107
                    go_wp2_with (first | ((with_reducible refine gate_callee (f := 76) rfl ?_); refine goesL_ (some 42) rfl rfl Try.func76 (by kernel_rfl) rfl #[.slice A107_0 (rd_L2 l1_0 x16_1).length c107_0, .int .i64 (rd (rd_L1 (rd_L2 l2_0 x16_1) x25_2) x32_3)] rfl aM ?_; (with_reducible refine (timeboundref24_Place.calls k3 _ _ (rd_L2 l1_0 x16_1) (rd (rd_L1 (rd_L2 l2_0 x16_1) x25_2) x32_3) t108 _ ?side1 ?side2 A24.out).mono ?_); (case side1 => repeat (first | exact (Kd.C_below HR107_0.out HB.out) | (with_reducible refine Kd.C_alloc ?_ _) | (with_reducible refine Kd.C_drewN ?_ _) | (with_reducible refine Kd.C_drew ?_))); (case side2 => exact HC107_0.out); rintro e w' ⟨rfl, ⟨nd, rfl⟩⟩; refine ⟨_, rfl, ?_⟩))
                    go_ret
                    exact ⟨eW, hB3 HB.out GE101.out GE102.out GE103.out⟩
                   ·rw [if_neg c25] at H
                    have c25b0 : decide (t108 < 0) = false := decide_eq_false c25
                    clear c25
                    by_cases c29 : t108 > x25_2
                    ·rw [if_pos c29] at H
                     have c29b0 : decide (x25_2 < t108) = true := decide_eq_true c29
                     clear c29
                     obtain rfl := Option.some.inj H
                     have p106 : 0 ≤ (x32_3 : Int) := oD
                     have q106 : x32_3 < ((rd_L1 (rd_L2 l2_0 x16_1) x25_2).length : Int) := oD
                     obtain ⟨ad106, e106, hx106_0⟩ := Kd.at_int HR105_0.out x32_3 p106 q106
                     cases e106
                     replace hx106_0 := (HB.out.cell (World.block_lt_of_cell? w _ hx106_0)).trans hx106_0
                     replace p106 := eq_true p106
                     replace q106 := eq_true q106
                     have hnb30 := NB102_101.out
                     have hnc30 := NB101_102.out
                     have hnb31 := NB102_103.out
                     have hnc31 := NB103_102.out
                     obtain ⟨hcz32_0, hfz32_0⟩ := cz1 BK102.out
                     have p107 : 0 ≤ (x16_1 : Int) := oD
                     have q107 : x16_1 < (l1_0.length : Int) := oD
                     obtain ⟨ad107, A107_0, c107_0, e107, hx107_0, hl107_0, hi107_0⟩ := at_L2 HR1_0.out x16_1 p107 q107
                     cases e107
                     replace hx107_0 := (HB.out.cell (World.block_lt_of_cell? w _ hx107_0)).trans hx107_0
                     have HR107_0 := Aside0.mk hi107_0
                     have HC107_0 := Aside0.mk hl107_0
                     clear hi107_0 hl107_0
                     replace p107 := eq_true p107
                     replace q107 := eq_true q107
                     go_wp2_with (first | ((with_reducible refine gate_callee (f := 76) rfl ?_); refine goesL_ (some 42) rfl rfl Try.func76 (by kernel_rfl) rfl #[.slice A107_0 (rd_L2 l1_0 x16_1).length c107_0, .int .i64 (rd (rd_L1 (rd_L2 l2_0 x16_1) x25_2) x32_3)] rfl aM ?_; (with_reducible refine (timeboundref24_Place.calls k3 _ _ (rd_L2 l1_0 x16_1) (rd (rd_L1 (rd_L2 l2_0 x16_1) x25_2) x32_3) t108 _ ?side1 ?side2 A24.out).mono ?_); (case side1 => repeat (first | exact (Kd.C_below HR107_0.out HB.out) | (with_reducible refine Kd.C_alloc ?_ _) | (with_reducible refine Kd.C_drewN ?_ _) | (with_reducible refine Kd.C_drew ?_))); (case side2 => exact HC107_0.out); rintro e w' ⟨rfl, ⟨nd, rfl⟩⟩; refine ⟨_, rfl, ?_⟩))
                     go_ret
                     exact ⟨eW, hB3 HB.out GE101.out GE102.out GE103.out⟩
                    ·rw [if_neg c29] at H
                     have c29b0 : decide (x25_2 < t108) = false := decide_eq_false c29
                     clear c29
                     have H' := Aside0.mk H
                     clear H
                     have p106 : 0 ≤ (x32_3 : Int) := oD
                     have q106 : x32_3 < ((rd_L1 (rd_L2 l2_0 x16_1) x25_2).length : Int) := oD
                     obtain ⟨ad106, e106, hx106_0⟩ := Kd.at_int HR105_0.out x32_3 p106 q106
                     cases e106
                     replace hx106_0 := (HB.out.cell (World.block_lt_of_cell? w _ hx106_0)).trans hx106_0
                     replace p106 := eq_true p106
                     replace q106 := eq_true q106
                     have hnb33 := NB102_101.out
                     have hnc33 := NB101_102.out
                     have hnb34 := NB102_103.out
                     have hnc34 := NB103_102.out
                     obtain ⟨hcz35_0, hfz35_0⟩ := cz1 BK102.out
                     have p107 : 0 ≤ (x16_1 : Int) := oD
                     have q107 : x16_1 < (l1_0.length : Int) := oD
                     obtain ⟨ad107, A107_0, c107_0, e107, hx107_0, hl107_0, hi107_0⟩ := at_L2 HR1_0.out x16_1 p107 q107
                     cases e107
                     replace hx107_0 := (HB.out.cell (World.block_lt_of_cell? w _ hx107_0)).trans hx107_0
                     have HR107_0 := Aside0.mk hi107_0
                     have HC107_0 := Aside0.mk hl107_0
                     clear hi107_0 hl107_0
                     replace p107 := eq_true p107
                     replace q107 := eq_true q107
                     go_wp2_with (first | ((with_reducible refine gate_callee (f := 76) rfl ?_); refine goesL_ (some 42) rfl rfl Try.func76 (by kernel_rfl) rfl #[.slice A107_0 (rd_L2 l1_0 x16_1).length c107_0, .int .i64 (rd (rd_L1 (rd_L2 l2_0 x16_1) x25_2) x32_3)] rfl aM ?_; (with_reducible refine (timeboundref24_Place.calls k3 _ _ (rd_L2 l1_0 x16_1) (rd (rd_L1 (rd_L2 l2_0 x16_1) x25_2) x32_3) t108 _ ?side1 ?side2 A24.out).mono ?_); (case side1 => repeat (first | exact (Kd.C_below HR107_0.out HB.out) | (with_reducible refine Kd.C_alloc ?_ _) | (with_reducible refine Kd.C_drewN ?_ _) | (with_reducible refine Kd.C_drew ?_))); (case side2 => exact HC107_0.out); rintro e w' ⟨rfl, ⟨nd, rfl⟩⟩; refine ⟨_, rfl, ?_⟩))
                     go_roundg k3
                     case measure => have := HK1.out; have := HK2.out; have := HK3.out; omega
                     case rel => exact ⟨(wrap64 (x32_3 + 1)), rS, H', ⟨by have := HK1.out; have := HK2.out; have := HK3.out; omega⟩, ⟨bK BK101.out⟩, ⟨bK BK102.out⟩, ⟨bK BK103.out⟩, ⟨hB3 HB.out GE101.out GE102.out GE103.out⟩⟩
                  ·rw [if_neg c23] at H
                   exact absurd H (by simp)
                 ·rw [if_neg c22] at H
                  exact absurd H (by simp)
                ·rw [if_neg c21] at H
                 exact absurd H (by simp)
               ·rw [if_neg c20] at H
                exact absurd H (by simp)
              ·rw [if_neg c19] at H
               have c19b0 : decide (x32_3 < ((rd_L1 (rd_L2 l2_0 x16_1) x25_2).length : Int)) = false := decide_eq_false c19
               clear c19
               have H' := Aside0.mk H
               clear H
               go_wp2
               go_roundg k3
               case measure => have := HK1.out; have := HK2.out; have := HK3.out; omega
               case rel => exact ⟨(wrap64 (x25_2 + 1)), rS, H', ⟨by have := HK1.out; have := HK2.out; have := HK3.out; omega⟩, ⟨bK BK101.out⟩, ⟨bK BK102.out⟩, ⟨bK BK103.out⟩, ⟨hB3 HB.out GE101.out GE102.out GE103.out⟩⟩
           ·rw [if_neg c18] at H
            exact absurd H (by simp)
          ·rw [if_neg c17] at H
           exact absurd H (by simp)
         ·rw [if_neg c16] at H
          have c16b0 : decide (x25_2 < ((rd_L2 l2_0 x16_1).length : Int)) = false := decide_eq_false c16
          clear c16
          have H' := Aside0.mk H
          clear H
          go_wp2
          go_roundg k2
          case measure => have := HK1.out; have := HK2.out; omega
          case rel => exact ⟨(wrap64 (x16_1 + 1)), rS, H', ⟨by have := HK1.out; have := HK2.out; omega⟩, ⟨bK BK101.out⟩, ⟨bK BK102.out⟩, ⟨bK BK103.out⟩, ⟨hB3 HB.out GE101.out GE102.out GE103.out⟩⟩
      ·rw [if_neg c12] at H
       exact absurd H (by simp)
     ·rw [if_neg c11] at H
      exact absurd H (by simp)
    ·rw [if_neg c10] at H
     have c10b0 : decide (x16_1 < (l2_0.length : Int)) = false := decide_eq_false c10
     clear c10
     obtain rfl := Option.some.inj H
     go_wp2
     go_ret
     exact ⟨eW, hB3 HB.out GE101.out GE102.out GE103.out⟩
end Go.Proofs.Ytkgocbmnjlfkoaa.X
end
section
namespace Go.Proofs.Ytkgocbmnjlfkoaa.M
open Go.RowKit Go.Proofs.Ytkgocbmnjlfkoaa.X Go.Proofs.YtkgocbmnjlfkoaaW.PrintWords Go.Proofs.YtkgocbmnjlfkoaaW.PrintLast Go.Proofs.YtkgocbmnjlfkoaaW.PrintMore
set_option linter.unusedVariables false
set_option linter.unusedSimpArgs false
def belL (ra : List (List Int)) (i : Nat) (l : List Int) : Bool := l.all fun y => decide (age ra y ≤ i ∧ age ra y < ra.length)
def belR (ra rb : List (List Int)) : Bool := (List.range' 0 rb.length).all fun i => belL ra i (rb.getD i [])
def belb (a b : List (List (List Int))) : Bool := (List.range' 0 b.length).all fun s => belR (a.getD s []) (b.getD s [])
theorem belb_iff (a b : List (List (List Int))) : belb a b = true ↔ Bel a b := by
  unfold belb belR belL Bel
  simp only [List.all_eq_true, List.mem_range', decide_eq_true_eq]
  constructor
  · intro h s i y hy
    have hi := mem_lt hy
    have hs : s < b.length := by
      by_cases hs : s < b.length
      · exact hs
      · rw [List.getD_eq_getElem?_getD (l := b), List.getElem?_eq_none (by omega)] at hy
        cases hy
    exact h s ⟨s, hs, by omega⟩ i ⟨i, hi, by omega⟩ y hy
  · rintro h s ⟨s', _, rfl⟩ i ⟨i', _, rfl⟩ y hy
    exact h _ _ y hy
section
variable {a b : List (List (List Int))} {ra rb : List (List Int)} {s : Nat} {r : Bool}
theorem rbel_l2 (hs : s < a.length) (ha : a[s].length < 1099511627776) (hl : ∀ l ∈ a[s], l.length < 1099511627776) {i : Nat} {v15 v16 v24 v25 : Int} {l : List Int} (hll : l.length < 4611686018427387904)
    (h : Ev (fun k => timeboundref24_Below.l1 k s v15 v16 rb v24 (wrap64 (v25 + 1)) a b) r) :
    ∀ j k : Nat, k + j = l.length → Ev (fun n => timeboundref24_Below.l2 n s i v15 v16 rb v24 v25 l (l.length : Int) k a b) (belL a[s] i (l.drop k) && r)
  | 0, k, hk => by
    refine Ev.step (fun k => by rw [timeboundref24_Below.l2]) ?_
    rw [List.drop_of_length_le (by omega)]
    exact evn (by omega) h
  | j + 1, k, hk => by
    have hkl : k < l.length := by omega
    refine Ev.step (fun k => by rw [timeboundref24_Below.l2]) ?_
    rw [List.drop_eq_getElem_cons hkl]
    simp only [rdL2 hs, rd_lt hkl]
    refine evp (by omega) (evp (by omega) (evp (by omega) (evp (by omega) (evp (by omega) (evb (place_ a[s] l[k] ha hl) ?_)))))
    have ih := rbel_l2 (i := i) hs ha hl hll h j (k + 1) (by omega)
    unfold belL at ih ⊢
    rw [List.all_cons]
    by_cases h1 : age a[s] l[k] < a[s].length
    · have hf : find a[s] l[k] = ((age a[s] l[k] : Nat) : Int) := by unfold find; rw [if_pos h1]
      rw [hf]
      by_cases h2 : age a[s] l[k] ≤ i
      · rw [decide_eq_true (show age a[s] l[k] ≤ i ∧ age a[s] l[k] < a[s].length from ⟨h2, h1⟩), Bool.true_and]
        refine evn (by omega) (evn (by omega) ?_)
        rw [w64 (by omega) (by omega)]
        exact ih
      · rw [decide_eq_false (fun h => h2 h.1), Bool.false_and, Bool.false_and]
        exact evn (by omega) (evp (by omega) (evr _))
    · have hf : find a[s] l[k] = -1 := by unfold find; rw [if_neg h1]
      rw [hf, decide_eq_false (fun h => h1 h.2), Bool.false_and, Bool.false_and]
      exact evp (by omega) (evr _)
theorem rbel_l1 (hs : s < a.length) (ha : a[s].length < 1099511627776) (hl : ∀ l ∈ a[s], l.length < 1099511627776) {v15 : Int} (hrb : rb.length < 4611686018427387904) (hrl : ∀ l ∈ rb, l.length < 4611686018427387904)
    (h : Ev (fun k => timeboundref24_Below.l0 k v15 (wrap64 ((s : Int) + 1)) a b) r) :
    ∀ j i : Nat, i + j = rb.length → Ev (fun n => timeboundref24_Below.l1 n s v15 s rb (rb.length : Int) i a b) (((List.range' i j).all fun i => belL a[s] i (rb.getD i [])) && r)
  | 0, i, hi => by
    refine Ev.step (fun k => by rw [timeboundref24_Below.l1]) ?_
    exact evn (by omega) h
  | j + 1, i, hi => by
    have hil : i < rb.length := by omega
    refine Ev.step (fun k => by rw [timeboundref24_Below.l1]) ?_
    simp only [rdL1 hil]
    refine evp (by omega) (evp (by omega) (evp (by omega) ?_))
    rw [List.range'_succ, List.all_cons, getD_lt hil, Bool.and_assoc]
    have ih := rbel_l1 hs ha hl hrb hrl h j (i + 1) (by omega)
    have h0 := rbel_l2 (i := i) (rb := rb) (b := b) (v15 := v15) (v16 := s) (v24 := rb.length) (v25 := i) hs ha hl (hrl _ (List.getElem_mem hil)) (by rw [w64 (by omega) (by omega)]; exact ih) rb[i].length 0 (by omega)
    exact h0
theorem rbel_l0 (hab : b.length ≤ a.length) (ha : ∀ r ∈ a, r.length < 1099511627776 ∧ ∀ l ∈ r, l.length < 1099511627776) (hb0 : b.length < 4611686018427387904) (hb : ∀ r ∈ b, r.length < 4611686018427387904 ∧ ∀ l ∈ r, l.length < 4611686018427387904) :
    ∀ j s : Nat, s + j = b.length → Ev (fun n => timeboundref24_Below.l0 n (b.length : Int) s a b) ((List.range' s j).all fun s => belR (a.getD s []) (b.getD s []))
  | 0, s, hs => by
    refine Ev.step (fun k => by rw [timeboundref24_Below.l0]) ?_
    exact evn (by omega) (evr _)
  | j + 1, s, hs => by
    have hsl : s < b.length := by omega
    have hsa : s < a.length := by omega
    refine Ev.step (fun k => by rw [timeboundref24_Below.l0]) ?_
    simp only [rdL2 hsl]
    refine evp (by omega) (evp (by omega) (evp (by omega) ?_))
    rw [List.range'_succ, List.all_cons, getD_lt hsl, getD_lt hsa]
    have ih := rbel_l0 hab ha hb0 hb j (s + 1) (by omega)
    obtain ⟨h1, h2⟩ := ha _ (List.getElem_mem hsa)
    obtain ⟨h3, h4⟩ := hb _ (List.getElem_mem hsl)
    exact rbel_l1 (v15 := b.length) hsa h1 h2 h3 h4 (by rw [w64 (by omega) (by omega)]; exact ih) b[s].length 0 (by omega)
end
theorem rbelow_calls {S W : Nat} (hS : S ≤ 8) (hW : W ≤ 4) (c0 c1 c2 : Int) (A B : Option Addr) (c d : Nat) (a b : List (List (List Int))) (w : World) (ha : Fit S W a) (hb : Fit S W b) (hra : C3 w A a) (hca : a.length ≤ c) (hrb : C3 w B b) (hcb : b.length ≤ d) :
    Calls Try.prog 45 #[.agg #[.int .i64 c0, .int .i64 c1, .int .i64 c2], .agg #[.slice A a.length c], .agg #[.slice B b.length d]] w fun e w' => e = .returned (.bool (belb a b)) ∧ Below w.heap.size w w' := by
  have hs3 := ha.short hS hW
  obtain ⟨k, hk0⟩ := rbel_l0 (a := a) (b := b) (by rw [ha.len, hb.len]; exact Nat.le_refl _) hs3.2 (by rw [hb.len]; omega) (fun r hr => by
    have := (hb.short hS hW).2 r hr
    exact ⟨by omega, fun l hl => by have := this.2 l hl; omega⟩) b.length 0 (by omega)
  exact timeboundref24_Below.calls k c0 c1 c2 A c a B d b _ w hra hca hrb hcb (hk0 k (Nat.le_refl _))
set_option maxHeartbeats 4000000 in
theorem describes_calls {S W L : Nat} (h : CacheOk S W L) (A B : Option Addr) (c d : Nat) (x : List (List (List Int))) (l : List (List Int)) (w : World) (hx : Fit S W x) (hl : Con S W l) (hr : C3 w A x) (hc : x.length ≤ c) (hrl : C2 w B l) (hcl : l.length ≤ d) :
    Calls Try.prog 42 #[.agg #[.int .i64 S, .int .i64 W, .int .i64 L], .agg #[.slice A x.length c], .agg #[.slice B l.length d]] w fun e w' => e = .returned (.bool (belb (ofM S W l) x)) ∧ Below w.heap.size w w' := by
  have hW4 := h.w4; have hS8 := h.s8
  have HB0 : Aside0 (Below w.heap.size w (((w.alloc (.cells #[.int .i64 S, .int .i64 W, .int .i64 L] 26)).alloc (.cells #[.slice A x.length c] 39)).alloc (.cells #[.slice B l.length d] 54)).drew) := ⟨((((Below.refl _ _).alloc (Nat.le_refl _) _).alloc (by simp) _).alloc (by simp; omega) _).drew⟩
  have hof := Aside0.mk (rof_calls h B d l (((w.alloc (.cells #[.int .i64 S, .int .i64 W, .int .i64 L] 26)).alloc (.cells #[.slice A x.length c] 39)).alloc (.cells #[.slice B l.length d] 54)).drew hl.len hl.row (Kd.C_below hrl HB0.out) hcl)
  have hbl := Aside0.mk (fun A2 k2 w2 (h1 : C3 w2 A2 (ofM S W l)) h2 (h3 : C3 w2 A x) => rbelow_calls (S := S) (W := W) hS8 hW4 S W L A2 A k2 c (ofM S W l) x w2 hl.of.fit hx h1 h2 h3 hc)
  have HR := Aside0.mk (Kd.C_below hr HB0.out)
  obtain ⟨b1, b2, b3⟩ := three_box (w := w) (o1 := .cells #[.int .i64 S, .int .i64 W, .int .i64 L] 26) (o2 := .cells #[.slice A x.length c] 39) (o3 := .cells #[.slice B l.length d] 54) (Below.refl _ _)
  obtain ⟨q0, q1, q2, f0, f1, f2⟩ := cz3 b1
  obtain ⟨q3, f3⟩ := cz1' b2
  obtain ⟨q4, f4⟩ := cz1' b3
  have hbx : Aside0 (∀ w2, Below ((w.alloc (.cells #[.int .i64 S, .int .i64 W, .int .i64 L] 26)).alloc (.cells #[.slice A x.length c] 39)).heap.size ((((w.alloc (.cells #[.int .i64 S, .int .i64 W, .int .i64 L] 26)).alloc (.cells #[.slice A x.length c] 39)).alloc (.cells #[.slice B l.length d] 54))) w2 → True) := ⟨fun _ _ => trivial⟩
  have HK : Aside0 (∀ w2, Below ((((w.alloc (.cells #[.int .i64 S, .int .i64 W, .int .i64 L] 26)).alloc (.cells #[.slice A x.length c] 39)).alloc (.cells #[.slice B l.length d] 54)).drew).heap.size (((w.alloc (.cells #[.int .i64 S, .int .i64 W, .int .i64 L] 26)).alloc (.cells #[.slice A x.length c] 39)).alloc (.cells #[.slice B l.length d] 54)).drew w2 →
      w2.cell? ⟨w.heap.size, 0, none⟩ = some (.int .i64 S) ∧ w2.cell? ⟨w.heap.size, 1, none⟩ = some (.int .i64 W) ∧ w2.cell? ⟨w.heap.size, 2, none⟩ = some (.int .i64 L) ∧ w2.cell? ⟨w.heap.size + 1, 0, none⟩ = some (.slice A x.length c) ∧ w2.cell? ⟨w.heap.size + 2, 0, none⟩ = some (.slice B l.length d)) := ⟨fun w2 hb => ⟨pw_cell_below hb q0, pw_cell_below hb q1, pw_cell_below hb q2, pw_cell_below hb q3, pw_cell_below hb q4⟩⟩
  clear hr hrl hl hx h b1 b2 b3 f0 f1 f2 f3 f4 hbx q0 q1 q2 q3 q4
  go_enter Try.func42, Try.ntmps42
  go_upto_region 1 with (fail)
  generalize ((w.alloc (.cells #[.int .i64 S, .int .i64 W, .int .i64 L] 26)).alloc (.cells #[.slice A x.length c] 39)).alloc (.cells #[.slice B l.length d] 54) = W0 at *
  refine HeldTill.begin_ (S := fun (w' : World) => w'.cell? ⟨w.heap.size, 0, none⟩ = some (.int .i64 S) ∧ w'.cell? ⟨w.heap.size, 1, none⟩ = some (.int .i64 W) ∧ w'.cell? ⟨w.heap.size, 2, none⟩ = some (.int .i64 L) ∧ w'.cell? ⟨w.heap.size + 1, 0, none⟩ = some (.slice A x.length c) ∧ w'.cell? ⟨w.heap.size + 2, 0, none⟩ = some (.slice B l.length d)) (F := fun _ => true) (by kernel_rfl) ?_
  have hSq0 : (fun (w' : World) => w'.cell? ⟨w.heap.size, 0, none⟩ = some (.int .i64 S) ∧ w'.cell? ⟨w.heap.size, 1, none⟩ = some (.int .i64 W) ∧ w'.cell? ⟨w.heap.size, 2, none⟩ = some (.int .i64 L) ∧ w'.cell? ⟨w.heap.size + 1, 0, none⟩ = some (.slice A x.length c) ∧ w'.cell? ⟨w.heap.size + 2, 0, none⟩ = some (.slice B l.length d)) W0.drew := HK.out _ (Below.refl _ _)
  refine HeldTill.take (i := 0) (n := 6) (v := ?_) rfl (by kernel_rfl) (by kernel_rfl) (by kernel_rfl) (by kernel_rfl) (fun _ _ _ h => h) (Or.inl ⟨by rfl, ?_⟩) hSq0 ?_
  rotate_left
  · intro w hSw; (try dsimp only at hSw); go_simp; (try with_reducible rfl)
  simp only [Act.put, List.setIfInBounds_toArray, List.set_cons_zero, List.set_cons_succ, List.getElem_toArray, List.getElem_cons_zero, List.getElem_cons_succ]
  refine HeldTill.take (i := 1) (n := 5) (v := ?_) rfl (by kernel_rfl) (by kernel_rfl) (by kernel_rfl) (by kernel_rfl) (fun _ _ _ h => h) (Or.inl ⟨by rfl, ?_⟩) hSq0 ?_
  rotate_left
  · intro w hSw; (try dsimp only at hSw); go_simp; (try with_reducible rfl)
  simp only [Act.put, List.setIfInBounds_toArray, List.set_cons_zero, List.set_cons_succ, List.getElem_toArray, List.getElem_cons_zero, List.getElem_cons_succ]
  refine HeldTill.take (i := 2) (n := 4) (v := ?_) rfl (by kernel_rfl) (by kernel_rfl) (by kernel_rfl) (by kernel_rfl) (fun _ _ _ h => h) (Or.inl ⟨by rfl, ?_⟩) hSq0 ?_
  rotate_left
  · intro w hSw; (try dsimp only at hSw); go_simp; (try with_reducible rfl)
  simp only [Act.put, List.setIfInBounds_toArray, List.set_cons_zero, List.set_cons_succ, List.getElem_toArray, List.getElem_cons_zero, List.getElem_cons_succ]
  refine HeldTill.take (i := 4) (n := 3) (v := ?_) rfl (by kernel_rfl) (by kernel_rfl) (by kernel_rfl) (by kernel_rfl) (fun _ _ _ h => h) (Or.inl ⟨by rfl, ?_⟩) hSq0 ?_
  rotate_left
  · intro w hSw; (try dsimp only at hSw); go_simp; (try with_reducible rfl)
  simp only [Act.put, List.setIfInBounds_toArray, List.set_cons_zero, List.set_cons_succ, List.getElem_toArray, List.getElem_cons_zero, List.getElem_cons_succ]
  refine HeldTill.next (j := 3) (n := 2) (by kernel_rfl) rfl ?_
  go_wp2_with (go_at_call 48; (with_reducible refine hof.out.mono ?_); rintro e w1 ⟨v1, vs1, us1, rfl, hT, hb⟩; obtain ⟨A1, c1, rfl, hc1, hr1⟩ := hT.reads; have HR1 := Aside0.mk hr1; have HB1 := Aside0.mk hb; clear hT hb hr1)
  have hSq1 : (fun (w' : World) => w'.cell? ⟨w.heap.size, 0, none⟩ = some (.int .i64 S) ∧ w'.cell? ⟨w.heap.size, 1, none⟩ = some (.int .i64 W) ∧ w'.cell? ⟨w.heap.size, 2, none⟩ = some (.int .i64 L) ∧ w'.cell? ⟨w.heap.size + 1, 0, none⟩ = some (.slice A x.length c) ∧ w'.cell? ⟨w.heap.size + 2, 0, none⟩ = some (.slice B l.length d)) _ := HK.out _ HB1.out
  refine ⟨fun _ => hSq1, ?_⟩
  refine HeldTill.next (j := 5) (n := 1) (by kernel_rfl) rfl ?_
  go_wp2_with (go_at_call 45; (with_reducible refine (hbl.out A1 c1 w1 HR1.out hc1 (Kd.C_below HR.out HB1.out)).mono ?_); rintro e w2 ⟨rfl, hb⟩; have HB2 := Aside0.mk (HB1.out.trans (hb.mono HB1.out.size)); have HB3 := Aside0.mk (HB0.out.trans (HB2.out.mono HB0.out.size)); clear hb)
  have hSq2 : (fun (w' : World) => w'.cell? ⟨w.heap.size, 0, none⟩ = some (.int .i64 S) ∧ w'.cell? ⟨w.heap.size, 1, none⟩ = some (.int .i64 W) ∧ w'.cell? ⟨w.heap.size, 2, none⟩ = some (.int .i64 L) ∧ w'.cell? ⟨w.heap.size + 1, 0, none⟩ = some (.slice A x.length c) ∧ w'.cell? ⟨w.heap.size + 2, 0, none⟩ = some (.slice B l.length d)) _ := HK.out _ HB2.out
  refine ⟨fun _ => hSq2, ?_⟩
  refine HeldTill.take (i := 6) (n := 0) (v := ?_) rfl (by kernel_rfl) (by kernel_rfl) (by kernel_rfl) (by kernel_rfl) (fun _ _ _ h => h) (Or.inl ⟨by rfl, ?_⟩) hSq2 ?_
  rotate_left
  · intro w hSw; (try dsimp only at hSw); go_simp; (try with_reducible rfl)
  simp only [Act.put, List.setIfInBounds_toArray, List.set_cons_zero, List.set_cons_succ, List.getElem_toArray, List.getElem_cons_zero, List.getElem_cons_succ]
  refine ⟨by kernel_rfl, ?_⟩
  go_wp2
  go_ret
  exact ⟨rfl, HB3.out⟩
set_option maxHeartbeats 1000000 in
theorem mof_calls {S W L : Nat} (h : CacheOk S W L) (A : Option Addr) (c : Nat) (l : List (List Int)) (w : World) (hl : Con S W l) (hr : C2 w A l) (hc : l.length ≤ c) : Calls Try.prog 37 #[.agg #[.int .i64 S, .int .i64 W, .int .i64 L], .agg #[.slice A l.length c]] w (New3S w (ofM S W l)) := by
  have HB0 : Aside0 (Below w.heap.size w (((w.alloc (.cells #[.int .i64 S, .int .i64 W, .int .i64 L] 26)).alloc (.cells #[.slice A l.length c] 54)).alloc (.cells #[.slice none 0 0] 39))) := ⟨(((Below.refl _ _).alloc (Nat.le_refl _) _).alloc (by simp) _).alloc (by simp; omega) _⟩
  have hin := Aside0.mk (aof_calls h A c l (((w.alloc (.cells #[.int .i64 S, .int .i64 W, .int .i64 L] 26)).alloc (.cells #[.slice A l.length c] 54)).alloc (.cells #[.slice none 0 0] 39)) hl.len hl.row (Kd.C_below hr HB0.out) hc)
  clear h hl hr
  go_enter Try.func37, Try.ntmps37
  go_wp2_with (first | (go_at_call 80; refine hin.out.mono ?_; rintro e w1 ⟨v1, vs1, us1, rfl, hT, hb⟩; obtain ⟨A1, c1, rfl, _, _⟩ := hT.reads; have HT1 := Aside0.mk (hT.lower (b' := w.heap.size) HB0.out.size); have HB1 := Aside0.mk (HB0.out.trans (hb.mono HB0.out.size)); obtain ⟨k1, k2, k3⟩ := three_box hb; have K3 := Aside0.mk k3; obtain ⟨q4, f4⟩ := cz1' k3; clear k1 k2 k3 hb hT))
  refine bodyPost_ret (results_cell rfl _ _ (w.heap.size + 2) 39 #[.slice A1 (ofM S W l).length c1] (0, 0) _ rfl (blk_put (cs := #[.slice none 0 0]) K3.out 0 _ rfl) Try.underlying39 rfl (by kernel_rfl)) rfl ?_
  exact ⟨_, vs1, us1, rfl, HT1.out.setFar K3.out (by decide) _, HB1.out.setCell (by show w.heap.size ≤ w.heap.size + 2; omega) _⟩
end Go.Proofs.Ytkgocbmnjlfkoaa.M
end
section
namespace Go.Proofs.Ytkgocbmnjlfkoaa.M
open Go.RowKit
set_option linter.unusedVariables false
set_option linter.unusedSimpArgs false
section
variable {S s W : Nat} {x : List Int}
theorem RowC.at_age (h : RowC S s W x) (y : Int) : (age (ofS W x) y < W ∧ x.getD (age (ofS W x) y) 0 = y ∧ 0 ≤ y) ∨ (age (ofS W x) y = W ∧ ∀ p, p < W → 0 ≤ y → x.getD p 0 ≠ y) := by
  have hV := h.of
  have hle := hV.age_le y
  by_cases hq : age (ofS W x) y < W
  · have hm := age_mem (r := ofS W x) (y := y) (by rw [hV.len]; exact hq)
    obtain ⟨h1, h2, h3⟩ := mem_ofS.1 hm
    exact .inl ⟨hq, h3.symm, by rw [h3]; exact h2⟩
  · refine .inr ⟨by omega, fun p hp h0 e => hq ?_⟩
    have hm : y ∈ (ofS W x).getD p [] := mem_ofS.2 ⟨hp, by rw [e]; exact h0, e.symm⟩
    rw [hV.age_of hm]
    exact hp
theorem RowC.age_of_at (h : RowC S s W x) {p : Nat} (hp : p < W) (h0 : 0 ≤ x.getD p 0) : age (ofS W x) (x.getD p 0) = p := h.of.age_of (mem_ofS.2 ⟨hp, h0, rfl⟩)
theorem RowC.at_use (h : RowC S s W x) {n : Int} (h0 : 0 ≤ n) : (age (ofS W x) n < W ∧ atC x n = age (ofS W x) n) ∨ (age (ofS W x) n = W ∧ atC x n = W - 1) := by
  have hl := h.len
  have hsp := atN_spec x n x.length
  rcases hsp with ⟨h1, h2⟩ | ⟨h1, h2, _⟩
  · rcases h.at_age n with ⟨h3, h4, _⟩ | ⟨h3, _⟩
    · exact absurd h4 (h2 _ (by omega))
    · exact .inr ⟨h3, by unfold atC; rw [h1, hl]⟩
  · have h5 : atN x n x.length < W := by omega
    have := h.age_of_at h5 (by rw [h1]; exact h0)
    rw [h1] at this
    exact .inl ⟨by omega, by unfold atC; exact this.symm⟩
theorem RowC.age_use (h : RowC S s W x) (hW : 0 < W) {n : Int} (h0 : 0 ≤ n) (h1 : n ≤ 1048576) (hn : n % S = s) (y : Int) : age (ofS W (useC x n)) y = ageU (fun a => decide (a < age (ofS W x) n)) W n y (age (ofS W x) y) := by
  have hl := h.len
  have h' := h.use h0 h1 hn
  have hat := h.at_use h0
  have hq := h.at_age y
  have hqn := h.at_age n
  have huse : ∀ i, i < W → (useC x n).getD i 0 = if i = 0 then n else x.getD (src (atC x n) i) 0 := fun i hi => useC_at n (by omega)
  refine age_eq (W := W) h'.of.len ?_ ?_ ?_
  · unfold ageU
    split
    · omega
    · split <;> omega
  · intro ha
    rw [mem_ofS]
    refine ⟨ha, ?_⟩
    have hv : (useC x n).getD (ageU (fun a => decide (a < age (ofS W x) n)) W n y (age (ofS W x) y)) 0 = y ∧ 0 ≤ y := by
      rw [huse _ ha]
      unfold ageU dst at ha ⊢
      by_cases hy : y = n
      · rw [if_pos hy, if_pos rfl]
        exact ⟨hy.symm, by omega⟩
      · rw [if_neg hy] at ha ⊢
        rcases hq with ⟨q1, q2, q3⟩ | ⟨q1, _⟩
        · refine ⟨?_, q3⟩
          rw [if_pos q1] at ha ⊢
          simp only [decide_eq_true_eq] at ha ⊢
          have hne : age (ofS W x) y ≠ age (ofS W x) n ∨ age (ofS W x) n = W := by
            rcases hqn with ⟨n1, n2, _⟩ | ⟨n1, _⟩
            · refine .inl fun e => hy ?_
              rw [← q2, e, n2]
            · exact .inr n1
          by_cases hlt : age (ofS W x) y < age (ofS W x) n
          · rw [if_pos hlt] at ha ⊢
            have e : min (age (ofS W x) y + 1) W = age (ofS W x) y + 1 := by omega
            rw [e, if_neg (by omega)]
            unfold src
            rw [if_pos (by omega)]
            exact q2
          · rw [if_neg hlt] at ha ⊢
            have e : min (age (ofS W x) y) W = age (ofS W x) y := by omega
            rw [e, if_neg (by omega)]
            unfold src
            rw [if_neg (by omega)]
            exact q2
        · rw [if_neg (by omega)] at ha
          omega
    exact ⟨by rw [hv.1]; exact hv.2, hv.1.symm⟩
  · intro i hi
    obtain ⟨hi1, hi2, hi3⟩ := mem_ofS.1 hi
    rw [huse i hi1] at hi2 hi3
    unfold ageU dst
    by_cases hy : y = n
    · rw [if_pos hy]
      omega
    · rw [if_neg hy]
      by_cases hi0 : i = 0
      · rw [if_pos hi0] at hi3
        exact absurd hi3 hy
      · rw [if_neg hi0] at hi2 hi3
        have hs : src (atC x n) i < W := by unfold src; split <;> omega
        have hqq := h.age_of_at hs hi2
        rw [← hi3] at hqq
        rw [if_pos (by omega)]
        simp only [decide_eq_true_eq]
        have hne : age (ofS W x) y ≠ age (ofS W x) n ∨ age (ofS W x) n = W := by
          rcases hqn with ⟨n1, n2, _⟩ | ⟨n1, _⟩
          · refine .inl fun e => hy ?_
            rw [hi3, ← hqq, e, n2]
          · exact .inr n1
        unfold src at hqq
        split at hqq <;> split <;> omega
end
theorem Con.use2 {S W L : Nat} {l : List (List Int)} (h : Con S W l) {m : Nat} (hd : m / L ≤ 1048576) : Con S W (useL S L l m) := by
  refine ⟨by rw [useL_length, h.len], fun s hs => ?_⟩
  unfold useL
  rw [if_neg (by omega)]
  have hlt : m / L % S < S := Nat.mod_lt _ (by omega)
  rw [getD_set _ _ _ _ (by rw [h.len]; exact hlt)]
  by_cases e : m / L % S = s
  · rw [if_pos e]
    have := h.el s hs
    rw [e]
    generalize m / L = n at *
    exact this.use (by omega) (by omega) (by rw [← e]; exact (Int.natCast_emod _ _).symm)
  · rw [if_neg e]
    exact h.el s hs
theorem of_use {S W L : Nat} {l : List (List Int)} (h : Con S W l) (hW : 0 < W) {k : Nat} (hL : 0 < L) (hk : k ≤ 1048576) : ofM S W (useL S L l (k * L)) = touchM S W (ofM S W l) k := by
  have hdiv : k * L / L = k := Nat.mul_div_cancel _ hL
  have hc := h.use2 (m := k * L) (L := L) (by rw [hdiv]; exact hk)
  refine hc.of.ext (h.of.touch hk) fun s hs y => ?_
  rw [touch_age h.of hW hs, ofM_at _ hs, ofM_at _ hs]
  have hlt : k % S < S := Nat.mod_lt _ (by omega)
  have hu : useL S L l (k * L) = l.set (k % S) (useC (l.getD (k % S) []) (k : Int)) := by
    unfold useL
    rw [if_neg (by omega), hdiv]
  rw [hu, getD_set _ _ _ _ (by rw [h.len]; exact hlt)]
  by_cases e : k % S = s
  · rw [if_pos e, if_pos e]
    subst e
    rw [ofM_at _ hlt]
    exact (h.el _ hlt).age_use hW (by omega) (by omega) (Int.natCast_emod _ _).symm y
  · rw [if_neg e, if_neg e]
theorem Le.trans {S : Nat} {a b c : List (List (List Int))} (h : Le S a b) (k : Le S b c) : Le S a c := fun s hs y => Nat.le_trans (h s hs y) (k s hs y)
theorem Le.refl (S : Nat) (a : List (List (List Int))) : Le S a a := fun s hs y => Nat.le_refl _
theorem le_fold {S W : Nat} {x : List (List (List Int))} (hx : Val S W x) : ∀ (ys : List Int) {o : List (List (List Int))}, Val S W o → (∀ z ∈ ys, z.toNat ≤ 1048576) →
    Le S o (ys.foldl (fun o z => joinM S W o (touchM S W x z.toNat)) o) ∧ ∀ z ∈ ys, Le S (touchM S W x z.toNat) (ys.foldl (fun o z => joinM S W o (touchM S W x z.toNat)) o)
  | [], o, ho, _ => ⟨Le.refl _ _, fun z hz => (by cases hz)⟩
  | y :: ys, o, ho, hy => by
    have hty := hx.touch (hy y List.mem_cons_self)
    obtain ⟨h1, h2⟩ := le_fold hx ys (ho.join (touchM S W x y.toNat)) (fun z hz => hy z (List.mem_cons_of_mem _ hz))
    refine ⟨(le_join1 ho hty).trans h1, fun z hz => ?_⟩
    rcases List.mem_cons.1 hz with rfl | hz
    · exact (le_join2 ho hty).trans h1
    · exact h2 z hz
theorem le_either {S W : Nat} {x : List (List (List Int))} (hx : Val S W x) : ∀ {l : List Int}, LinesOk l → ∀ z ∈ l, Le S (touchM S W x z.toNat) (eitherM S W x l)
  | [], _, z, hz => by cases hz
  | y :: ys, hl, z, hz => by
    have hok : ∀ z ∈ y :: ys, z.toNat ≤ 1048576 := fun z hz => by have := hl z hz; omega
    obtain ⟨h1, h2⟩ := le_fold hx ys (hx.touch (hok y List.mem_cons_self)) (fun z hz => hok z (List.mem_cons_of_mem _ hz))
    rcases List.mem_cons.1 hz with rfl | hz
    · exact h1
    · exact h2 z hz
theorem hitN_true {x : List Int} {n : Int} : ∀ k {p : Nat}, p < k → x.getD p 0 = n → hitN x n k = true
  | k + 1, p, hp, h => by
    rw [hitN]
    by_cases e : x.getD k 0 = n
    · rw [if_pos e]
    · rw [if_neg e]
      have : p ≠ k := fun e2 => e (e2 ▸ h)
      exact hitN_true k (by omega) h
theorem known_hits {S W L : Nat} {m : List (List (List Int))} {l : List (List Int)} (h : Con S W l) (hL : 0 < L) (hd : Le S (ofM S W l) m) {z : Nat} (hz : ageM S W m z < W) : hitL S L l (z * L) = true := by
  unfold ageM at hz
  by_cases hS : S = 0
  · rw [if_pos hS] at hz
    omega
  · rw [if_neg hS] at hz
    have hlt : z % S < S := Nat.mod_lt _ (Nat.pos_of_ne_zero hS)
    have h1 := hd _ hlt z
    rw [ofM_at _ hlt] at h1
    unfold hitL
    rw [if_neg hS, Nat.mul_div_cancel _ hL]
    have hr := h.el _ hlt
    rcases hr.at_age z with ⟨q1, q2, _⟩ | ⟨q1, _⟩
    · exact hitN_true _ (by rw [hr.len]; exact q1) q2
    · omega
theorem describes_true {S W : Nat} {m : List (List (List Int))} {l : List (List Int)} (h : Con S W l) (hm : Val S W m) (hd : Le S (ofM S W l) m) : belb (ofM S W l) m = true := (belb_iff _ _).2 (hd.bel h.of hm)
theorem desc_touch {S W L : Nat} {m : List (List (List Int))} {l : List (List Int)} (h : Con S W l) (hm : Val S W m) (hW : 0 < W) (hL : 0 < L) (hd : Le S (ofM S W l) m) {k : Nat} (hk : k ≤ 1048576) : Le S (ofM S W (useL S L l (k * L))) (touchM S W m k) := by
  rw [of_use h hW hL hk]
  exact hd.touch h.of hm hW k
theorem desc_either {S W L : Nat} {m : List (List (List Int))} {l : List (List Int)} (h : Con S W l) (hm : Val S W m) (hW : 0 < W) (hL : 0 < L) (hd : Le S (ofM S W l) m) {ls : List Int} (hls : LinesOk ls) {k : Nat} (hk : (k : Int) ∈ ls) : Le S (ofM S W (useL S L l (k * L))) (eitherM S W m ls) := by
  have hk2 := hls _ hk
  refine (desc_touch h hm hW hL hd (k := k) (by omega)).trans ?_
  have := le_either hm hls _ hk
  rwa [Int.toNat_natCast] at this
end Go.Proofs.Ytkgocbmnjlfkoaa.M
end
section
namespace Go.Proofs.Ytkgocbmnjlfkoaa.M
open Go.RowKit Go.Proofs.Ytkgocbmnjlfkoaa.X Go.Proofs.YtkgocbmnjlfkoaaW.PrintWords Go.Proofs.YtkgocbmnjlfkoaaW.PrintLast Go.Proofs.YtkgocbmnjlfkoaaW.PrintMore
set_option linter.unusedVariables false
set_option linter.unusedSimpArgs false
theorem wrap_small {p : Nat} (hp : p ≤ 8388608) : IntKind.i64.wrap (p : Int) = p := IntWalk.i64_in _ (by simp [IntKind.min, IntKind.max, IntKind.signed, IntKind.bits]; omega)
section
variable {w wr w' : World} {g : Nat} {xs : List Int} {Bx : List (Nat × Array Value × TypeId)} {Tx : List Th} {S W L : Nat}
theorem LM.sub (h : LM w wr g xs Bx Tx) {Bx' : List (Nat × Array Value × TypeId)} {Tx' : List Th} (hB : Bx'.Sublist Bx) (hT : ∀ t ∈ Tx', t ∈ Tx) : LM w wr g xs Bx' Tx' := ⟨h.deck, fun p hp => h.bx p (hB.subset hp), h.ne.sublist hB, fun t ht => h.tx t (hT t ht)⟩
theorem LM.addB (h : LM w wr g xs Bx Tx) {p : Nat} {cs : Array Value} {t : TypeId} (hp : wr.heap[p]? = some (.cells cs t (0, 0))) (ht : BoxT t) (hw : w.heap.size ≤ p) (hn : ∀ q ∈ Bx, q.1 ≠ p) : LM w wr g xs ((p, cs, t) :: Bx) Tx :=
  ⟨h.deck, fun q hq => by
    rcases List.mem_cons.1 hq with rfl | hq
    · exact ⟨hp, ht, hw⟩
    · exact h.bx q hq, List.pairwise_cons.2 ⟨fun q hq => hn q hq, h.ne⟩, h.tx⟩
theorem LM.lt (h : LM w wr g xs Bx Tx) : ∀ q ∈ Bx, q.1 < wr.heap.size := fun q hq => blk_lt (h.bx q hq).1
theorem few1 (h : LM w wr g xs Bx Tx) : Calls Try.prog 38 #[.pointer (some ⟨g, 0, none⟩)] wr fun e w' => ∃ A c r, e = .returned (.slice A (r : List Int).length c) ∧ LinesOk r ∧ r.length ≤ 3 ∧ T1 w' wr.heap.size (.slice A r.length c) r ∧ LM w w' g xs Bx Tx ∧ KeepBut wr w' g none := by
  have h0 := h
  obtain ⟨s, h1, h2, h3⟩ := h.deck
  obtain ⟨k, r, s', e1, k0, k1, k3⟩ := few_ h1
  refine (timeboundmake2_Few.calls k g xs s r s' w wr h2 h3 e1).mono ?_
  rintro e w' ⟨v, rfl, hR, i1, i2, i3⟩
  have hT := T1.ofR hR
  obtain ⟨A, c, rfl, j1, j2⟩ := hT.reads
  exact ⟨A, c, r, rfl, k0, k1, hT, h0.turn ⟨s', k3, i1, i2⟩ i3, i3⟩
theorem line1 (h : LM w wr g xs Bx Tx) : Calls Try.prog 28 #[.pointer (some ⟨g, 0, none⟩)] wr fun e w' => ∃ n : Nat, e = .returned (.int .i64 n) ∧ n ≤ 1048576 ∧ LM w w' g xs Bx Tx ∧ KeepBut wr w' g none ∧ ∀ b v (l : List Int), T1 wr b v l → T1 w' b v l := (line_calls h.deck).mono fun e w' ⟨r, h1, h2, h4, h5⟩ => ⟨r, h1, h2, h.turn h4 h5, h5, fun b v l hT => hT.keepD h.deck h5⟩
theorem LM.appended {w2 w3 : World} {v : Value} {g' q cap n : Nat} {r : List Int} (h : LM w wr g xs Bx Tx) (h2 : LM w w2 g xs Bx Tx) (hk : KeepBut wr w2 g none) (hT : T1 w2 wr.heap.size v r) (hq : q = r.length + 1)
    (ho : w3.ownsRow wr.heap.size 3 1 (.slice (some ⟨g', 0, none⟩) q cap) q (nums .i64 r ++ [.int .i64 n])) (hg : (w2.alloc (.cells #[.int .i64 n] 3)).grownBy w3 v.ownBlock) : LM w w3 g xs Bx (.s1 (.slice (some ⟨g', 0, none⟩) q cap) (r ++ [(n : Int)]) :: Tx) := by
  have hsz : wr.heap.size ≤ w2.heap.size := hk.1
  have hkeep : ∀ i, i < w2.heap.size → v.ownBlock ≠ some i → w3.heap[i]? = w2.heap[i]? := fun i hi hn => (hg.block i (by rw [World.size_alloc]; omega) (Ne.symm hn)).trans (Below.heap_alloc w2 _ i hi)
  have hkb : KeepBut wr w3 g none := ⟨by have := hg.size; rw [World.size_alloc] at this; omega, fun i hi hig hr => (hkeep i (by omega) (fun e => by have := (hT.lt e).1; omega)).trans (hk.2 i hi hig hr)⟩
  have hd3 : Dk w g xs w3 := by
    obtain ⟨s, k1, k2, k3⟩ := h2.deck
    have hglt := k2.lt
    have hgne : v.ownBlock ≠ some g := fun e => by
      have := (hT.lt e).1
      have := h.deck.lt
      omega
    have hb3 : Below w.heap.size w w3 := k3.trans ⟨hg.os, hg.tape, hg.output, by have := hg.size; rw [World.size_alloc] at this; omega, fun i hi => hkeep i (by have := k3.size; omega) (fun e => by have := (hT.lt e).1; have := h.below.size; omega)⟩
    obtain ⟨A0, c0, e1, e2, e3⟩ := k2
    exact ⟨s, k1, ⟨A0, c0, (hkeep g hglt hgne).trans e1, e2, e3⟩, hb3⟩
  exact (h.turn hd3 hkb).add ⟨_, T1.snoc (w0 := w2) (v := v) ho⟩
theorem LM.of (hC : CacheOk S W L) (h : LM w wr g xs Bx Tx) (i : Nat) {A : Option Addr} {k : Nat} {X : List (List Int)} (hi : Tx[i]? = some (.s2 (.slice A X.length k) X)) (hX : Con S W X) :
    Calls Try.prog 37 #[.agg #[.int .i64 S, .int .i64 W, .int .i64 L], .agg #[.slice A X.length k]] wr fun e w' => ∃ A' k', e = .returned (.agg #[.slice A' (ofM S W X).length k']) ∧ LM w w' g xs Bx (.s3 (.slice A' (ofM S W X).length k') (ofM S W X) :: Tx) :=
  h.made (mof_calls hC A k X wr hX (h.rd2 i hi).2.2 (h.rd2 i hi).2.1)
theorem LM.either (hC : CacheOk S W L) (h : LM w wr g xs Bx Tx) (i j : Nat) {A B : Option Addr} {k m q : Nat} {X : List (List (List Int))} {ls : List Int} (hi : Tx[i]? = some (.s3 (.slice A X.length k) X)) (hj : Tx[j]? = some (.s1 (.slice B q m) ls)) (hV : Val S W X) (hls : LinesOk ls) (hl : q < 1099511627776) :
    Calls Try.prog 39 #[.agg #[.int .i64 S, .int .i64 W, .int .i64 L], .agg #[.slice A X.length k], .slice B q m] wr fun e w' => ∃ A' k', e = .returned (.agg #[.slice A' (eitherM S W X ls).length k']) ∧ LM w w' g xs Bx (.s3 (.slice A' (eitherM S W X ls).length k') (eitherM S W X ls) :: Tx) := by
  obtain ⟨rfl, h1, h2⟩ := h.rd1 j hj
  exact h.made (meither_calls hC A B k m X ls wr hV hls (h.rd3 i hi).2.2 (h.rd3 i hi).2.1 h2 h1 hl)
theorem LM.rvalid (hC : CacheOk S W L) (h : LM w wr g xs Bx Tx) (i : Nat) {A : Option Addr} {k : Nat} {X : List (List (List Int))} (hi : Tx[i]? = some (.s3 (.slice A X.length k) X)) (hV : Val S W X) :
    Calls Try.prog 26 #[.agg #[.int .i64 S, .int .i64 W, .int .i64 L], .agg #[.slice A X.length k]] wr fun e w' => e = .returned (.bool true) ∧ LM w w' g xs Bx Tx := by
  have h1 := rvalid_calls hC A k X wr (by rw [hV.len]; have := hC.s8; omega) (fun r hr => by rw [(hV.fit.el r hr).1]; have := hC.w4; omega) (fun r hr l hl => by have := ((hV.fit.el r hr).2 l hl).2; omega) (h.rd3 i hi).2.2 (h.rd3 i hi).2.1
  rw [valb_yes hV.ok] at h1
  exact h.pure h1
theorem LM.describes (hC : CacheOk S W L) (h : LM w wr g xs Bx Tx) (i j : Nat) {A B : Option Addr} {k m : Nat} {X : List (List (List Int))} {l : List (List Int)} (hi : Tx[i]? = some (.s3 (.slice A X.length k) X)) (hj : Tx[j]? = some (.s2 (.slice B l.length m) l)) (hV : Val S W X) (hl : Con S W l) (hD : Le S (ofM S W l) X) :
    Calls Try.prog 42 #[.agg #[.int .i64 S, .int .i64 W, .int .i64 L], .agg #[.slice A X.length k], .agg #[.slice B l.length m]] wr fun e w' => e = .returned (.bool true) ∧ LM w w' g xs Bx Tx := by
  have h1 := describes_calls hC A B k m X l wr hV.fit hl (h.rd3 i hi).2.2 (h.rd3 i hi).2.1 (h.rd2 j hj).2.2 (h.rd2 j hj).2.1
  rw [describes_true hl hV hD] at h1
  exact h.pure h1
theorem LM.copy (h : LM w wr g xs Bx Tx) (i : Nat) {A : Option Addr} {k : Nat} {l : List (List Int)} (hi : Tx[i]? = some (.s2 (.slice A l.length k) l)) (hl : Con S W l) (hS : S ≤ 8) (hW : W ≤ 4) :
    Calls Try.prog 40 #[.agg #[.slice A l.length k]] wr fun e w' => ∃ A' k' vs, e = .returned (.agg #[.slice A' l.length k']) ∧ T2 w' wr.heap.size (.slice A' l.length k') vs l ∧ LM w w' g xs Bx Tx ∧ Below wr.heap.size wr w' :=
  (copy40_calls A k l wr (h.rd2 i hi).2.2 (h.rd2 i hi).2.1 (by rw [hl.len]; omega) (fun x hx => by rw [hl.row x hx]; omega)).mono fun e w' ⟨v, vs, h1, h2, h3⟩ => by
    obtain ⟨A', k', rfl, _, _⟩ := h2.reads
    exact ⟨A', k', vs, h1, h2, h.step h3, h3⟩
theorem LM.use {wa : World} (hC : CacheOk S W L) (h : LM w wa g xs Bx Tx) (hb : Below wa.heap.size wa wr) {A : Option Addr} {k : Nat} {vs : List Value} {l : List (List Int)} (hT : T2 wr wa.heap.size (.slice A l.length k) vs l) (hl : Con S W l) {m : Nat} (hm : m ≤ 1073741824) (hd : m / L ≤ 1048576) :
    Calls Try.prog 41 #[.agg #[.int .i64 S, .int .i64 W, .int .i64 L], .agg #[.slice A l.length k], .int .i64 m] wr fun e w' => e = .returned (.bool (hitL S L l m)) ∧ LM w w' g xs Bx (.s2 (.slice A (useL S L l m).length k) (useL S L l m) :: Tx) ∧
      (∀ (p : Nat) (cs : Array Value) (t : TypeId), wr.heap[p]? = some (.cells cs t (0, 0)) → BoxT t → w'.heap[p]? = some (.cells cs t (0, 0))) :=
  (use41b_calls hC _ vs l wa.heap.size m wr hT hb.size hl.len hl.row hm hd).mono fun e w' ⟨h1, h2, h3⟩ => by
    have h4 : Below wa.heap.size wa w' := hb.trans (h3.below hb.size (fun k hk => (hT.lt hk).1))
    refine ⟨h1, (h.step h4).add ⟨_, vs, by rw [useL_length]; exact h2⟩, fun p cs t hp ht => (h3.block p (blk_lt hp) (fun hk => ?_)).trans hp⟩
    obtain ⟨c1, e1, h0, h5⟩ := In2.typed hT hk
    rw [hp] at h5
    injection h5 with h5
    injection h5 with _ h5
    rcases h0 with rfl | rfl
    · exact ht.2.2.1 h5
    · exact ht.2.2.2 h5
end
end Go.Proofs.Ytkgocbmnjlfkoaa.M
end
section
namespace Go.Proofs.Ytkgocbmnjlfkoaa.M
open Go.RowKit Go.Proofs.Ytkgocbmnjlfkoaa.X Go.Proofs.YtkgocbmnjlfkoaaW.PrintWords Go.Proofs.YtkgocbmnjlfkoaaW.PrintLast Go.Proofs.YtkgocbmnjlfkoaaW.PrintMore
set_option linter.unusedVariables false
set_option linter.unusedSimpArgs false
set_option maxRecDepth 100000 in
set_option maxHeartbeats 8000000 in
theorem mustDescribes_walk (A0 : Option Addr) (c0 : Nat) (l : List Int) (w : World) (hr : C1 w A0 l) (hc : l.length ≤ c0) (hl : l.length ≤ 17592186044416) :
    Calls Try.prog 8 #[.slice A0 l.length c0] w fun e w' => e = .returned (.bool true) ∧ Below w.heap.size w w' := by
  have hnew := Aside0.mk (new_calls A0 c0 l w hr hc hl)
  clear hr
  go_enter Try.func8, Try.ntmps8
  go_upto_region 2 with (first | (go_at_call 14; refine hnew.out.mono ?_; rintro e w1 ⟨g, rfl, hd1, hb1⟩; have H1 := Aside0.mk (LM.first hd1); clear hd1 hb1))
  go_upto_region 3 with (first | (go_at_call 15; (with_reducible refine (LM.cache H1.out).mono ?_); rintro e w2 ⟨S, W, L, rfl, hC, hL⟩; have HC := Aside0.mk hC; have H2 := Aside0.mk hL; clear hC hL))
  have H3 := Aside0.mk (LM.newB H2.out #[.int .i64 S, .int .i64 W, .int .i64 L] 26 (by unfold BoxT; decide))
  generalize w2.heap.size = bc at *
  generalize w2.alloc (.cells #[.int .i64 S, .int .i64 W, .int .i64 L] 26) = w3 at *
  have hW1 := HC.out.w1
  have hS8 := HC.out.s8
  have hW4 := HC.out.w4
  clear hnew
  have qbc0 := LM.cell H3.out 0 rfl 0 rfl
  have qbc1 := LM.cell H3.out 0 rfl 1 rfl
  have qbc2 := LM.cell H3.out 0 rfl 2 rfl
  go_upto_region 4 with (first | (go_at_call 36; (with_reducible refine (LM.contents HC.out H3.out).mono ?_); rintro e w4 ⟨A4, k4, x0, rfl, hV, hL⟩; have HVx0 := Aside0.mk hV; have H4 := Aside0.mk hL; clear hV hL))
  clear qbc0 qbc1 qbc2
  have H5 := Aside0.mk (LM.newB H4.out #[.slice A4 x0.length k4] 54 (by unfold BoxT; decide))
  generalize w4.heap.size = px at *
  generalize w4.alloc (.cells #[.slice A4 x0.length k4] 54) = w5 at *
  have qbc0 := LM.cell H5.out 1 rfl 0 rfl
  have qbc1 := LM.cell H5.out 1 rfl 1 rfl
  have qbc2 := LM.cell H5.out 1 rfl 2 rfl
  have qpx0 := LM.cell H5.out 0 rfl 0 rfl
  go_upto_region 5 with (first | (go_at_call 37; (with_reducible refine (LM.of HC.out H5.out 0 rfl HVx0.out).mono ?_); rintro e w6 ⟨A6, k6, rfl, hL⟩; have H6 := Aside0.mk hL; clear hL))
  clear qbc0 qbc1 qbc2 qpx0
  have H7 := Aside0.mk (LM.newB H6.out #[.slice A6 (ofM S W x0).length k6] 39 (by unfold BoxT; decide))
  generalize w6.heap.size = pm at *
  generalize w6.alloc (.cells #[.slice A6 (ofM S W x0).length k6] 39) = w7 at *
  have HI0 : Aside0 (∃ Am km m Ax kx x, Val S W m ∧ Con S W x ∧ Le S (ofM S W x) m ∧ LM w w7 g l [(pm, #[.slice Am m.length km], 39), (px, #[.slice Ax x.length kx], 54), (bc, #[.int .i64 S, .int .i64 W, .int .i64 L], 26)] [.s3 (.slice Am m.length km) m, .s2 (.slice Ax x.length kx) x]) := ⟨_, _, _, _, _, _, HVx0.out.of, HVx0.out, Le.refl _ _, LM.sub H7.out (List.Sublist.refl _) (by simp)⟩
  clear H7 HVx0
  generalize (ofM S W x0).length = mlen at *
  go_upto_region 6 with (fail)
  go_loopw [21] (fun v21 wr => ∃ i : Nat, i ≤ 12 ∧ v21 = .int .i64 i ∧ Aside0 (∃ Am km m Ax kx x, Val S W m ∧ Con S W x ∧ Le S (ofM S W x) m ∧ LM w wr g l [(pm, #[.slice Am m.length km], 39), (px, #[.slice Ax x.length kx], 54), (bc, #[.int .i64 S, .int .i64 W, .int .i64 L], 26)] [.s3 (.slice Am m.length km) m, .s2 (.slice Ax x.length kx) x])) (fun v21 _ => 12 - (RowKit.intOf v21).toNat)
  case atStart => exact ⟨0, by omega, rfl, HI0⟩
  case round =>
    clear HI0
    obtain ⟨i, hi, rfl, HE⟩ := hrel
    by_cases hlt : i < 12
    · have g0 : decide ((i : Int) < 12) = true := decide_eq_true (by omega)
      obtain ⟨Am, km, m, Ax, kx, x, hV, hX, hD, hL⟩ := HE.out
      have HV := Aside0.mk hV
      have HX := Aside0.mk hX
      have HD := Aside0.mk hD
      have HL := Aside0.mk hL
      clear hV hX hD hL HE
      go_upto_region 8 with (first | (go_at_call 38; (with_reducible refine (few1 HL.out).mono ?_); rintro e w20 ⟨Af, cf, r, rfl, hlr, hr3, hT, hL, hk⟩; have HT20 := Aside0.mk hT; have H20 := Aside0.mk hL; have HK20 := Aside0.mk hk; have HLR := Aside0.mk hlr; clear hT hL hk hlr) | (go_at_call 28; (with_reducible refine (line1 H20.out).mono ?_); rintro e w21 ⟨n, rfl, hn, hL, hk, hT⟩; have H21 := Aside0.mk hL; have HT21 := Aside0.mk (hT _ _ _ HT20.out); have HK21 := Aside0.mk (KeepBut.trans HK20.out hk (.inl rfl)); clear hL hk hT; have HOWN : Aside0 ((w21.alloc (.cells #[.int .i64 n] 3)).ownsRow wr.heap.size 3 1 (.slice Af r.length cf) (nums .i64 r).length (nums .i64 r)) := ⟨by rw [show (nums .i64 r).length = r.length by simp [nums]]; exact HT21.out.keep (fun k hk => Below.heap_alloc w21 _ k (HT21.out.lt hk).2)⟩; have HSZ : Aside0 (wr.heap.size ≤ (w21.alloc (.cells #[.int .i64 n] 3)).heap.size) := ⟨by rw [World.size_alloc]; have := HK21.out.1; omega⟩) | (at_builtin; refine app_one rfl (.tmp 24) (.tmp 27) 22 3 (.int .i64 0) 8 rfl Try.underlying22 info3 rfl wr.heap.size (.slice Af r.length cf) (.int .i64 n) (nums .i64 r) w21.heap.size rfl rfl (heap_new w21 _) rfl (HOWN.out) (by simp [nums]; omega) (by simp [nums, maxLen]; omega) (HSZ.out) ?_; intro g' cap w22 ho hgr hlie; have HO := Aside0.mk ho; have HGR := Aside0.mk hgr; clear ho hgr hlie))
      have hnl : (nums .i64 r).length + 1 = r.length + 1 := by simp [nums]
      have hq0 : ∃ q, q = (nums .i64 r).length + 1 := ⟨_, rfl⟩
      obtain ⟨q, hq⟩ := hq0
      rw [← hq] at HO
      have hq2 : q = r.length + 1 := by omega
      have HLL := Aside0.mk (LM.appended HL.out H21.out HK21.out HT21.out hq2 HO.out HGR.out)
      have hls : LinesOk (r ++ [(n : Int)]) := fun y hy => by
        rcases List.mem_append.1 hy with h1 | h1
        · exact HLR.out y h1
        · rw [List.mem_singleton.1 h1]; omega
      have hql : (r ++ [(n : Int)]).length = q := by simp; omega
      have HLS := Aside0.mk hls
      have HQL := Aside0.mk hql
      have hq4 : q ≤ 4 := by omega
      have hq1 : 1 ≤ q := by omega
      (try rw [← hq])
      clear hnl hq hq2 hls hql HO HGR HT20 HT21 HK20 HK21 H20 H21 HOWN HSZ HL
      generalize r ++ [(n : Int)] = ls at *
      have hqi0 : (0 : Int) ≤ (q : Int) := by omega
      go_upto_region 9 with (first | (go_at_call 18; (with_reducible refine (LM.next HLL.out _ (by omega)).mono ?_); rintro e w31 ⟨j, rfl, hj1, hj2, hL⟩; have H31 := Aside0.mk hL; have hjq : j < q := (by have := hj1 (by omega); omega); have hcl := (T1.cell (H31.out.th 0 rfl).choose_spec (i := j) (by rw [HQL.out]; exact hjq)).1; have HKN : Aside0 (∃ kk : Nat, ls.getD j 0 = (kk : Int) ∧ kk ≤ 1048576 ∧ (kk : Int) ∈ ls) := ⟨by have hm : ls.getD j 0 ∈ ls := (by rw [getD_lt (by rw [HQL.out]; exact hjq)]; exact List.getElem_mem _); have := HLS.out _ hm; exact ⟨(ls.getD j 0).toNat, by omega, by omega, by rwa [Int.toNat_of_nonneg this.1]⟩⟩; obtain ⟨kk, hkk, hk20, hkm⟩ := HKN.out; rw [hkk] at hcl; clear hL hj1 hj2 hkk))
      have HKM := Aside0.mk hkm
      clear hcl hkm HKN HLL
      go_upto_if 38 with (first | (go_at_call 18; (with_reducible refine (LM.next H31.out 2 (by decide)).mono ?_); rintro e w32 ⟨r2, rfl, hj1, hj2, hL⟩; have H32 := Aside0.mk hL; clear hL hj1 hj2))
      go_cut [] from 36 to 46 (fun wx => Aside0 (∃ A2 k2 m2, Val S W m2 ∧ Le S (ofM S W (useL S L x (kk * L))) m2 ∧ LM w wx g l [(pm, #[.slice A2 m2.length k2], 39), (px, #[.slice Ax x.length kx], 54), (bc, #[.int .i64 S, .int .i64 W, .int .i64 L], 26)] [.s3 (.slice A2 m2.length k2) m2, .s2 (.slice Ax x.length kx) x]))
      case first =>
        by_cases hr2 : r2 = 0
        · subst hr2
          have qbc0 := LM.cell H32.out 2 rfl 0 rfl
          have qbc1 := LM.cell H32.out 2 rfl 1 rfl
          have qbc2 := LM.cell H32.out 2 rfl 2 rfl
          have qpm0 := LM.cell H32.out 0 rfl 0 rfl
          go_wp2_with (first | (go_at_call 39; (with_reducible refine (LM.either HC.out H32.out 1 0 rfl rfl HV.out HLS.out (by omega)).mono ?_); rintro e w33 ⟨A33, k33, rfl, hL⟩; have H33 := Aside0.mk hL; clear hL; have qz := LM.cell H33.out 0 rfl 0 rfl; have qzf := LM.free H33.out 0 rfl 0))
          have HZ := Aside0.mk (LM.put H33.out 0 rfl 0 (.slice A33 (eitherM S W m ls).length k33))
          go_meet
          case rel => exact ⟨_, _, _, HV.out.either HLS.out, desc_either HX.out HV.out hW1 HC.out.l1 HD.out HLS.out HKM.out, LM.sub HZ.out (List.Sublist.refl _) (by simp)⟩
        · have g1 : ((r2 : Int) == 0) = false := beq_eq_false_iff_ne.2 (by omega)
          clear hr2
          have qbc0 := LM.cell H32.out 2 rfl 0 rfl
          have qbc1 := LM.cell H32.out 2 rfl 1 rfl
          have qbc2 := LM.cell H32.out 2 rfl 2 rfl
          have qpm0 := LM.cell H32.out 0 rfl 0 rfl
          go_wp2_with (first | (go_at_call 29; (with_reducible refine (LM.touch HC.out H32.out 1 rfl HV.out.fit kk).mono ?_); rintro e w34 ⟨A34, k34, rfl, hL⟩; have H34 := Aside0.mk hL; clear hL; have qz := LM.cell H34.out 0 rfl 0 rfl; have qzf := LM.free H34.out 0 rfl 0))
          have HZ := Aside0.mk (LM.put H34.out 0 rfl 0 (.slice A34 (touchM S W m kk).length k34))
          go_meet
          case rel => exact ⟨_, _, _, HV.out.touch hk20, desc_touch HX.out HV.out hW1 HC.out.l1 HD.out hk20, LM.sub HZ.out (List.Sublist.refl _) (by simp)⟩
      case rest =>
        obtain ⟨A2, k2, m2, hV2, hD2, hL2⟩ := hcut.out
        have HV2 := Aside0.mk hV2
        have HD2 := Aside0.mk hD2
        have H50 := Aside0.mk hL2
        have HX2 := Aside0.mk (HX.out.use2 (L := L) (m := kk * L) (by rw [Nat.mul_div_cancel _ HC.out.l1]; exact hk20))
        clear hV2 hD2 hL2 hcut H32 HV HD HKM HLS
        have qpx0 := LM.cell H50.out 1 rfl 0 rfl
        go_upto_region 13 with (first | (go_at_call 40; (with_reducible refine (LM.copy H50.out 1 rfl HX.out hS8 hW4).mono ?_); rintro e w51 ⟨Ay, ky, vsy, rfl, hT, hL, hb⟩; have HT51 := Aside0.mk hT; have H51 := Aside0.mk hL; have HB51 := Aside0.mk hb; clear hT hL hb))
        clear qpx0
        have H52 := Aside0.mk (LM.newB H51.out #[.slice Ay x.length ky] 54 (by unfold BoxT; decide))
        have HT52 : Aside0 (T2 (w51.alloc (.cells #[.slice Ay x.length ky] 54)) wc.heap.size (.slice Ay x.length ky) vsy x) := ⟨HT51.out.fr (S := fun _ => False) (Fr.alloc _ _ _) (fun _ _ h => h)⟩
        have HB52 : Aside0 (Below wc.heap.size wc (w51.alloc (.cells #[.slice Ay x.length ky] 54))) := ⟨HB51.out.alloc HB51.out.size _⟩
        have HPY : Aside0 (w.heap.size ≤ w51.heap.size ∧ wc.heap.size ≤ w51.heap.size) := ⟨H51.out.below.size, HB51.out.size⟩
        have HNY : Aside0 (∀ q ∈ ([(pm, #[.slice A2 m2.length k2], 39), (px, #[.slice Ax x.length kx], 54), (bc, #[.int .i64 S, .int .i64 W, .int .i64 L], 26)] : List (Nat × Array Value × TypeId)), q.1 ≠ w51.heap.size) := ⟨fun q hq => Nat.ne_of_lt (Nat.lt_of_lt_of_le (LM.lt H50.out q hq) HB51.out.size)⟩
        clear HT51 H51 HB51
        generalize w51.heap.size = py at *
        generalize w51.alloc (.cells #[.slice Ay x.length ky] 54) = w52 at *
        have hmul : (kk : Int) * (L : Int) = ((kk * L : Nat) : Int) := (Int.natCast_mul kk L).symm
        have hkl : kk * L ≤ 8388608 := Nat.le_trans (Nat.mul_le_mul hk20 HC.out.l8) (by decide)
        have hkd : kk * L / L = kk := Nat.mul_div_cancel _ HC.out.l1
        have HKD := Aside0.mk hkd
        clear hkd
        have hwr64 : IntKind.i64.wrap ((kk : Int) * (L : Int)) = ((kk * L : Nat) : Int) := by rw [hmul]; exact wrap_small hkl
        generalize kk * L = p at *
        have qbc0 := LM.cell H52.out 3 rfl 0 rfl
        have qbc1 := LM.cell H52.out 3 rfl 1 rfl
        have qbc2 := LM.cell H52.out 3 rfl 2 rfl
        have qpy0 := LM.cell H52.out 0 rfl 0 rfl
        go_upto_region 14 with (first | (go_at_call 41; refine (LM.use HC.out H50.out HB52.out HT52.out HX.out (m := p) (by omega) (by rw [HKD.out]; exact hk20)).mono ?_; rintro e w53 ⟨rfl, hL, hbx⟩; have H53 := Aside0.mk (LM.addB hL (hbx py _ _ (H52.out.blk 0 rfl) (by unfold BoxT; decide)) (by unfold BoxT; decide) HPY.out.1 HNY.out); clear hL hbx))
        clear qbc0 qbc1 qbc2 qpy0 hwr64 hmul
        have HXL := Aside0.mk (show (useL S L x p).length = x.length from useL_length _ _ _ _)
        clear HX HT52 HB52 HNY HPY H52 H50
        have qpy0 := LM.cell H53.out 0 rfl 0 rfl
        have qpx0 := LM.cell H53.out 2 rfl 0 rfl
        have fqpx0 := LM.free H53.out 2 rfl 0
        go_upto_region 15 with (fail)
        clear qpy0 qpx0 fqpx0
        have H54 : Aside0 (LM w (w53.setCell ⟨px, 0, none⟩ (.slice Ay x.length ky)) g l [(py, #[.slice Ay x.length ky], 54), (pm, #[.slice A2 m2.length k2], 39), (px, #[.slice Ay x.length ky], 54), (bc, #[.int .i64 S, .int .i64 W, .int .i64 L], 26)] [.s2 (.slice Ay (useL S L x p).length ky) (useL S L x p), .s3 (.slice A2 m2.length k2) m2, .s2 (.slice Ax x.length kx) x]) := ⟨LM.put H53.out 2 rfl 0 (.slice Ay x.length ky)⟩
        generalize (w53.setCell ⟨px, 0, none⟩ (.slice Ay x.length ky)) = w54 at *
        clear H53
        generalize useL S L x p = xn at *
        have H55 : Aside0 (LM w w54 g l [(pm, #[.slice A2 m2.length k2], 39), (px, #[.slice Ay xn.length ky], 54), (bc, #[.int .i64 S, .int .i64 W, .int .i64 L], 26)] [.s3 (.slice A2 m2.length k2) m2, .s2 (.slice Ay xn.length ky) xn]) := ⟨by have h := LM.sub H54.out (Tx' := [.s3 (.slice A2 m2.length k2) m2, .s2 (.slice Ay xn.length ky) xn]) (List.sublist_cons_self _ _) (by simp); rw [HXL.out]; rw [HXL.out] at h; exact h⟩
        clear H54 HXL
        have qbc0 := LM.cell H55.out 2 rfl 0 rfl
        have qbc1 := LM.cell H55.out 2 rfl 1 rfl
        have qbc2 := LM.cell H55.out 2 rfl 2 rfl
        have qpm0 := LM.cell H55.out 0 rfl 0 rfl
        go_upto_region 17 with (first | (go_at_call 26; (with_reducible refine (LM.rvalid HC.out H55.out 0 rfl HV2.out).mono ?_); rintro e w61 ⟨rfl, hL⟩; have H61 := Aside0.mk hL; clear hL; clear qbc0 qbc1 qbc2 qpm0; have rbc0 := LM.cell H61.out 2 rfl 0 rfl; have rbc1 := LM.cell H61.out 2 rfl 1 rfl; have rbc2 := LM.cell H61.out 2 rfl 2 rfl; have rpm0 := LM.cell H61.out 0 rfl 0 rfl; have rpx0 := LM.cell H61.out 1 rfl 0 rfl) | (go_at_call 42; (with_reducible refine (LM.describes HC.out H61.out 0 1 rfl rfl HV2.out HX2.out HD2.out).mono ?_); rintro e w62 ⟨rfl, hL⟩; have H62 := Aside0.mk hL; clear hL))
        clear rbc0 rbc1 rbc2 rpm0 rpx0
        go_upto_region 18 with (first | (go_at_call 28; (with_reducible refine (LM.line H62.out).mono ?_); rintro e w63 ⟨z, rfl, hz9, hL⟩; have H63 := Aside0.mk hL; clear hL))
        go_cut [87] from 70 to 87 (fun v87 wx => v87 = .bool false ∧ Aside0 (LM w wx g l [(pm, #[.slice A2 m2.length k2], 39), (px, #[.slice Ay xn.length ky], 54), (bc, #[.int .i64 S, .int .i64 W, .int .i64 L], 26)] [.s3 (.slice A2 m2.length k2) m2, .s2 (.slice Ay xn.length ky) xn]))
        case first =>
          by_cases hz : ageM S W m2 z < W
          · have HIT := Aside0.mk (known_hits HX2.out HC.out.l1 HD2.out hz)
            have hzl : (z : Int) * (L : Int) = ((z * L : Nat) : Int) := (Int.natCast_mul z L).symm
            have hkl : z * L ≤ 8388608 := Nat.le_trans (Nat.mul_le_mul hz9 HC.out.l8) (by decide)
            have hz9x := HIT
            clear hz9x
            have hwr64 : IntKind.i64.wrap ((z : Int) * (L : Int)) = ((z * L : Nat) : Int) := by rw [hzl]; exact wrap_small hkl
            have HZD := Aside0.mk (Nat.mul_div_cancel z HC.out.l1)
            have g5 : decide (((ageM S W m2 z : Nat) : Int) < (W : Int)) = true := decide_eq_true (by omega)
            have g6 : decide (ageM S W m2 z < W) = true := decide_eq_true hz
            have HAGE := Aside0.mk (fun w1 Tx Bx i A k (h : LM w w1 g l Bx Tx) (hi : Tx[i]? = some (.s3 (.slice A m2.length k) m2)) => LM.age HC.out h i hi HV2.out.fit z)
            generalize z * L = p at *
            generalize ageM S W m2 z = az at *
            have Hd := Aside0.mk (LM.drew H63.out)
            refine HeldTill.begin_ (S := fun (w' : World) => w'.cell? ⟨bc, 0, none⟩ = some (.int .i64 S) ∧ w'.cell? ⟨bc, 1, none⟩ = some (.int .i64 W) ∧ w'.cell? ⟨bc, 2, none⟩ = some (.int .i64 L) ∧ w'.cell? ⟨pm, 0, none⟩ = some (.slice A2 m2.length k2) ∧ w'.cell? ⟨px, 0, none⟩ = some (.slice Ay xn.length ky)) (F := fun _ => true) (by kernel_rfl) ?_
            have hSq0 : (fun (w' : World) => w'.cell? ⟨bc, 0, none⟩ = some (.int .i64 S) ∧ w'.cell? ⟨bc, 1, none⟩ = some (.int .i64 W) ∧ w'.cell? ⟨bc, 2, none⟩ = some (.int .i64 L) ∧ w'.cell? ⟨pm, 0, none⟩ = some (.slice A2 m2.length k2) ∧ w'.cell? ⟨px, 0, none⟩ = some (.slice Ay xn.length ky)) w63.drew := ⟨LM.cell Hd.out 2 rfl 0 rfl, LM.cell Hd.out 2 rfl 1 rfl, LM.cell Hd.out 2 rfl 2 rfl, LM.cell Hd.out 0 rfl 0 rfl, LM.cell Hd.out 1 rfl 0 rfl⟩
            refine HeldTill.take (i := 0) (n := 17) (v := ?_) rfl (by kernel_rfl) (by kernel_rfl) (by kernel_rfl) (by kernel_rfl) (fun _ _ _ h => h) (Or.inl ⟨by rfl, ?_⟩) hSq0 ?_
            rotate_left
            · intro w hSw; (try dsimp only at hSw); go_simp; (try with_reducible rfl)
            simp only [Act.put, List.setIfInBounds_toArray, List.set_cons_zero, List.set_cons_succ, List.getElem_toArray, List.getElem_cons_zero, List.getElem_cons_succ]
            refine HeldTill.take (i := 1) (n := 16) (v := ?_) rfl (by kernel_rfl) (by kernel_rfl) (by kernel_rfl) (by kernel_rfl) (fun _ _ _ h => h) (Or.inl ⟨by rfl, ?_⟩) hSq0 ?_
            rotate_left
            · intro w hSw; (try dsimp only at hSw); go_simp; (try with_reducible rfl)
            simp only [Act.put, List.setIfInBounds_toArray, List.set_cons_zero, List.set_cons_succ, List.getElem_toArray, List.getElem_cons_zero, List.getElem_cons_succ]
            refine HeldTill.take (i := 2) (n := 15) (v := ?_) rfl (by kernel_rfl) (by kernel_rfl) (by kernel_rfl) (by kernel_rfl) (fun _ _ _ h => h) (Or.inl ⟨by rfl, ?_⟩) hSq0 ?_
            rotate_left
            · intro w hSw; (try dsimp only at hSw); go_simp; (try with_reducible rfl)
            simp only [Act.put, List.setIfInBounds_toArray, List.set_cons_zero, List.set_cons_succ, List.getElem_toArray, List.getElem_cons_zero, List.getElem_cons_succ]
            refine HeldTill.take (i := 4) (n := 14) (v := ?_) rfl (by kernel_rfl) (by kernel_rfl) (by kernel_rfl) (by kernel_rfl) (fun _ _ _ h => h) (Or.inl ⟨by rfl, ?_⟩) hSq0 ?_
            rotate_left
            · intro w hSw; (try dsimp only at hSw); go_simp; (try with_reducible rfl)
            simp only [Act.put, List.setIfInBounds_toArray, List.set_cons_zero, List.set_cons_succ, List.getElem_toArray, List.getElem_cons_zero, List.getElem_cons_succ]
            refine HeldTill.take (i := 5) (n := 13) (v := ?_) rfl (by kernel_rfl) (by kernel_rfl) (by kernel_rfl) (by kernel_rfl) (fun _ _ _ h => h) (Or.inl ⟨by rfl, ?_⟩) hSq0 ?_
            rotate_left
            · intro w hSw; (try dsimp only at hSw); go_simp; (try with_reducible rfl)
            simp only [Act.put, List.setIfInBounds_toArray, List.set_cons_zero, List.set_cons_succ, List.getElem_toArray, List.getElem_cons_zero, List.getElem_cons_succ]
            refine HeldTill.next (j := 3) (n := 12) (by kernel_rfl) rfl ?_
            go_wp2_with (go_at_call 30; (with_reducible refine (HAGE.out _ _ _ 0 _ _ Hd.out rfl).mono ?_); rintro e w64 ⟨rfl, hL⟩; have H64 := Aside0.mk hL; clear hL)
            have hSq1 : (fun (w' : World) => w'.cell? ⟨bc, 0, none⟩ = some (.int .i64 S) ∧ w'.cell? ⟨bc, 1, none⟩ = some (.int .i64 W) ∧ w'.cell? ⟨bc, 2, none⟩ = some (.int .i64 L) ∧ w'.cell? ⟨pm, 0, none⟩ = some (.slice A2 m2.length k2) ∧ w'.cell? ⟨px, 0, none⟩ = some (.slice Ay xn.length ky)) _ := ⟨LM.cell H64.out 2 rfl 0 rfl, LM.cell H64.out 2 rfl 1 rfl, LM.cell H64.out 2 rfl 2 rfl, LM.cell H64.out 0 rfl 0 rfl, LM.cell H64.out 1 rfl 0 rfl⟩
            refine ⟨fun _ => hSq1, ?_⟩
            refine HeldTill.take (i := 6) (n := 11) (v := ?_) rfl (by kernel_rfl) (by kernel_rfl) (by kernel_rfl) (by kernel_rfl) (fun _ _ _ h => h) (Or.inl ⟨by rfl, ?_⟩) hSq1 ?_
            rotate_left
            · intro w hSw; (try dsimp only at hSw); go_simp; (try with_reducible rfl)
            simp only [Act.put, List.setIfInBounds_toArray, List.set_cons_zero, List.set_cons_succ, List.getElem_toArray, List.getElem_cons_zero, List.getElem_cons_succ]
            refine HeldTill.take (i := 7) (n := 10) (v := ?_) rfl (by kernel_rfl) (by kernel_rfl) (by kernel_rfl) (by kernel_rfl) (fun _ _ _ h => h) (Or.inl ⟨by rfl, ?_⟩) hSq1 ?_
            rotate_left
            · intro w hSw; (try dsimp only at hSw); go_simp; (try with_reducible rfl)
            simp only [Act.put, List.setIfInBounds_toArray, List.set_cons_zero, List.set_cons_succ, List.getElem_toArray, List.getElem_cons_zero, List.getElem_cons_succ]
            refine HeldTill.take (i := 8) (n := 9) (v := ?_) rfl (by kernel_rfl) (by kernel_rfl) (by kernel_rfl) (by kernel_rfl) (fun _ _ _ h => h) (Or.inl ⟨by rfl, ?_⟩) hSq1 ?_
            rotate_left
            · intro w hSw; (try dsimp only at hSw); go_simp; (try with_reducible rfl)
            simp only [Act.put, List.setIfInBounds_toArray, List.set_cons_zero, List.set_cons_succ, List.getElem_toArray, List.getElem_cons_zero, List.getElem_cons_succ]
            refine HeldTill.take (i := 9) (n := 8) (v := ?_) rfl (by kernel_rfl) (by kernel_rfl) (by kernel_rfl) (by kernel_rfl) (fun _ _ _ h => h) (Or.inl ⟨by rfl, ?_⟩) hSq1 ?_
            rotate_left
            · intro w hSw; (try dsimp only at hSw); go_simp; (try with_reducible rfl)
            simp only [Act.put, List.setIfInBounds_toArray, List.set_cons_zero, List.set_cons_succ, List.getElem_toArray, List.getElem_cons_zero, List.getElem_cons_succ]
            refine HeldTill.take (i := 11) (n := 7) (v := ?_) rfl (by kernel_rfl) (by kernel_rfl) (by kernel_rfl) (by kernel_rfl) (fun _ _ _ h => h) (Or.inl ⟨by rfl, ?_⟩) hSq1 ?_
            rotate_left
            · intro w hSw; (try dsimp only at hSw); go_simp; (try with_reducible rfl)
            simp only [Act.put, List.setIfInBounds_toArray, List.set_cons_zero, List.set_cons_succ, List.getElem_toArray, List.getElem_cons_zero, List.getElem_cons_succ]
            refine HeldTill.take (i := 12) (n := 6) (v := ?_) rfl (by kernel_rfl) (by kernel_rfl) (by kernel_rfl) (by kernel_rfl) (fun _ _ _ h => h) (Or.inl ⟨by rfl, ?_⟩) hSq1 ?_
            rotate_left
            · intro w hSw; (try dsimp only at hSw); go_simp; (try with_reducible rfl)
            simp only [Act.put, List.setIfInBounds_toArray, List.set_cons_zero, List.set_cons_succ, List.getElem_toArray, List.getElem_cons_zero, List.getElem_cons_succ]
            refine HeldTill.take (i := 13) (n := 5) (v := ?_) rfl (by kernel_rfl) (by kernel_rfl) (by kernel_rfl) (by kernel_rfl) (fun _ _ _ h => h) (Or.inl ⟨by rfl, ?_⟩) hSq1 ?_
            rotate_left
            · intro w hSw; (try dsimp only at hSw); go_simp; (try with_reducible rfl)
            simp only [Act.put, List.setIfInBounds_toArray, List.set_cons_zero, List.set_cons_succ, List.getElem_toArray, List.getElem_cons_zero, List.getElem_cons_succ]
            refine HeldTill.take (i := 14) (n := 4) (v := ?_) rfl (by kernel_rfl) (by kernel_rfl) (by kernel_rfl) (by kernel_rfl) (fun _ _ _ h => h) (Or.inl ⟨by rfl, ?_⟩) hSq1 ?_
            rotate_left
            · intro w hSw; (try dsimp only at hSw); go_simp; (try with_reducible rfl)
            simp only [Act.put, List.setIfInBounds_toArray, List.set_cons_zero, List.set_cons_succ, List.getElem_toArray, List.getElem_cons_zero, List.getElem_cons_succ]
            refine HeldTill.next (j := 10) (n := 3) (by kernel_rfl) rfl ?_
            go_wp2_with (go_at_call 40; (with_reducible refine (LM.copy H64.out 1 rfl HX2.out hS8 hW4).mono ?_); rintro e w65 ⟨Az, kz, vsz, rfl, hT, hL, hb⟩; have HTz := Aside0.mk hT; have H65 := Aside0.mk hL; have HBz := Aside0.mk hb; clear hT hL hb)
            have hSq2 : (fun (w' : World) => w'.cell? ⟨bc, 0, none⟩ = some (.int .i64 S) ∧ w'.cell? ⟨bc, 1, none⟩ = some (.int .i64 W) ∧ w'.cell? ⟨bc, 2, none⟩ = some (.int .i64 L) ∧ w'.cell? ⟨pm, 0, none⟩ = some (.slice A2 m2.length k2) ∧ w'.cell? ⟨px, 0, none⟩ = some (.slice Ay xn.length ky)) _ := ⟨LM.cell H65.out 2 rfl 0 rfl, LM.cell H65.out 2 rfl 1 rfl, LM.cell H65.out 2 rfl 2 rfl, LM.cell H65.out 0 rfl 0 rfl, LM.cell H65.out 1 rfl 0 rfl⟩
            refine ⟨fun _ => hSq2, ?_⟩
            refine HeldTill.next (j := 15) (n := 2) (by kernel_rfl) rfl ?_
            go_wp2_with (go_at_call 41; refine (LM.use HC.out H64.out HBz.out HTz.out HX2.out (m := p) (by omega) (by rw [HZD.out]; exact hz9)).mono ?_; rintro e w66 ⟨he, hL, _⟩; rw [HIT.out] at he; subst he; have H66 := Aside0.mk hL; clear hL)
            have hSq3 : (fun (w' : World) => w'.cell? ⟨bc, 0, none⟩ = some (.int .i64 S) ∧ w'.cell? ⟨bc, 1, none⟩ = some (.int .i64 W) ∧ w'.cell? ⟨bc, 2, none⟩ = some (.int .i64 L) ∧ w'.cell? ⟨pm, 0, none⟩ = some (.slice A2 m2.length k2) ∧ w'.cell? ⟨px, 0, none⟩ = some (.slice Ay xn.length ky)) _ := ⟨LM.cell H66.out 2 rfl 0 rfl, LM.cell H66.out 2 rfl 1 rfl, LM.cell H66.out 2 rfl 2 rfl, LM.cell H66.out 0 rfl 0 rfl, LM.cell H66.out 1 rfl 0 rfl⟩
            refine ⟨fun _ => hSq3, ?_⟩
            refine HeldTill.take (i := 16) (n := 1) (v := ?_) rfl (by kernel_rfl) (by kernel_rfl) (by kernel_rfl) (by kernel_rfl) (fun _ _ _ h => h) (Or.inl ⟨by rfl, ?_⟩) hSq3 ?_
            rotate_left
            · intro w hSw; (try dsimp only at hSw); go_simp; (try with_reducible rfl)
            simp only [Act.put, List.setIfInBounds_toArray, List.set_cons_zero, List.set_cons_succ, List.getElem_toArray, List.getElem_cons_zero, List.getElem_cons_succ]
            refine HeldTill.take (i := 17) (n := 0) (v := ?_) rfl (by kernel_rfl) (by kernel_rfl) (by kernel_rfl) (by kernel_rfl) (fun _ _ _ h => h) (Or.inl ⟨by rfl, ?_⟩) hSq3 ?_
            rotate_left
            · intro w hSw; (try dsimp only at hSw); go_simp; (try with_reducible rfl)
            simp only [Act.put, List.setIfInBounds_toArray, List.set_cons_zero, List.set_cons_succ, List.getElem_toArray, List.getElem_cons_zero, List.getElem_cons_succ]
            refine ⟨by kernel_rfl, ?_⟩
            go_wp2_with fail
            go_meet
            case rel => exact ⟨rfl, ⟨LM.drop H66.out (by simp +contextual)⟩⟩
          · have g5 : decide (((ageM S W m2 z : Nat) : Int) < (W : Int)) = false := decide_eq_false (by omega)
            have g6 : decide (ageM S W m2 z < W) = false := decide_eq_false hz
            have HAGE := Aside0.mk (fun w1 Tx Bx i A k (h : LM w w1 g l Bx Tx) (hi : Tx[i]? = some (.s3 (.slice A m2.length k) m2)) => LM.age HC.out h i hi HV2.out.fit z)
            generalize ageM S W m2 z = az at *
            have Hd := Aside0.mk (LM.drew H63.out)
            refine HeldTill.begin_ (S := fun (w' : World) => w'.cell? ⟨bc, 0, none⟩ = some (.int .i64 S) ∧ w'.cell? ⟨bc, 1, none⟩ = some (.int .i64 W) ∧ w'.cell? ⟨bc, 2, none⟩ = some (.int .i64 L) ∧ w'.cell? ⟨pm, 0, none⟩ = some (.slice A2 m2.length k2) ∧ w'.cell? ⟨px, 0, none⟩ = some (.slice Ay xn.length ky)) (F := fun _ => true) (by kernel_rfl) ?_
            have hSq0 : (fun (w' : World) => w'.cell? ⟨bc, 0, none⟩ = some (.int .i64 S) ∧ w'.cell? ⟨bc, 1, none⟩ = some (.int .i64 W) ∧ w'.cell? ⟨bc, 2, none⟩ = some (.int .i64 L) ∧ w'.cell? ⟨pm, 0, none⟩ = some (.slice A2 m2.length k2) ∧ w'.cell? ⟨px, 0, none⟩ = some (.slice Ay xn.length ky)) w63.drew := ⟨LM.cell Hd.out 2 rfl 0 rfl, LM.cell Hd.out 2 rfl 1 rfl, LM.cell Hd.out 2 rfl 2 rfl, LM.cell Hd.out 0 rfl 0 rfl, LM.cell Hd.out 1 rfl 0 rfl⟩
            refine HeldTill.take (i := 0) (n := 17) (v := ?_) rfl (by kernel_rfl) (by kernel_rfl) (by kernel_rfl) (by kernel_rfl) (fun _ _ _ h => h) (Or.inl ⟨by rfl, ?_⟩) hSq0 ?_
            rotate_left
            · intro w hSw; (try dsimp only at hSw); go_simp; (try with_reducible rfl)
            simp only [Act.put, List.setIfInBounds_toArray, List.set_cons_zero, List.set_cons_succ, List.getElem_toArray, List.getElem_cons_zero, List.getElem_cons_succ]
            refine HeldTill.take (i := 1) (n := 16) (v := ?_) rfl (by kernel_rfl) (by kernel_rfl) (by kernel_rfl) (by kernel_rfl) (fun _ _ _ h => h) (Or.inl ⟨by rfl, ?_⟩) hSq0 ?_
            rotate_left
            · intro w hSw; (try dsimp only at hSw); go_simp; (try with_reducible rfl)
            simp only [Act.put, List.setIfInBounds_toArray, List.set_cons_zero, List.set_cons_succ, List.getElem_toArray, List.getElem_cons_zero, List.getElem_cons_succ]
            refine HeldTill.take (i := 2) (n := 15) (v := ?_) rfl (by kernel_rfl) (by kernel_rfl) (by kernel_rfl) (by kernel_rfl) (fun _ _ _ h => h) (Or.inl ⟨by rfl, ?_⟩) hSq0 ?_
            rotate_left
            · intro w hSw; (try dsimp only at hSw); go_simp; (try with_reducible rfl)
            simp only [Act.put, List.setIfInBounds_toArray, List.set_cons_zero, List.set_cons_succ, List.getElem_toArray, List.getElem_cons_zero, List.getElem_cons_succ]
            refine HeldTill.take (i := 4) (n := 14) (v := ?_) rfl (by kernel_rfl) (by kernel_rfl) (by kernel_rfl) (by kernel_rfl) (fun _ _ _ h => h) (Or.inl ⟨by rfl, ?_⟩) hSq0 ?_
            rotate_left
            · intro w hSw; (try dsimp only at hSw); go_simp; (try with_reducible rfl)
            simp only [Act.put, List.setIfInBounds_toArray, List.set_cons_zero, List.set_cons_succ, List.getElem_toArray, List.getElem_cons_zero, List.getElem_cons_succ]
            refine HeldTill.take (i := 5) (n := 13) (v := ?_) rfl (by kernel_rfl) (by kernel_rfl) (by kernel_rfl) (by kernel_rfl) (fun _ _ _ h => h) (Or.inl ⟨by rfl, ?_⟩) hSq0 ?_
            rotate_left
            · intro w hSw; (try dsimp only at hSw); go_simp; (try with_reducible rfl)
            simp only [Act.put, List.setIfInBounds_toArray, List.set_cons_zero, List.set_cons_succ, List.getElem_toArray, List.getElem_cons_zero, List.getElem_cons_succ]
            refine HeldTill.next (j := 3) (n := 12) (by kernel_rfl) rfl ?_
            go_wp2_with (go_at_call 30; (with_reducible refine (HAGE.out _ _ _ 0 _ _ Hd.out rfl).mono ?_); rintro e w67 ⟨rfl, hL⟩; have H67 := Aside0.mk hL; clear hL)
            have hSq1 : (fun (w' : World) => w'.cell? ⟨bc, 0, none⟩ = some (.int .i64 S) ∧ w'.cell? ⟨bc, 1, none⟩ = some (.int .i64 W) ∧ w'.cell? ⟨bc, 2, none⟩ = some (.int .i64 L) ∧ w'.cell? ⟨pm, 0, none⟩ = some (.slice A2 m2.length k2) ∧ w'.cell? ⟨px, 0, none⟩ = some (.slice Ay xn.length ky)) _ := ⟨LM.cell H67.out 2 rfl 0 rfl, LM.cell H67.out 2 rfl 1 rfl, LM.cell H67.out 2 rfl 2 rfl, LM.cell H67.out 0 rfl 0 rfl, LM.cell H67.out 1 rfl 0 rfl⟩
            refine ⟨fun _ => hSq1, ?_⟩
            refine HeldTill.take (i := 6) (n := 11) (v := ?_) rfl (by kernel_rfl) (by kernel_rfl) (by kernel_rfl) (by kernel_rfl) (fun _ _ _ h => h) (Or.inl ⟨by rfl, ?_⟩) hSq1 ?_
            rotate_left
            · intro w hSw; (try dsimp only at hSw); go_simp; (try with_reducible rfl)
            simp only [Act.put, List.setIfInBounds_toArray, List.set_cons_zero, List.set_cons_succ, List.getElem_toArray, List.getElem_cons_zero, List.getElem_cons_succ]
            refine HeldTill.take (i := 7) (n := 10) (v := ?_) rfl (by kernel_rfl) (by kernel_rfl) (by kernel_rfl) (by kernel_rfl) (fun _ _ _ h => h) (Or.inl ⟨by rfl, ?_⟩) hSq1 ?_
            rotate_left
            · intro w hSw; (try dsimp only at hSw); go_simp; (try with_reducible rfl)
            simp only [Act.put, List.setIfInBounds_toArray, List.set_cons_zero, List.set_cons_succ, List.getElem_toArray, List.getElem_cons_zero, List.getElem_cons_succ]
            refine HeldTill.take (i := 8) (n := 9) (v := undef) rfl (by kernel_rfl) (by kernel_rfl) (by kernel_rfl) (by kernel_rfl) (fun _ _ _ h => h) (Or.inr ⟨by rfl, rfl⟩) hSq1 ?_
            simp only [Act.put, List.setIfInBounds_toArray, List.set_cons_zero, List.set_cons_succ, List.getElem_toArray, List.getElem_cons_zero, List.getElem_cons_succ]
            refine HeldTill.take (i := 9) (n := 8) (v := undef) rfl (by kernel_rfl) (by kernel_rfl) (by kernel_rfl) (by kernel_rfl) (fun _ _ _ h => h) (Or.inr ⟨by rfl, rfl⟩) hSq1 ?_
            simp only [Act.put, List.setIfInBounds_toArray, List.set_cons_zero, List.set_cons_succ, List.getElem_toArray, List.getElem_cons_zero, List.getElem_cons_succ]
            refine HeldTill.take (i := 10) (n := 7) (v := undef) rfl (by kernel_rfl) (by kernel_rfl) (by kernel_rfl) (by kernel_rfl) (fun _ _ _ h => h) (Or.inr ⟨by rfl, rfl⟩) hSq1 ?_
            simp only [Act.put, List.setIfInBounds_toArray, List.set_cons_zero, List.set_cons_succ, List.getElem_toArray, List.getElem_cons_zero, List.getElem_cons_succ]
            refine HeldTill.take (i := 11) (n := 6) (v := undef) rfl (by kernel_rfl) (by kernel_rfl) (by kernel_rfl) (by kernel_rfl) (fun _ _ _ h => h) (Or.inr ⟨by rfl, rfl⟩) hSq1 ?_
            simp only [Act.put, List.setIfInBounds_toArray, List.set_cons_zero, List.set_cons_succ, List.getElem_toArray, List.getElem_cons_zero, List.getElem_cons_succ]
            refine HeldTill.take (i := 12) (n := 5) (v := undef) rfl (by kernel_rfl) (by kernel_rfl) (by kernel_rfl) (by kernel_rfl) (fun _ _ _ h => h) (Or.inr ⟨by rfl, rfl⟩) hSq1 ?_
            simp only [Act.put, List.setIfInBounds_toArray, List.set_cons_zero, List.set_cons_succ, List.getElem_toArray, List.getElem_cons_zero, List.getElem_cons_succ]
            refine HeldTill.take (i := 13) (n := 4) (v := undef) rfl (by kernel_rfl) (by kernel_rfl) (by kernel_rfl) (by kernel_rfl) (fun _ _ _ h => h) (Or.inr ⟨by rfl, rfl⟩) hSq1 ?_
            simp only [Act.put, List.setIfInBounds_toArray, List.set_cons_zero, List.set_cons_succ, List.getElem_toArray, List.getElem_cons_zero, List.getElem_cons_succ]
            refine HeldTill.take (i := 14) (n := 3) (v := undef) rfl (by kernel_rfl) (by kernel_rfl) (by kernel_rfl) (by kernel_rfl) (fun _ _ _ h => h) (Or.inr ⟨by rfl, rfl⟩) hSq1 ?_
            simp only [Act.put, List.setIfInBounds_toArray, List.set_cons_zero, List.set_cons_succ, List.getElem_toArray, List.getElem_cons_zero, List.getElem_cons_succ]
            refine HeldTill.take (i := 15) (n := 2) (v := undef) rfl (by kernel_rfl) (by kernel_rfl) (by kernel_rfl) (by kernel_rfl) (fun _ _ _ h => h) (Or.inr ⟨by rfl, rfl⟩) hSq1 ?_
            simp only [Act.put, List.setIfInBounds_toArray, List.set_cons_zero, List.set_cons_succ, List.getElem_toArray, List.getElem_cons_zero, List.getElem_cons_succ]
            refine HeldTill.take (i := 16) (n := 1) (v := undef) rfl (by kernel_rfl) (by kernel_rfl) (by kernel_rfl) (by kernel_rfl) (fun _ _ _ h => h) (Or.inr ⟨by rfl, rfl⟩) hSq1 ?_
            simp only [Act.put, List.setIfInBounds_toArray, List.set_cons_zero, List.set_cons_succ, List.getElem_toArray, List.getElem_cons_zero, List.getElem_cons_succ]
            refine HeldTill.take (i := 17) (n := 0) (v := ?_) rfl (by kernel_rfl) (by kernel_rfl) (by kernel_rfl) (by kernel_rfl) (fun _ _ _ h => h) (Or.inl ⟨by rfl, ?_⟩) hSq1 ?_
            rotate_left
            · intro w hSw; (try dsimp only at hSw); go_simp; (try with_reducible rfl)
            simp only [Act.put, List.setIfInBounds_toArray, List.set_cons_zero, List.set_cons_succ, List.getElem_toArray, List.getElem_cons_zero, List.getElem_cons_succ]
            refine ⟨by kernel_rfl, ?_⟩
            go_wp2_with fail
            go_meet
            case rel => exact ⟨rfl, ⟨H67.out⟩⟩
        case rest =>
          obtain ⟨rfl, H80⟩ := hcut
          clear H63
          go_upto_if 90 with (first | (go_at_call 18; (with_reducible refine (LM.next H80.out 4 (by decide)).mono ?_); rintro e w81 ⟨r4, rfl, hj1, hj2, hL⟩; have H81 := Aside0.mk hL; clear hL hj1 hj2))
          by_cases hr4 : r4 = 0
          · subst hr4
            go_upto_region 21 with (fail)
            have Hd := Aside0.mk (LM.drew H81.out)
            refine HeldTill.begin_ (S := fun (w' : World) => w'.cell? ⟨bc, 0, none⟩ = some (.int .i64 S) ∧ w'.cell? ⟨bc, 1, none⟩ = some (.int .i64 W) ∧ w'.cell? ⟨bc, 2, none⟩ = some (.int .i64 L) ∧ w'.cell? ⟨pm, 0, none⟩ = some (.slice A2 m2.length k2)) (F := fun j => j != 6) (by kernel_rfl) ?_
            have hSq0 : (fun (w' : World) => w'.cell? ⟨bc, 0, none⟩ = some (.int .i64 S) ∧ w'.cell? ⟨bc, 1, none⟩ = some (.int .i64 W) ∧ w'.cell? ⟨bc, 2, none⟩ = some (.int .i64 L) ∧ w'.cell? ⟨pm, 0, none⟩ = some (.slice A2 m2.length k2)) w81.drew := ⟨LM.cell Hd.out 2 rfl 0 rfl, LM.cell Hd.out 2 rfl 1 rfl, LM.cell Hd.out 2 rfl 2 rfl, LM.cell Hd.out 0 rfl 0 rfl⟩
            refine HeldTill.take (i := 0) (n := 6) (v := ?_) rfl (by kernel_rfl) (by kernel_rfl) (by kernel_rfl) (by kernel_rfl) (fun _ _ _ h => h) (Or.inl ⟨by rfl, ?_⟩) hSq0 ?_
            rotate_left
            · intro w hSw; (try dsimp only at hSw); go_simp; (try with_reducible rfl)
            simp only [Act.put, List.setIfInBounds_toArray, List.set_cons_zero, List.set_cons_succ, List.getElem_toArray, List.getElem_cons_zero, List.getElem_cons_succ]
            refine HeldTill.take (i := 1) (n := 5) (v := ?_) rfl (by kernel_rfl) (by kernel_rfl) (by kernel_rfl) (by kernel_rfl) (fun _ _ _ h => h) (Or.inl ⟨by rfl, ?_⟩) hSq0 ?_
            rotate_left
            · intro w hSw; (try dsimp only at hSw); go_simp; (try with_reducible rfl)
            simp only [Act.put, List.setIfInBounds_toArray, List.set_cons_zero, List.set_cons_succ, List.getElem_toArray, List.getElem_cons_zero, List.getElem_cons_succ]
            refine HeldTill.take (i := 2) (n := 4) (v := ?_) rfl (by kernel_rfl) (by kernel_rfl) (by kernel_rfl) (by kernel_rfl) (fun _ _ _ h => h) (Or.inl ⟨by rfl, ?_⟩) hSq0 ?_
            rotate_left
            · intro w hSw; (try dsimp only at hSw); go_simp; (try with_reducible rfl)
            simp only [Act.put, List.setIfInBounds_toArray, List.set_cons_zero, List.set_cons_succ, List.getElem_toArray, List.getElem_cons_zero, List.getElem_cons_succ]
            refine HeldTill.take (i := 3) (n := 3) (v := ?_) rfl (by kernel_rfl) (by kernel_rfl) (by kernel_rfl) (by kernel_rfl) (fun _ _ _ h => h) (Or.inl ⟨by rfl, ?_⟩) hSq0 ?_
            rotate_left
            · intro w hSw; (try dsimp only at hSw); go_simp; (try with_reducible rfl)
            simp only [Act.put, List.setIfInBounds_toArray, List.set_cons_zero, List.set_cons_succ, List.getElem_toArray, List.getElem_cons_zero, List.getElem_cons_succ]
            refine HeldTill.next (j := 4) (n := 2) (by kernel_rfl) rfl ?_
            go_wp2_with (go_at_call 22; (with_reducible refine (LM.must HC.out Hd.out).mono ?_); rintro e w82 ⟨A82, k82, Xm, rfl, hV, hL⟩; have HVXm := Aside0.mk hV; have H82 := Aside0.mk hL; clear hV hL)
            have hSq1 : (fun (w' : World) => w'.cell? ⟨bc, 0, none⟩ = some (.int .i64 S) ∧ w'.cell? ⟨bc, 1, none⟩ = some (.int .i64 W) ∧ w'.cell? ⟨bc, 2, none⟩ = some (.int .i64 L) ∧ w'.cell? ⟨pm, 0, none⟩ = some (.slice A2 m2.length k2)) _ := ⟨LM.cell H82.out 2 rfl 0 rfl, LM.cell H82.out 2 rfl 1 rfl, LM.cell H82.out 2 rfl 2 rfl, LM.cell H82.out 0 rfl 0 rfl⟩
            refine ⟨fun _ => hSq1, ?_⟩
            refine HeldTill.next (j := 5) (n := 1) (by kernel_rfl) rfl ?_
            go_wp2_with (go_at_call 34; (with_reducible refine (LM.join HC.out H82.out 1 0 rfl rfl HV2.out.fit HVXm.out.fit).mono ?_); rintro e w83 ⟨A83, k83, rfl, hL⟩; have H83 := Aside0.mk hL; clear hL)
            have hSq2 : (fun (w' : World) => w'.cell? ⟨bc, 0, none⟩ = some (.int .i64 S) ∧ w'.cell? ⟨bc, 1, none⟩ = some (.int .i64 W) ∧ w'.cell? ⟨bc, 2, none⟩ = some (.int .i64 L) ∧ w'.cell? ⟨pm, 0, none⟩ = some (.slice A2 m2.length k2)) _ := ⟨LM.cell H83.out 2 rfl 0 rfl, LM.cell H83.out 2 rfl 1 rfl, LM.cell H83.out 2 rfl 2 rfl, LM.cell H83.out 0 rfl 0 rfl⟩
            refine ⟨fun _ => hSq2, ?_⟩
            refine HeldTill.next (j := 6) (n := 0) (by kernel_rfl) rfl ?_
            have qz := LM.cell H83.out 0 rfl 0 rfl
            have qzf := LM.free H83.out 0 rfl 0
            go_wp2
            first | refine ⟨fun h => absurd h (by decide), (by kernel_rfl), ?_⟩ | refine ⟨(by kernel_rfl), ?_⟩
            have HE9 := Aside0.mk (And.intro (HV2.out.join Xm) (And.intro (HD2.out.trans (le_join1 HV2.out HVXm.out)) (LM.drop (LM.put H83.out 0 rfl 0 (.slice A83 (joinM S W m2 Xm).length k83)) (Tx' := [.s3 (.slice A83 (joinM S W m2 Xm).length k83) (joinM S W m2 Xm), .s2 (.slice Ay xn.length ky) xn]) (by simp))))
            go_wp2
            go_roundw
            case rel => exact ⟨i + 1, by omega, by go_num, ⟨_, _, _, _, _, _, HE9.out.1, HX2.out, HE9.out.2.1, HE9.out.2.2⟩⟩
            case measure => simp [RowKit.intOf]; omega
          · have g1 : ((r4 : Int) == 0) = false := beq_eq_false_iff_ne.2 (by omega)
            have HE9 := Aside0.mk (And.intro HV2.out (And.intro HD2.out (LM.drop H81.out (Tx' := [.s3 (.slice A2 m2.length k2) m2, .s2 (.slice Ay xn.length ky) xn]) (by simp))))
            go_wp2
            go_roundw
            case rel => exact ⟨i + 1, by omega, by go_num, ⟨_, _, _, _, _, _, HE9.out.1, HX2.out, HE9.out.2.1, HE9.out.2.2⟩⟩
            case measure => simp [RowKit.intOf]; omega
    · obtain rfl : i = 12 := by omega
      obtain ⟨Am, km, m, Ax, kx, x, hV, hX, hD, hL⟩ := HE.out
      have HL := Aside0.mk hL
      clear hV hX hD hL HE
      go_wp2_with (first | (go_at_call 27; (with_reducible refine (LM.awake HL.out).mono ?_); rintro e w84 ⟨rfl, hL⟩; have H84 := Aside0.mk hL; clear hL))
      go_ret
      exact ⟨rfl, LM.below H84.out⟩
end Go.Proofs.Ytkgocbmnjlfkoaa.M
end
section
namespace Go.Proofs.YtkgocbmnjlfkoaaW.PrintWords
open Go.ChangeShapes Go.WideShapes
theorem sized_ints {H : Type} {enc : TypeId × Value → H} {P : Program} {W : World} {base : Nat} {spare : Nat → Bool} {held : Bool} {t e : TypeId} {k : IntKind} {a : Option Addr} {len cap : Nat} {d : DataW H} {ps : List MemPlace} {ts : List TypeId} {ds : List (DataW H)} {j : Nat}
    (hsz : (DataW.weightsEach P ts ds).all (· ≤ reachBytes) = true) (ht : ts[j]? = some t) (hd : ds[j]? = some d) (hu : P.underlying t = some (.slice e)) (he : P.underlying e = some (.int k)) (hc : P.cellsOf e = 1) {B : Nat} (hB : P.bytesOf e = B)
    (h : DataW.Trod enc P W base spare held t (.slice a len cap) d ps) : len * B ≤ 140737488351232 := by
  obtain ⟨fuel, hf⟩ := h
  rcases open_ints hu he hc hf with ⟨hcs, _⟩ | ⟨x, l, c, zs, hcs, _, hl, _, hz, hx, _, _⟩
  · simp [Value.cells] at hcs
    obtain ⟨rfl, rfl, rfl⟩ := hcs
    simp
  · simp [Value.cells] at hcs
    obtain ⟨rfl, rfl, rfl⟩ := hcs
    obtain ⟨hx, _⟩ := Prod.mk.inj hx
    subst hx
    have z := sized_slice hsz ht hd hu
    rw [hB] at z
    have hl2 : len ≤ zs.length := by
      rw [hz]
      split
      · exact hl
      · exact Nat.le_refl _
    have h1 : (lits (H := H) k (zs.take len)).length + (lits (H := H) k (zs.drop len)).length = zs.length := by
      simp [lits]
      omega
    rw [h1] at z
    exact Nat.le_trans (Nat.mul_le_mul_right _ hl2) z
end Go.Proofs.YtkgocbmnjlfkoaaW.PrintWords
end
section
namespace Go.Proofs.Ytkgocbmnjlfkoaa.mustDescribes
open Go.ChangeShapes Go.WideShapes Go.ChangeAt Go.RowKit
open Go.ChangeMaps (open_string shut_string)
set_option linter.unusedVariables false
theorem own : ownKnob Try.prog.godebug = none := by kernel_rfl
theorem laidOut : laidOutB Try.prog = true := by kernel_rfl
def IsRow (k : IntKind) (w : World) (a : Option Addr) (len cap : Nat) (zs : List Int) : Prop :=
  (a = none ∧ len = 0 ∧ cap = 0 ∧ zs = []) ∨
  ∃ x, a = some x ∧ len ≤ cap ∧ cap ≤ maxLen ∧ zs.length = cap ∧ (∀ i, i < zs.length → w.cell? (x.add i) = some (.int k (zs.getD i 0))) ∧ ∀ n ∈ zs, (Lit.int k n).wf = true
theorem walk (a0 : Option Addr) (len0 cap0 : Nat) (z0 : List Int) (w : World) (w0 : IsRow .i64 w a0 len0 cap0 z0) (y0 : len0 * 8 ≤ 140737488351232) :
    Calls Try.prog 8 #[.slice a0 len0 cap0] w fun e w' => e = .returned (.bool true) ∧ Below w.heap.size w w' := by
  obtain ⟨l0, rfl, hr0, hm0, hw0, hc0⟩ := Go.Proofs.YtkgocbmnjlfkoaaW.PrintWords.ReadsInt.ofRowC w0
  exact M.mustDescribes_walk a0 cap0 l0 w (Go.Proofs.YtkgocbmnjlfkoaaW.PrintWords.Kd.C_of_reads (d := (0 : Int)) (h1 := fun _ => rfl) hr0) hc0 (by omega)
set_option maxRecDepth 100000 in
theorem lifted (os : Os) (started : os.Started) (H : Type) (enc : TypeId × Value → H) :
    ReturnsInHanded {} Try.checked os 8 .any (Rows.mustDescribesSpec.pre6 enc Try.prog Try.f8 Rows.mustDescribesRow.domain false) (Rows.mustDescribesSpec.post enc Try.prog Try.f8 false true false false) := by
  refine returnsInHanded_of_change_sized (C := Try.checked) own started (by kernel_rfl) Try.func8
    (ChangeSpec.witness6 (enc := enc) (C := Try.checked) false ⟨#[], #[.slice none 0 0], []⟩ 8 (by kernel_rfl) (by kernel_rfl) (by kernel_rfl) (by kernel_rfl)) ?_
  intro W base args ds gs before hval0 hW hcnd hsz0 _
  have hsz : (DataW.weightsEach Try.prog (Try.f8.params.toList ++ Rows.mustDescribesSpec.plain.varTypes Try.prog) (ds ++ gs)).all (· ≤ reachBytes) = true := hsz0
  have hval : ∀ (j : Nat) t v, Try.f8.params[j]? = some t → args[j]? = some v → Value.okWide Try.prog W .any base t v := hval0
  have hW' := hW
  obtain ⟨p, q, hA0, hV, rfl, hfz, hnd⟩ := hW
  have hA : DataW.TrodAll enc Try.prog W 0 (fun _ => true) true Try.f8.params.toList args.toList ds p := hA0
  rw [Try.params8] at hA hval hsz
  obtain ⟨v0, vs0, d0, ds0, p0, q0, hargs, rfl, rfl, h0, r0⟩ := trodAll_cons hA
  obtain ⟨rfl, rfl, rfl⟩ := trodAll_nil r0
  obtain rfl : args = #[v0] := by cases args; simp_all
  obtain ⟨rfl, rfl⟩ := trodVars_none hV
  obtain ⟨a0, len0, cap0, rfl⟩ := okWide_slice Try.underlying22 (hval 0 22 v0 rfl rfl)
  have k0 := h0
  have lt0 : ∀ x ∈ p0, x.block < W.heap.size := by obtain ⟨m, hm⟩ := k0; exact DataW.trod_lt m _ _ _ hm
  obtain ⟨z0, w0⟩ : ∃ zs, IsRow .i64 W a0 len0 cap0 zs := by
    obtain ⟨fuel, hf⟩ := h0
    rcases open_ints Try.underlying22 Try.underlying3 (by kernel_rfl) hf with ⟨hcs, _⟩ | ⟨x, l, c, zs, hcs, _, hl, hm, hz, _, hcell, hwz⟩
    · simp [Value.cells] at hcs
      obtain ⟨rfl, rfl, rfl⟩ := hcs
      exact ⟨[], .inl ⟨rfl, rfl, rfl, rfl⟩⟩
    · simp [Value.cells] at hcs
      obtain ⟨rfl, rfl, rfl⟩ := hcs
      exact ⟨zs, .inr ⟨_, rfl, hl, hm, by simpa using hz, hcell, hwz⟩⟩
  have y0 : len0 * 8 ≤ 140737488351232 := Go.Proofs.YtkgocbmnjlfkoaaW.PrintWords.sized_ints hsz (j := 0) (t := 22) rfl rfl Try.underlying22 Try.underlying3 (by kernel_rfl) (by kernel_rfl) h0
  clear hA0 hval0 hsz0 hsz
  refine (walk a0 len0 cap0 z0 W w0 y0).mono fun e W' ⟨he, bel⟩ => ?_
  subst he
  exact ⟨_, rfl, _, _, _, [], _, [], hW', trodAll_mk1 (shut_bool Try.underlying4 _), (trodAll_cons_mk (Below.trod laidOut (by kernel_rfl) (of_decide_eq_true (by kernel_rfl)) k0 bel lt0) trodAll_mk0), rfl, bel.frame _, fun h => by cases h⟩
theorem over : Rows.mustDescribesRow.holds Try.pinned (OpenSpec.ofChange Rows.mustDescribesSpec) :=
  OpenClaim.holds_of_wide 8 Try.f8 rfl rfl rfl rfl rfl rfl rfl ⟨rfl, rfl, rfl, rfl, rfl⟩ rfl rfl rfl rfl rfl (by kernel_rfl) Try.func8 (by kernel_rfl)
    (of_decide_eq_true (by kernel_rfl)) (by unfold Func.isWrapper; first | (rw [if_pos (by decide +kernel)]; kernel_rfl) | (rw [if_neg (by decide +kernel)]; exact ⟨rfl, rfl⟩))
    (fun os started H enc _ => lifted os started H enc)
theorem proved : Rows.MustDescribesSaid := over
#print axioms proved
end Go.Proofs.Ytkgocbmnjlfkoaa.mustDescribes
namespace Go.Proofs.Ytkgocbmnjlfkoaa
theorem mustDescribes_holds : Rows.MustDescribesSaid := mustDescribes.proved
end Go.Proofs.Ytkgocbmnjlfkoaa
end
