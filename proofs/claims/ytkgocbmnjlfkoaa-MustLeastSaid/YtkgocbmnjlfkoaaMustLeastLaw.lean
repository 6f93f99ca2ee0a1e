/- The Must law on joins as least upper bounds holds of the given program for every input. -/
import Derived.Test.YtkgocbmnjlfkoaaMustLeastPart3
import Derived.SizedLaws
import Derived.ChangeSlices
import Derived.Test.YtkgocbmnjlfkoaaRows
import Derived.WalkKit
import Derived.ProofKit
import Derived.OpenShut
import Derived.ShutString
import Derived.ChangeOld
import Derived.Below
section
namespace Go.Proofs.Ytkgocbmnjlfkoaa.M
open Go.RowKit Go.Proofs.Ytkgocbmnjlfkoaa.X Go.Proofs.YtkgocbmnjlfkoaaW.PrintWords Go.Proofs.YtkgocbmnjlfkoaaW.PrintLast Go.Proofs.YtkgocbmnjlfkoaaW.PrintMore
set_option linter.unusedVariables false
set_option linter.unusedSimpArgs false
set_option maxRecDepth 100000 in
set_option maxHeartbeats 8000000 in
theorem mustLeast_walk (A0 : Option Addr) (c0 : Nat) (l : List Int) (w : World) (hr : C1 w A0 l) (hc : l.length ≤ c0) (hl : l.length ≤ 17592186044416) :
    Calls Try.prog 7 #[.slice A0 l.length c0] w fun e w' => e = .returned (.bool true) ∧ Below w.heap.size w w' := by
  have hnew := Aside0.mk (new_calls A0 c0 l w hr hc hl)
  clear hr
  go_enter Try.func7, Try.ntmps7
  go_upto_region 2 with (first | (go_at_call 14; refine hnew.out.mono ?_; rintro e w1 ⟨g, rfl, hd1, hb1⟩; have H1 := Aside0.mk (LM.first hd1); clear hd1 hb1))
  go_upto_region 3 with (first | (go_at_call 15; (with_reducible refine (LM.cache H1.out).mono ?_); rintro e w2 ⟨S, W, L, rfl, hC, hL⟩; have HC := Aside0.mk hC; have H2 := Aside0.mk hL; clear hC hL))
  have H3 := Aside0.mk (LM.newB H2.out #[.int .i64 S, .int .i64 W, .int .i64 L] 26 (by unfold BoxT; decide))
  generalize w2.heap.size = bc at *
  generalize w2.alloc (.cells #[.int .i64 S, .int .i64 W, .int .i64 L] 26) = w3 at *
  have hW1 := HC.out.w1
  have hS8 := HC.out.s8
  have hW4 := HC.out.w4
  clear hnew
  go_cut [5, 6] from 13 to 18 (fun v5 v6 wx => ∃ pa pb Aa ka Ab kb Xa Xb, v5 = .pointer (some ⟨pa, 0, none⟩) ∧ v6 = .pointer (some ⟨pb, 0, none⟩) ∧ Aside0 (Val S W Xa ∧ Val S W Xb ∧ LM w wx g l [(pb, #[.slice Ab Xb.length kb], 39), (pa, #[.slice Aa Xa.length ka], 39), (bc, #[.int .i64 S, .int .i64 W, .int .i64 L], 26)] [.s3 (.slice Ab Xb.length kb) Xb, .s3 (.slice Aa Xa.length ka) Xa]))
  case first =>
    refine HeldTill.begin_ (S := fun (w' : World) => w'.cell? ⟨bc, 0, none⟩ = some (.int .i64 S) ∧ w'.cell? ⟨bc, 1, none⟩ = some (.int .i64 W) ∧ w'.cell? ⟨bc, 2, none⟩ = some (.int .i64 L)) (F := fun _ => true) (by kernel_rfl) ?_
    have H4 := Aside0.mk (LM.drew H3.out)
    generalize w3.drew = w4 at *
    have hSq : (fun (w' : World) => w'.cell? ⟨bc, 0, none⟩ = some (.int .i64 S) ∧ w'.cell? ⟨bc, 1, none⟩ = some (.int .i64 W) ∧ w'.cell? ⟨bc, 2, none⟩ = some (.int .i64 L)) w4 := ⟨LM.cell H4.out 0 rfl 0 rfl, LM.cell H4.out 0 rfl 1 rfl, LM.cell H4.out 0 rfl 2 rfl⟩
    refine HeldTill.take (i := 0) (n := 9) (v := ?_) rfl (by kernel_rfl) (by kernel_rfl) (by kernel_rfl) (by kernel_rfl) (fun _ _ _ h => h) (Or.inl ⟨by rfl, ?_⟩) hSq ?_
    rotate_left
    · intro w hSw; (try dsimp only at hSw); go_simp; (try with_reducible rfl)
    simp only [Act.put, List.setIfInBounds_toArray, List.set_cons_zero, List.set_cons_succ, List.getElem_toArray, List.getElem_cons_zero, List.getElem_cons_succ]
    refine HeldTill.take (i := 1) (n := 8) (v := ?_) rfl (by kernel_rfl) (by kernel_rfl) (by kernel_rfl) (by kernel_rfl) (fun _ _ _ h => h) (Or.inl ⟨by rfl, ?_⟩) hSq ?_
    rotate_left
    · intro w hSw; (try dsimp only at hSw); go_simp; (try with_reducible rfl)
    simp only [Act.put, List.setIfInBounds_toArray, List.set_cons_zero, List.set_cons_succ, List.getElem_toArray, List.getElem_cons_zero, List.getElem_cons_succ]
    refine HeldTill.take (i := 3) (n := 7) (v := ?_) rfl (by kernel_rfl) (by kernel_rfl) (by kernel_rfl) (by kernel_rfl) (fun _ _ _ h => h) (Or.inl ⟨by rfl, ?_⟩) hSq ?_
    rotate_left
    · intro w hSw; (try dsimp only at hSw); go_simp; (try with_reducible rfl)
    simp only [Act.put, List.setIfInBounds_toArray, List.set_cons_zero, List.set_cons_succ, List.getElem_toArray, List.getElem_cons_zero, List.getElem_cons_succ]
    refine HeldTill.take (i := 4) (n := 6) (v := ?_) rfl (by kernel_rfl) (by kernel_rfl) (by kernel_rfl) (by kernel_rfl) (fun _ _ _ h => h) (Or.inl ⟨by rfl, ?_⟩) hSq ?_
    rotate_left
    · intro w hSw; (try dsimp only at hSw); go_simp; (try with_reducible rfl)
    simp only [Act.put, List.setIfInBounds_toArray, List.set_cons_zero, List.set_cons_succ, List.getElem_toArray, List.getElem_cons_zero, List.getElem_cons_succ]
    refine HeldTill.br [2, 6, 7] (by kernel_rfl) (by simp) ?_
    refine BrAll.cons rfl ?_ (BrAll.cons rfl ?_ (BrAll.cons rfl ?_ (BrAll.nil)))
    · skip
      go_wp2_with (go_at_call 22; (with_reducible refine (LM.must HC.out H4.out).mono ?_); rintro e w5 ⟨A5, k5, Xa, rfl, hV, hL⟩; have HVXa := Aside0.mk hV; have H5 := Aside0.mk hL; clear hV hL)
      refine ⟨(by first | exact fun _ => ⟨LM.cell H5.out 0 rfl 0 rfl, LM.cell H5.out 0 rfl 1 rfl, LM.cell H5.out 0 rfl 2 rfl⟩ | exact ⟨LM.cell H5.out 0 rfl 0 rfl, LM.cell H5.out 0 rfl 1 rfl, LM.cell H5.out 0 rfl 2 rfl⟩), ?_⟩
      refine HeldTill.br [5, 6, 7] (by kernel_rfl) (by simp) ?_
      refine BrAll.cons rfl ?_ (BrAll.cons rfl ?_ (BrAll.cons rfl ?_ (BrAll.nil)))
      · skip
        go_wp2_with (go_at_call 22; (with_reducible refine (LM.must HC.out H5.out).mono ?_); rintro e w6 ⟨A6, k6, Xb, rfl, hV, hL⟩; have HVXb := Aside0.mk hV; have H6 := Aside0.mk hL; clear hV hL)
        refine ⟨(by first | exact fun _ => ⟨LM.cell H6.out 0 rfl 0 rfl, LM.cell H6.out 0 rfl 1 rfl, LM.cell H6.out 0 rfl 2 rfl⟩ | exact ⟨LM.cell H6.out 0 rfl 0 rfl, LM.cell H6.out 0 rfl 1 rfl, LM.cell H6.out 0 rfl 2 rfl⟩), ?_⟩
        refine HeldTill.br [6, 7] (by kernel_rfl) (by simp) ?_
        refine BrAll.cons rfl ?_ (BrAll.cons rfl ?_ (BrAll.nil))
        · skip
          go_wp2
          have H7 := Aside0.mk (LM.newB H6.out #[.slice none 0 0] 39 (by unfold BoxT; decide))
          generalize w6.heap.size = pa at *
          generalize w6.alloc (.cells #[.slice none 0 0] 39) = w7 at *
          refine ⟨(by first | exact fun _ => ⟨LM.cell H7.out 1 rfl 0 rfl, LM.cell H7.out 1 rfl 1 rfl, LM.cell H7.out 1 rfl 2 rfl⟩ | exact ⟨LM.cell H7.out 1 rfl 0 rfl, LM.cell H7.out 1 rfl 1 rfl, LM.cell H7.out 1 rfl 2 rfl⟩), ?_⟩
          refine HeldTill.next (j := 7) (n := 2) (by kernel_rfl) rfl ?_
          go_wp2
          have H8 := Aside0.mk (LM.newB H7.out #[.slice none 0 0] 39 (by unfold BoxT; decide))
          generalize w7.heap.size = pb at *
          generalize w7.alloc (.cells #[.slice none 0 0] 39) = w8 at *
          refine ⟨(by first | exact fun _ => ⟨LM.cell H8.out 2 rfl 0 rfl, LM.cell H8.out 2 rfl 1 rfl, LM.cell H8.out 2 rfl 2 rfl⟩ | exact ⟨LM.cell H8.out 2 rfl 0 rfl, LM.cell H8.out 2 rfl 1 rfl, LM.cell H8.out 2 rfl 2 rfl⟩), ?_⟩
          refine HeldTill.next (j := 8) (n := 1) (by kernel_rfl) rfl ?_
          have qc0 := LM.cell H8.out 1 rfl 0 rfl
          have qf0 := LM.free H8.out 1 rfl 0
          go_wp2
          have H9 : Aside0 (LM w (w8.setCell ⟨pa, 0, none⟩ (.slice A5 Xa.length k5)) g l [(pb, #[.slice none 0 0], 39), (pa, #[.slice A5 Xa.length k5], 39), (bc, #[.int .i64 S, .int .i64 W, .int .i64 L], 26)] [.s3 (.slice A6 Xb.length k6) Xb, .s3 (.slice A5 Xa.length k5) Xa]) := ⟨LM.put H8.out 1 rfl 0 (.slice A5 Xa.length k5)⟩
          generalize (w8.setCell ⟨pa, 0, none⟩ (.slice A5 Xa.length k5)) = w9 at *
          clear qc0 qf0
          refine ⟨(by first | exact fun _ => ⟨LM.cell H9.out 2 rfl 0 rfl, LM.cell H9.out 2 rfl 1 rfl, LM.cell H9.out 2 rfl 2 rfl⟩ | exact ⟨LM.cell H9.out 2 rfl 0 rfl, LM.cell H9.out 2 rfl 1 rfl, LM.cell H9.out 2 rfl 2 rfl⟩), ?_⟩
          refine HeldTill.next (j := 9) (n := 0) (by kernel_rfl) rfl ?_
          have qc0 := LM.cell H9.out 0 rfl 0 rfl
          have qf0 := LM.free H9.out 0 rfl 0
          go_wp2
          have H10 : Aside0 (LM w (w9.setCell ⟨pb, 0, none⟩ (.slice A6 Xb.length k6)) g l [(pb, #[.slice A6 Xb.length k6], 39), (pa, #[.slice A5 Xa.length k5], 39), (bc, #[.int .i64 S, .int .i64 W, .int .i64 L], 26)] [.s3 (.slice A6 Xb.length k6) Xb, .s3 (.slice A5 Xa.length k5) Xa]) := ⟨LM.put H9.out 0 rfl 0 (.slice A6 Xb.length k6)⟩
          generalize (w9.setCell ⟨pb, 0, none⟩ (.slice A6 Xb.length k6)) = w10 at *
          clear qc0 qf0
          refine ⟨(by first | exact fun _ => ⟨LM.cell H10.out 2 rfl 0 rfl, LM.cell H10.out 2 rfl 1 rfl, LM.cell H10.out 2 rfl 2 rfl⟩ | exact ⟨LM.cell H10.out 2 rfl 0 rfl, LM.cell H10.out 2 rfl 1 rfl, LM.cell H10.out 2 rfl 2 rfl⟩), ?_⟩
          refine ⟨by kernel_rfl, ?_⟩
          go_wp2_with fail
          go_meet
          case rel => exact ⟨_, _, _, _, _, _, _, _, rfl, rfl, ⟨HVXa.out, HVXb.out, H10.out⟩⟩
        · skip
          go_wp2
          have H11 := Aside0.mk (LM.newB H6.out #[.slice none 0 0] 39 (by unfold BoxT; decide))
          generalize w6.heap.size = pb at *
          generalize w6.alloc (.cells #[.slice none 0 0] 39) = w11 at *
          refine ⟨(by first | exact fun _ => ⟨LM.cell H11.out 1 rfl 0 rfl, LM.cell H11.out 1 rfl 1 rfl, LM.cell H11.out 1 rfl 2 rfl⟩ | exact ⟨LM.cell H11.out 1 rfl 0 rfl, LM.cell H11.out 1 rfl 1 rfl, LM.cell H11.out 1 rfl 2 rfl⟩), ?_⟩
          refine HeldTill.next (j := 6) (n := 2) (by kernel_rfl) rfl ?_
          go_wp2
          have H12 := Aside0.mk (LM.newB H11.out #[.slice none 0 0] 39 (by unfold BoxT; decide))
          generalize w11.heap.size = pa at *
          generalize w11.alloc (.cells #[.slice none 0 0] 39) = w12 at *
          refine ⟨(by first | exact fun _ => ⟨LM.cell H12.out 2 rfl 0 rfl, LM.cell H12.out 2 rfl 1 rfl, LM.cell H12.out 2 rfl 2 rfl⟩ | exact ⟨LM.cell H12.out 2 rfl 0 rfl, LM.cell H12.out 2 rfl 1 rfl, LM.cell H12.out 2 rfl 2 rfl⟩), ?_⟩
          refine HeldTill.next (j := 8) (n := 1) (by kernel_rfl) rfl ?_
          have qc0 := LM.cell H12.out 0 rfl 0 rfl
          have qf0 := LM.free H12.out 0 rfl 0
          go_wp2
          have H13 : Aside0 (LM w (w12.setCell ⟨pa, 0, none⟩ (.slice A5 Xa.length k5)) g l [(pa, #[.slice A5 Xa.length k5], 39), (pb, #[.slice none 0 0], 39), (bc, #[.int .i64 S, .int .i64 W, .int .i64 L], 26)] [.s3 (.slice A6 Xb.length k6) Xb, .s3 (.slice A5 Xa.length k5) Xa]) := ⟨LM.put H12.out 0 rfl 0 (.slice A5 Xa.length k5)⟩
          generalize (w12.setCell ⟨pa, 0, none⟩ (.slice A5 Xa.length k5)) = w13 at *
          clear qc0 qf0
          refine ⟨(by first | exact fun _ => ⟨LM.cell H13.out 2 rfl 0 rfl, LM.cell H13.out 2 rfl 1 rfl, LM.cell H13.out 2 rfl 2 rfl⟩ | exact ⟨LM.cell H13.out 2 rfl 0 rfl, LM.cell H13.out 2 rfl 1 rfl, LM.cell H13.out 2 rfl 2 rfl⟩), ?_⟩
          refine HeldTill.next (j := 9) (n := 0) (by kernel_rfl) rfl ?_
          have qc0 := LM.cell H13.out 1 rfl 0 rfl
          have qf0 := LM.free H13.out 1 rfl 0
          go_wp2
          have H14 : Aside0 (LM w (w13.setCell ⟨pb, 0, none⟩ (.slice A6 Xb.length k6)) g l [(pa, #[.slice A5 Xa.length k5], 39), (pb, #[.slice A6 Xb.length k6], 39), (bc, #[.int .i64 S, .int .i64 W, .int .i64 L], 26)] [.s3 (.slice A6 Xb.length k6) Xb, .s3 (.slice A5 Xa.length k5) Xa]) := ⟨LM.put H13.out 1 rfl 0 (.slice A6 Xb.length k6)⟩
          generalize (w13.setCell ⟨pb, 0, none⟩ (.slice A6 Xb.length k6)) = w14 at *
          clear qc0 qf0
          refine ⟨(by first | exact fun _ => ⟨LM.cell H14.out 2 rfl 0 rfl, LM.cell H14.out 2 rfl 1 rfl, LM.cell H14.out 2 rfl 2 rfl⟩ | exact ⟨LM.cell H14.out 2 rfl 0 rfl, LM.cell H14.out 2 rfl 1 rfl, LM.cell H14.out 2 rfl 2 rfl⟩), ?_⟩
          refine ⟨by kernel_rfl, ?_⟩
          go_wp2_with fail
          go_meet
          case rel => exact ⟨_, _, _, _, _, _, _, _, rfl, rfl, ⟨HVXa.out, HVXb.out, LM.swap H14.out⟩⟩
      · skip
        go_wp2
        have H15 := Aside0.mk (LM.newB H5.out #[.slice none 0 0] 39 (by unfold BoxT; decide))
        generalize w5.heap.size = pa at *
        generalize w5.alloc (.cells #[.slice none 0 0] 39) = w15 at *
        refine ⟨(by first | exact fun _ => ⟨LM.cell H15.out 1 rfl 0 rfl, LM.cell H15.out 1 rfl 1 rfl, LM.cell H15.out 1 rfl 2 rfl⟩ | exact ⟨LM.cell H15.out 1 rfl 0 rfl, LM.cell H15.out 1 rfl 1 rfl, LM.cell H15.out 1 rfl 2 rfl⟩), ?_⟩
        refine HeldTill.br [5, 7] (by kernel_rfl) (by simp) ?_
        refine BrAll.cons rfl ?_ (BrAll.cons rfl ?_ (BrAll.nil))
        · skip
          go_wp2_with (go_at_call 22; (with_reducible refine (LM.must HC.out H15.out).mono ?_); rintro e w16 ⟨A16, k16, Xb, rfl, hV, hL⟩; have HVXb := Aside0.mk hV; have H16 := Aside0.mk hL; clear hV hL)
          refine ⟨(by first | exact fun _ => ⟨LM.cell H16.out 1 rfl 0 rfl, LM.cell H16.out 1 rfl 1 rfl, LM.cell H16.out 1 rfl 2 rfl⟩ | exact ⟨LM.cell H16.out 1 rfl 0 rfl, LM.cell H16.out 1 rfl 1 rfl, LM.cell H16.out 1 rfl 2 rfl⟩), ?_⟩
          refine HeldTill.next (j := 7) (n := 2) (by kernel_rfl) rfl ?_
          go_wp2
          have H17 := Aside0.mk (LM.newB H16.out #[.slice none 0 0] 39 (by unfold BoxT; decide))
          generalize w16.heap.size = pb at *
          generalize w16.alloc (.cells #[.slice none 0 0] 39) = w17 at *
          refine ⟨(by first | exact fun _ => ⟨LM.cell H17.out 2 rfl 0 rfl, LM.cell H17.out 2 rfl 1 rfl, LM.cell H17.out 2 rfl 2 rfl⟩ | exact ⟨LM.cell H17.out 2 rfl 0 rfl, LM.cell H17.out 2 rfl 1 rfl, LM.cell H17.out 2 rfl 2 rfl⟩), ?_⟩
          refine HeldTill.next (j := 8) (n := 1) (by kernel_rfl) rfl ?_
          have qc0 := LM.cell H17.out 1 rfl 0 rfl
          have qf0 := LM.free H17.out 1 rfl 0
          go_wp2
          have H18 : Aside0 (LM w (w17.setCell ⟨pa, 0, none⟩ (.slice A5 Xa.length k5)) g l [(pb, #[.slice none 0 0], 39), (pa, #[.slice A5 Xa.length k5], 39), (bc, #[.int .i64 S, .int .i64 W, .int .i64 L], 26)] [.s3 (.slice A16 Xb.length k16) Xb, .s3 (.slice A5 Xa.length k5) Xa]) := ⟨LM.put H17.out 1 rfl 0 (.slice A5 Xa.length k5)⟩
          generalize (w17.setCell ⟨pa, 0, none⟩ (.slice A5 Xa.length k5)) = w18 at *
          clear qc0 qf0
          refine ⟨(by first | exact fun _ => ⟨LM.cell H18.out 2 rfl 0 rfl, LM.cell H18.out 2 rfl 1 rfl, LM.cell H18.out 2 rfl 2 rfl⟩ | exact ⟨LM.cell H18.out 2 rfl 0 rfl, LM.cell H18.out 2 rfl 1 rfl, LM.cell H18.out 2 rfl 2 rfl⟩), ?_⟩
          refine HeldTill.next (j := 9) (n := 0) (by kernel_rfl) rfl ?_
          have qc0 := LM.cell H18.out 0 rfl 0 rfl
          have qf0 := LM.free H18.out 0 rfl 0
          go_wp2
          have H19 : Aside0 (LM w (w18.setCell ⟨pb, 0, none⟩ (.slice A16 Xb.length k16)) g l [(pb, #[.slice A16 Xb.length k16], 39), (pa, #[.slice A5 Xa.length k5], 39), (bc, #[.int .i64 S, .int .i64 W, .int .i64 L], 26)] [.s3 (.slice A16 Xb.length k16) Xb, .s3 (.slice A5 Xa.length k5) Xa]) := ⟨LM.put H18.out 0 rfl 0 (.slice A16 Xb.length k16)⟩
          generalize (w18.setCell ⟨pb, 0, none⟩ (.slice A16 Xb.length k16)) = w19 at *
          clear qc0 qf0
          refine ⟨(by first | exact fun _ => ⟨LM.cell H19.out 2 rfl 0 rfl, LM.cell H19.out 2 rfl 1 rfl, LM.cell H19.out 2 rfl 2 rfl⟩ | exact ⟨LM.cell H19.out 2 rfl 0 rfl, LM.cell H19.out 2 rfl 1 rfl, LM.cell H19.out 2 rfl 2 rfl⟩), ?_⟩
          refine ⟨by kernel_rfl, ?_⟩
          go_wp2_with fail
          go_meet
          case rel => exact ⟨_, _, _, _, _, _, _, _, rfl, rfl, ⟨HVXa.out, HVXb.out, H19.out⟩⟩
        · skip
          go_wp2
          have H20 := Aside0.mk (LM.newB H15.out #[.slice none 0 0] 39 (by unfold BoxT; decide))
          generalize w15.heap.size = pb at *
          generalize w15.alloc (.cells #[.slice none 0 0] 39) = w20 at *
          refine ⟨(by first | exact fun _ => ⟨LM.cell H20.out 2 rfl 0 rfl, LM.cell H20.out 2 rfl 1 rfl, LM.cell H20.out 2 rfl 2 rfl⟩ | exact ⟨LM.cell H20.out 2 rfl 0 rfl, LM.cell H20.out 2 rfl 1 rfl, LM.cell H20.out 2 rfl 2 rfl⟩), ?_⟩
          refine HeldTill.next (j := 5) (n := 2) (by kernel_rfl) rfl ?_
          go_wp2_with (go_at_call 22; (with_reducible refine (LM.must HC.out H20.out).mono ?_); rintro e w21 ⟨A21, k21, Xb, rfl, hV, hL⟩; have HVXb := Aside0.mk hV; have H21 := Aside0.mk hL; clear hV hL)
          refine ⟨(by first | exact fun _ => ⟨LM.cell H21.out 2 rfl 0 rfl, LM.cell H21.out 2 rfl 1 rfl, LM.cell H21.out 2 rfl 2 rfl⟩ | exact ⟨LM.cell H21.out 2 rfl 0 rfl, LM.cell H21.out 2 rfl 1 rfl, LM.cell H21.out 2 rfl 2 rfl⟩), ?_⟩
          refine HeldTill.next (j := 8) (n := 1) (by kernel_rfl) rfl ?_
          have qc0 := LM.cell H21.out 1 rfl 0 rfl
          have qf0 := LM.free H21.out 1 rfl 0
          go_wp2
          have H22 : Aside0 (LM w (w21.setCell ⟨pa, 0, none⟩ (.slice A5 Xa.length k5)) g l [(pb, #[.slice none 0 0], 39), (pa, #[.slice A5 Xa.length k5], 39), (bc, #[.int .i64 S, .int .i64 W, .int .i64 L], 26)] [.s3 (.slice A21 Xb.length k21) Xb, .s3 (.slice A5 Xa.length k5) Xa]) := ⟨LM.put H21.out 1 rfl 0 (.slice A5 Xa.length k5)⟩
          generalize (w21.setCell ⟨pa, 0, none⟩ (.slice A5 Xa.length k5)) = w22 at *
          clear qc0 qf0
          refine ⟨(by first | exact fun _ => ⟨LM.cell H22.out 2 rfl 0 rfl, LM.cell H22.out 2 rfl 1 rfl, LM.cell H22.out 2 rfl 2 rfl⟩ | exact ⟨LM.cell H22.out 2 rfl 0 rfl, LM.cell H22.out 2 rfl 1 rfl, LM.cell H22.out 2 rfl 2 rfl⟩), ?_⟩
          refine HeldTill.next (j := 9) (n := 0) (by kernel_rfl) rfl ?_
          have qc0 := LM.cell H22.out 0 rfl 0 rfl
          have qf0 := LM.free H22.out 0 rfl 0
          go_wp2
          have H23 : Aside0 (LM w (w22.setCell ⟨pb, 0, none⟩ (.slice A21 Xb.length k21)) g l [(pb, #[.slice A21 Xb.length k21], 39), (pa, #[.slice A5 Xa.length k5], 39), (bc, #[.int .i64 S, .int .i64 W, .int .i64 L], 26)] [.s3 (.slice A21 Xb.length k21) Xb, .s3 (.slice A5 Xa.length k5) Xa]) := ⟨LM.put H22.out 0 rfl 0 (.slice A21 Xb.length k21)⟩
          generalize (w22.setCell ⟨pb, 0, none⟩ (.slice A21 Xb.length k21)) = w23 at *
          clear qc0 qf0
          refine ⟨(by first | exact fun _ => ⟨LM.cell H23.out 2 rfl 0 rfl, LM.cell H23.out 2 rfl 1 rfl, LM.cell H23.out 2 rfl 2 rfl⟩ | exact ⟨LM.cell H23.out 2 rfl 0 rfl, LM.cell H23.out 2 rfl 1 rfl, LM.cell H23.out 2 rfl 2 rfl⟩), ?_⟩
          refine ⟨by kernel_rfl, ?_⟩
          go_wp2_with fail
          go_meet
          case rel => exact ⟨_, _, _, _, _, _, _, _, rfl, rfl, ⟨HVXa.out, HVXb.out, H23.out⟩⟩
      · skip
        go_wp2
        have H24 := Aside0.mk (LM.newB H5.out #[.slice none 0 0] 39 (by unfold BoxT; decide))
        generalize w5.heap.size = pb at *
        generalize w5.alloc (.cells #[.slice none 0 0] 39) = w24 at *
        refine ⟨(by first | exact fun _ => ⟨LM.cell H24.out 1 rfl 0 rfl, LM.cell H24.out 1 rfl 1 rfl, LM.cell H24.out 1 rfl 2 rfl⟩ | exact ⟨LM.cell H24.out 1 rfl 0 rfl, LM.cell H24.out 1 rfl 1 rfl, LM.cell H24.out 1 rfl 2 rfl⟩), ?_⟩
        refine HeldTill.br [5, 6] (by kernel_rfl) (by simp) ?_
        refine BrAll.cons rfl ?_ (BrAll.cons rfl ?_ (BrAll.nil))
        · skip
          go_wp2_with (go_at_call 22; (with_reducible refine (LM.must HC.out H24.out).mono ?_); rintro e w25 ⟨A25, k25, Xb, rfl, hV, hL⟩; have HVXb := Aside0.mk hV; have H25 := Aside0.mk hL; clear hV hL)
          refine ⟨(by first | exact fun _ => ⟨LM.cell H25.out 1 rfl 0 rfl, LM.cell H25.out 1 rfl 1 rfl, LM.cell H25.out 1 rfl 2 rfl⟩ | exact ⟨LM.cell H25.out 1 rfl 0 rfl, LM.cell H25.out 1 rfl 1 rfl, LM.cell H25.out 1 rfl 2 rfl⟩), ?_⟩
          refine HeldTill.next (j := 6) (n := 2) (by kernel_rfl) rfl ?_
          go_wp2
          have H26 := Aside0.mk (LM.newB H25.out #[.slice none 0 0] 39 (by unfold BoxT; decide))
          generalize w25.heap.size = pa at *
          generalize w25.alloc (.cells #[.slice none 0 0] 39) = w26 at *
          refine ⟨(by first | exact fun _ => ⟨LM.cell H26.out 2 rfl 0 rfl, LM.cell H26.out 2 rfl 1 rfl, LM.cell H26.out 2 rfl 2 rfl⟩ | exact ⟨LM.cell H26.out 2 rfl 0 rfl, LM.cell H26.out 2 rfl 1 rfl, LM.cell H26.out 2 rfl 2 rfl⟩), ?_⟩
          refine HeldTill.next (j := 8) (n := 1) (by kernel_rfl) rfl ?_
          have qc0 := LM.cell H26.out 0 rfl 0 rfl
          have qf0 := LM.free H26.out 0 rfl 0
          go_wp2
          have H27 : Aside0 (LM w (w26.setCell ⟨pa, 0, none⟩ (.slice A5 Xa.length k5)) g l [(pa, #[.slice A5 Xa.length k5], 39), (pb, #[.slice none 0 0], 39), (bc, #[.int .i64 S, .int .i64 W, .int .i64 L], 26)] [.s3 (.slice A25 Xb.length k25) Xb, .s3 (.slice A5 Xa.length k5) Xa]) := ⟨LM.put H26.out 0 rfl 0 (.slice A5 Xa.length k5)⟩
          generalize (w26.setCell ⟨pa, 0, none⟩ (.slice A5 Xa.length k5)) = w27 at *
          clear qc0 qf0
          refine ⟨(by first | exact fun _ => ⟨LM.cell H27.out 2 rfl 0 rfl, LM.cell H27.out 2 rfl 1 rfl, LM.cell H27.out 2 rfl 2 rfl⟩ | exact ⟨LM.cell H27.out 2 rfl 0 rfl, LM.cell H27.out 2 rfl 1 rfl, LM.cell H27.out 2 rfl 2 rfl⟩), ?_⟩
          refine HeldTill.next (j := 9) (n := 0) (by kernel_rfl) rfl ?_
          have qc0 := LM.cell H27.out 1 rfl 0 rfl
          have qf0 := LM.free H27.out 1 rfl 0
          go_wp2
          have H28 : Aside0 (LM w (w27.setCell ⟨pb, 0, none⟩ (.slice A25 Xb.length k25)) g l [(pa, #[.slice A5 Xa.length k5], 39), (pb, #[.slice A25 Xb.length k25], 39), (bc, #[.int .i64 S, .int .i64 W, .int .i64 L], 26)] [.s3 (.slice A25 Xb.length k25) Xb, .s3 (.slice A5 Xa.length k5) Xa]) := ⟨LM.put H27.out 1 rfl 0 (.slice A25 Xb.length k25)⟩
          generalize (w27.setCell ⟨pb, 0, none⟩ (.slice A25 Xb.length k25)) = w28 at *
          clear qc0 qf0
          refine ⟨(by first | exact fun _ => ⟨LM.cell H28.out 2 rfl 0 rfl, LM.cell H28.out 2 rfl 1 rfl, LM.cell H28.out 2 rfl 2 rfl⟩ | exact ⟨LM.cell H28.out 2 rfl 0 rfl, LM.cell H28.out 2 rfl 1 rfl, LM.cell H28.out 2 rfl 2 rfl⟩), ?_⟩
          refine ⟨by kernel_rfl, ?_⟩
          go_wp2_with fail
          go_meet
          case rel => exact ⟨_, _, _, _, _, _, _, _, rfl, rfl, ⟨HVXa.out, HVXb.out, LM.swap H28.out⟩⟩
        · skip
          go_wp2
          have H29 := Aside0.mk (LM.newB H24.out #[.slice none 0 0] 39 (by unfold BoxT; decide))
          generalize w24.heap.size = pa at *
          generalize w24.alloc (.cells #[.slice none 0 0] 39) = w29 at *
          refine ⟨(by first | exact fun _ => ⟨LM.cell H29.out 2 rfl 0 rfl, LM.cell H29.out 2 rfl 1 rfl, LM.cell H29.out 2 rfl 2 rfl⟩ | exact ⟨LM.cell H29.out 2 rfl 0 rfl, LM.cell H29.out 2 rfl 1 rfl, LM.cell H29.out 2 rfl 2 rfl⟩), ?_⟩
          refine HeldTill.next (j := 5) (n := 2) (by kernel_rfl) rfl ?_
          go_wp2_with (go_at_call 22; (with_reducible refine (LM.must HC.out H29.out).mono ?_); rintro e w30 ⟨A30, k30, Xb, rfl, hV, hL⟩; have HVXb := Aside0.mk hV; have H30 := Aside0.mk hL; clear hV hL)
          refine ⟨(by first | exact fun _ => ⟨LM.cell H30.out 2 rfl 0 rfl, LM.cell H30.out 2 rfl 1 rfl, LM.cell H30.out 2 rfl 2 rfl⟩ | exact ⟨LM.cell H30.out 2 rfl 0 rfl, LM.cell H30.out 2 rfl 1 rfl, LM.cell H30.out 2 rfl 2 rfl⟩), ?_⟩
          refine HeldTill.next (j := 8) (n := 1) (by kernel_rfl) rfl ?_
          have qc0 := LM.cell H30.out 0 rfl 0 rfl
          have qf0 := LM.free H30.out 0 rfl 0
          go_wp2
          have H31 : Aside0 (LM w (w30.setCell ⟨pa, 0, none⟩ (.slice A5 Xa.length k5)) g l [(pa, #[.slice A5 Xa.length k5], 39), (pb, #[.slice none 0 0], 39), (bc, #[.int .i64 S, .int .i64 W, .int .i64 L], 26)] [.s3 (.slice A30 Xb.length k30) Xb, .s3 (.slice A5 Xa.length k5) Xa]) := ⟨LM.put H30.out 0 rfl 0 (.slice A5 Xa.length k5)⟩
          generalize (w30.setCell ⟨pa, 0, none⟩ (.slice A5 Xa.length k5)) = w31 at *
          clear qc0 qf0
          refine ⟨(by first | exact fun _ => ⟨LM.cell H31.out 2 rfl 0 rfl, LM.cell H31.out 2 rfl 1 rfl, LM.cell H31.out 2 rfl 2 rfl⟩ | exact ⟨LM.cell H31.out 2 rfl 0 rfl, LM.cell H31.out 2 rfl 1 rfl, LM.cell H31.out 2 rfl 2 rfl⟩), ?_⟩
          refine HeldTill.next (j := 9) (n := 0) (by kernel_rfl) rfl ?_
          have qc0 := LM.cell H31.out 1 rfl 0 rfl
          have qf0 := LM.free H31.out 1 rfl 0
          go_wp2
          have H32 : Aside0 (LM w (w31.setCell ⟨pb, 0, none⟩ (.slice A30 Xb.length k30)) g l [(pa, #[.slice A5 Xa.length k5], 39), (pb, #[.slice A30 Xb.length k30], 39), (bc, #[.int .i64 S, .int .i64 W, .int .i64 L], 26)] [.s3 (.slice A30 Xb.length k30) Xb, .s3 (.slice A5 Xa.length k5) Xa]) := ⟨LM.put H31.out 1 rfl 0 (.slice A30 Xb.length k30)⟩
          generalize (w31.setCell ⟨pb, 0, none⟩ (.slice A30 Xb.length k30)) = w32 at *
          clear qc0 qf0
          refine ⟨(by first | exact fun _ => ⟨LM.cell H32.out 2 rfl 0 rfl, LM.cell H32.out 2 rfl 1 rfl, LM.cell H32.out 2 rfl 2 rfl⟩ | exact ⟨LM.cell H32.out 2 rfl 0 rfl, LM.cell H32.out 2 rfl 1 rfl, LM.cell H32.out 2 rfl 2 rfl⟩), ?_⟩
          refine ⟨by kernel_rfl, ?_⟩
          go_wp2_with fail
          go_meet
          case rel => exact ⟨_, _, _, _, _, _, _, _, rfl, rfl, ⟨HVXa.out, HVXb.out, LM.swap H32.out⟩⟩
    · skip
      go_wp2
      have H33 := Aside0.mk (LM.newB H4.out #[.slice none 0 0] 39 (by unfold BoxT; decide))
      generalize w4.heap.size = pa at *
      generalize w4.alloc (.cells #[.slice none 0 0] 39) = w33 at *
      refine ⟨(by first | exact fun _ => ⟨LM.cell H33.out 1 rfl 0 rfl, LM.cell H33.out 1 rfl 1 rfl, LM.cell H33.out 1 rfl 2 rfl⟩ | exact ⟨LM.cell H33.out 1 rfl 0 rfl, LM.cell H33.out 1 rfl 1 rfl, LM.cell H33.out 1 rfl 2 rfl⟩), ?_⟩
      refine HeldTill.br [2, 7] (by kernel_rfl) (by simp) ?_
      refine BrAll.cons rfl ?_ (BrAll.cons rfl ?_ (BrAll.nil))
      · skip
        go_wp2_with (go_at_call 22; (with_reducible refine (LM.must HC.out H33.out).mono ?_); rintro e w34 ⟨A34, k34, Xa, rfl, hV, hL⟩; have HVXa := Aside0.mk hV; have H34 := Aside0.mk hL; clear hV hL)
        refine ⟨(by first | exact fun _ => ⟨LM.cell H34.out 1 rfl 0 rfl, LM.cell H34.out 1 rfl 1 rfl, LM.cell H34.out 1 rfl 2 rfl⟩ | exact ⟨LM.cell H34.out 1 rfl 0 rfl, LM.cell H34.out 1 rfl 1 rfl, LM.cell H34.out 1 rfl 2 rfl⟩), ?_⟩
        refine HeldTill.br [5, 7] (by kernel_rfl) (by simp) ?_
        refine BrAll.cons rfl ?_ (BrAll.cons rfl ?_ (BrAll.nil))
        · skip
          go_wp2_with (go_at_call 22; (with_reducible refine (LM.must HC.out H34.out).mono ?_); rintro e w35 ⟨A35, k35, Xb, rfl, hV, hL⟩; have HVXb := Aside0.mk hV; have H35 := Aside0.mk hL; clear hV hL)
          refine ⟨(by first | exact fun _ => ⟨LM.cell H35.out 1 rfl 0 rfl, LM.cell H35.out 1 rfl 1 rfl, LM.cell H35.out 1 rfl 2 rfl⟩ | exact ⟨LM.cell H35.out 1 rfl 0 rfl, LM.cell H35.out 1 rfl 1 rfl, LM.cell H35.out 1 rfl 2 rfl⟩), ?_⟩
          refine HeldTill.next (j := 7) (n := 2) (by kernel_rfl) rfl ?_
          go_wp2
          have H36 := Aside0.mk (LM.newB H35.out #[.slice none 0 0] 39 (by unfold BoxT; decide))
          generalize w35.heap.size = pb at *
          generalize w35.alloc (.cells #[.slice none 0 0] 39) = w36 at *
          refine ⟨(by first | exact fun _ => ⟨LM.cell H36.out 2 rfl 0 rfl, LM.cell H36.out 2 rfl 1 rfl, LM.cell H36.out 2 rfl 2 rfl⟩ | exact ⟨LM.cell H36.out 2 rfl 0 rfl, LM.cell H36.out 2 rfl 1 rfl, LM.cell H36.out 2 rfl 2 rfl⟩), ?_⟩
          refine HeldTill.next (j := 8) (n := 1) (by kernel_rfl) rfl ?_
          have qc0 := LM.cell H36.out 1 rfl 0 rfl
          have qf0 := LM.free H36.out 1 rfl 0
          go_wp2
          have H37 : Aside0 (LM w (w36.setCell ⟨pa, 0, none⟩ (.slice A34 Xa.length k34)) g l [(pb, #[.slice none 0 0], 39), (pa, #[.slice A34 Xa.length k34], 39), (bc, #[.int .i64 S, .int .i64 W, .int .i64 L], 26)] [.s3 (.slice A35 Xb.length k35) Xb, .s3 (.slice A34 Xa.length k34) Xa]) := ⟨LM.put H36.out 1 rfl 0 (.slice A34 Xa.length k34)⟩
          generalize (w36.setCell ⟨pa, 0, none⟩ (.slice A34 Xa.length k34)) = w37 at *
          clear qc0 qf0
          refine ⟨(by first | exact fun _ => ⟨LM.cell H37.out 2 rfl 0 rfl, LM.cell H37.out 2 rfl 1 rfl, LM.cell H37.out 2 rfl 2 rfl⟩ | exact ⟨LM.cell H37.out 2 rfl 0 rfl, LM.cell H37.out 2 rfl 1 rfl, LM.cell H37.out 2 rfl 2 rfl⟩), ?_⟩
          refine HeldTill.next (j := 9) (n := 0) (by kernel_rfl) rfl ?_
          have qc0 := LM.cell H37.out 0 rfl 0 rfl
          have qf0 := LM.free H37.out 0 rfl 0
          go_wp2
          have H38 : Aside0 (LM w (w37.setCell ⟨pb, 0, none⟩ (.slice A35 Xb.length k35)) g l [(pb, #[.slice A35 Xb.length k35], 39), (pa, #[.slice A34 Xa.length k34], 39), (bc, #[.int .i64 S, .int .i64 W, .int .i64 L], 26)] [.s3 (.slice A35 Xb.length k35) Xb, .s3 (.slice A34 Xa.length k34) Xa]) := ⟨LM.put H37.out 0 rfl 0 (.slice A35 Xb.length k35)⟩
          generalize (w37.setCell ⟨pb, 0, none⟩ (.slice A35 Xb.length k35)) = w38 at *
          clear qc0 qf0
          refine ⟨(by first | exact fun _ => ⟨LM.cell H38.out 2 rfl 0 rfl, LM.cell H38.out 2 rfl 1 rfl, LM.cell H38.out 2 rfl 2 rfl⟩ | exact ⟨LM.cell H38.out 2 rfl 0 rfl, LM.cell H38.out 2 rfl 1 rfl, LM.cell H38.out 2 rfl 2 rfl⟩), ?_⟩
          refine ⟨by kernel_rfl, ?_⟩
          go_wp2_with fail
          go_meet
          case rel => exact ⟨_, _, _, _, _, _, _, _, rfl, rfl, ⟨HVXa.out, HVXb.out, H38.out⟩⟩
        · skip
          go_wp2
          have H39 := Aside0.mk (LM.newB H34.out #[.slice none 0 0] 39 (by unfold BoxT; decide))
          generalize w34.heap.size = pb at *
          generalize w34.alloc (.cells #[.slice none 0 0] 39) = w39 at *
          refine ⟨(by first | exact fun _ => ⟨LM.cell H39.out 2 rfl 0 rfl, LM.cell H39.out 2 rfl 1 rfl, LM.cell H39.out 2 rfl 2 rfl⟩ | exact ⟨LM.cell H39.out 2 rfl 0 rfl, LM.cell H39.out 2 rfl 1 rfl, LM.cell H39.out 2 rfl 2 rfl⟩), ?_⟩
          refine HeldTill.next (j := 5) (n := 2) (by kernel_rfl) rfl ?_
          go_wp2_with (go_at_call 22; (with_reducible refine (LM.must HC.out H39.out).mono ?_); rintro e w40 ⟨A40, k40, Xb, rfl, hV, hL⟩; have HVXb := Aside0.mk hV; have H40 := Aside0.mk hL; clear hV hL)
          refine ⟨(by first | exact fun _ => ⟨LM.cell H40.out 2 rfl 0 rfl, LM.cell H40.out 2 rfl 1 rfl, LM.cell H40.out 2 rfl 2 rfl⟩ | exact ⟨LM.cell H40.out 2 rfl 0 rfl, LM.cell H40.out 2 rfl 1 rfl, LM.cell H40.out 2 rfl 2 rfl⟩), ?_⟩
          refine HeldTill.next (j := 8) (n := 1) (by kernel_rfl) rfl ?_
          have qc0 := LM.cell H40.out 1 rfl 0 rfl
          have qf0 := LM.free H40.out 1 rfl 0
          go_wp2
          have H41 : Aside0 (LM w (w40.setCell ⟨pa, 0, none⟩ (.slice A34 Xa.length k34)) g l [(pb, #[.slice none 0 0], 39), (pa, #[.slice A34 Xa.length k34], 39), (bc, #[.int .i64 S, .int .i64 W, .int .i64 L], 26)] [.s3 (.slice A40 Xb.length k40) Xb, .s3 (.slice A34 Xa.length k34) Xa]) := ⟨LM.put H40.out 1 rfl 0 (.slice A34 Xa.length k34)⟩
          generalize (w40.setCell ⟨pa, 0, none⟩ (.slice A34 Xa.length k34)) = w41 at *
          clear qc0 qf0
          refine ⟨(by first | exact fun _ => ⟨LM.cell H41.out 2 rfl 0 rfl, LM.cell H41.out 2 rfl 1 rfl, LM.cell H41.out 2 rfl 2 rfl⟩ | exact ⟨LM.cell H41.out 2 rfl 0 rfl, LM.cell H41.out 2 rfl 1 rfl, LM.cell H41.out 2 rfl 2 rfl⟩), ?_⟩
          refine HeldTill.next (j := 9) (n := 0) (by kernel_rfl) rfl ?_
          have qc0 := LM.cell H41.out 0 rfl 0 rfl
          have qf0 := LM.free H41.out 0 rfl 0
          go_wp2
          have H42 : Aside0 (LM w (w41.setCell ⟨pb, 0, none⟩ (.slice A40 Xb.length k40)) g l [(pb, #[.slice A40 Xb.length k40], 39), (pa, #[.slice A34 Xa.length k34], 39), (bc, #[.int .i64 S, .int .i64 W, .int .i64 L], 26)] [.s3 (.slice A40 Xb.length k40) Xb, .s3 (.slice A34 Xa.length k34) Xa]) := ⟨LM.put H41.out 0 rfl 0 (.slice A40 Xb.length k40)⟩
          generalize (w41.setCell ⟨pb, 0, none⟩ (.slice A40 Xb.length k40)) = w42 at *
          clear qc0 qf0
          refine ⟨(by first | exact fun _ => ⟨LM.cell H42.out 2 rfl 0 rfl, LM.cell H42.out 2 rfl 1 rfl, LM.cell H42.out 2 rfl 2 rfl⟩ | exact ⟨LM.cell H42.out 2 rfl 0 rfl, LM.cell H42.out 2 rfl 1 rfl, LM.cell H42.out 2 rfl 2 rfl⟩), ?_⟩
          refine ⟨by kernel_rfl, ?_⟩
          go_wp2_with fail
          go_meet
          case rel => exact ⟨_, _, _, _, _, _, _, _, rfl, rfl, ⟨HVXa.out, HVXb.out, H42.out⟩⟩
      · skip
        go_wp2
        have H43 := Aside0.mk (LM.newB H33.out #[.slice none 0 0] 39 (by unfold BoxT; decide))
        generalize w33.heap.size = pb at *
        generalize w33.alloc (.cells #[.slice none 0 0] 39) = w43 at *
        refine ⟨(by first | exact fun _ => ⟨LM.cell H43.out 2 rfl 0 rfl, LM.cell H43.out 2 rfl 1 rfl, LM.cell H43.out 2 rfl 2 rfl⟩ | exact ⟨LM.cell H43.out 2 rfl 0 rfl, LM.cell H43.out 2 rfl 1 rfl, LM.cell H43.out 2 rfl 2 rfl⟩), ?_⟩
        refine HeldTill.next (j := 2) (n := 3) (by kernel_rfl) rfl ?_
        go_wp2_with (go_at_call 22; (with_reducible refine (LM.must HC.out H43.out).mono ?_); rintro e w44 ⟨A44, k44, Xa, rfl, hV, hL⟩; have HVXa := Aside0.mk hV; have H44 := Aside0.mk hL; clear hV hL)
        refine ⟨(by first | exact fun _ => ⟨LM.cell H44.out 2 rfl 0 rfl, LM.cell H44.out 2 rfl 1 rfl, LM.cell H44.out 2 rfl 2 rfl⟩ | exact ⟨LM.cell H44.out 2 rfl 0 rfl, LM.cell H44.out 2 rfl 1 rfl, LM.cell H44.out 2 rfl 2 rfl⟩), ?_⟩
        refine HeldTill.next (j := 5) (n := 2) (by kernel_rfl) rfl ?_
        go_wp2_with (go_at_call 22; (with_reducible refine (LM.must HC.out H44.out).mono ?_); rintro e w45 ⟨A45, k45, Xb, rfl, hV, hL⟩; have HVXb := Aside0.mk hV; have H45 := Aside0.mk hL; clear hV hL)
        refine ⟨(by first | exact fun _ => ⟨LM.cell H45.out 2 rfl 0 rfl, LM.cell H45.out 2 rfl 1 rfl, LM.cell H45.out 2 rfl 2 rfl⟩ | exact ⟨LM.cell H45.out 2 rfl 0 rfl, LM.cell H45.out 2 rfl 1 rfl, LM.cell H45.out 2 rfl 2 rfl⟩), ?_⟩
        refine HeldTill.next (j := 8) (n := 1) (by kernel_rfl) rfl ?_
        have qc0 := LM.cell H45.out 1 rfl 0 rfl
        have qf0 := LM.free H45.out 1 rfl 0
        go_wp2
        have H46 : Aside0 (LM w (w45.setCell ⟨pa, 0, none⟩ (.slice A44 Xa.length k44)) g l [(pb, #[.slice none 0 0], 39), (pa, #[.slice A44 Xa.length k44], 39), (bc, #[.int .i64 S, .int .i64 W, .int .i64 L], 26)] [.s3 (.slice A45 Xb.length k45) Xb, .s3 (.slice A44 Xa.length k44) Xa]) := ⟨LM.put H45.out 1 rfl 0 (.slice A44 Xa.length k44)⟩
        generalize (w45.setCell ⟨pa, 0, none⟩ (.slice A44 Xa.length k44)) = w46 at *
        clear qc0 qf0
        refine ⟨(by first | exact fun _ => ⟨LM.cell H46.out 2 rfl 0 rfl, LM.cell H46.out 2 rfl 1 rfl, LM.cell H46.out 2 rfl 2 rfl⟩ | exact ⟨LM.cell H46.out 2 rfl 0 rfl, LM.cell H46.out 2 rfl 1 rfl, LM.cell H46.out 2 rfl 2 rfl⟩), ?_⟩
        refine HeldTill.next (j := 9) (n := 0) (by kernel_rfl) rfl ?_
        have qc0 := LM.cell H46.out 0 rfl 0 rfl
        have qf0 := LM.free H46.out 0 rfl 0
        go_wp2
        have H47 : Aside0 (LM w (w46.setCell ⟨pb, 0, none⟩ (.slice A45 Xb.length k45)) g l [(pb, #[.slice A45 Xb.length k45], 39), (pa, #[.slice A44 Xa.length k44], 39), (bc, #[.int .i64 S, .int .i64 W, .int .i64 L], 26)] [.s3 (.slice A45 Xb.length k45) Xb, .s3 (.slice A44 Xa.length k44) Xa]) := ⟨LM.put H46.out 0 rfl 0 (.slice A45 Xb.length k45)⟩
        generalize (w46.setCell ⟨pb, 0, none⟩ (.slice A45 Xb.length k45)) = w47 at *
        clear qc0 qf0
        refine ⟨(by first | exact fun _ => ⟨LM.cell H47.out 2 rfl 0 rfl, LM.cell H47.out 2 rfl 1 rfl, LM.cell H47.out 2 rfl 2 rfl⟩ | exact ⟨LM.cell H47.out 2 rfl 0 rfl, LM.cell H47.out 2 rfl 1 rfl, LM.cell H47.out 2 rfl 2 rfl⟩), ?_⟩
        refine ⟨by kernel_rfl, ?_⟩
        go_wp2_with fail
        go_meet
        case rel => exact ⟨_, _, _, _, _, _, _, _, rfl, rfl, ⟨HVXa.out, HVXb.out, H47.out⟩⟩
    · skip
      go_wp2
      have H48 := Aside0.mk (LM.newB H4.out #[.slice none 0 0] 39 (by unfold BoxT; decide))
      generalize w4.heap.size = pb at *
      generalize w4.alloc (.cells #[.slice none 0 0] 39) = w48 at *
      refine ⟨(by first | exact fun _ => ⟨LM.cell H48.out 1 rfl 0 rfl, LM.cell H48.out 1 rfl 1 rfl, LM.cell H48.out 1 rfl 2 rfl⟩ | exact ⟨LM.cell H48.out 1 rfl 0 rfl, LM.cell H48.out 1 rfl 1 rfl, LM.cell H48.out 1 rfl 2 rfl⟩), ?_⟩
      refine HeldTill.br [2, 6] (by kernel_rfl) (by simp) ?_
      refine BrAll.cons rfl ?_ (BrAll.cons rfl ?_ (BrAll.nil))
      · skip
        go_wp2_with (go_at_call 22; (with_reducible refine (LM.must HC.out H48.out).mono ?_); rintro e w49 ⟨A49, k49, Xa, rfl, hV, hL⟩; have HVXa := Aside0.mk hV; have H49 := Aside0.mk hL; clear hV hL)
        refine ⟨(by first | exact fun _ => ⟨LM.cell H49.out 1 rfl 0 rfl, LM.cell H49.out 1 rfl 1 rfl, LM.cell H49.out 1 rfl 2 rfl⟩ | exact ⟨LM.cell H49.out 1 rfl 0 rfl, LM.cell H49.out 1 rfl 1 rfl, LM.cell H49.out 1 rfl 2 rfl⟩), ?_⟩
        refine HeldTill.br [5, 6] (by kernel_rfl) (by simp) ?_
        refine BrAll.cons rfl ?_ (BrAll.cons rfl ?_ (BrAll.nil))
        · skip
          go_wp2_with (go_at_call 22; (with_reducible refine (LM.must HC.out H49.out).mono ?_); rintro e w50 ⟨A50, k50, Xb, rfl, hV, hL⟩; have HVXb := Aside0.mk hV; have H50 := Aside0.mk hL; clear hV hL)
          refine ⟨(by first | exact fun _ => ⟨LM.cell H50.out 1 rfl 0 rfl, LM.cell H50.out 1 rfl 1 rfl, LM.cell H50.out 1 rfl 2 rfl⟩ | exact ⟨LM.cell H50.out 1 rfl 0 rfl, LM.cell H50.out 1 rfl 1 rfl, LM.cell H50.out 1 rfl 2 rfl⟩), ?_⟩
          refine HeldTill.next (j := 6) (n := 2) (by kernel_rfl) rfl ?_
          go_wp2
          have H51 := Aside0.mk (LM.newB H50.out #[.slice none 0 0] 39 (by unfold BoxT; decide))
          generalize w50.heap.size = pa at *
          generalize w50.alloc (.cells #[.slice none 0 0] 39) = w51 at *
          refine ⟨(by first | exact fun _ => ⟨LM.cell H51.out 2 rfl 0 rfl, LM.cell H51.out 2 rfl 1 rfl, LM.cell H51.out 2 rfl 2 rfl⟩ | exact ⟨LM.cell H51.out 2 rfl 0 rfl, LM.cell H51.out 2 rfl 1 rfl, LM.cell H51.out 2 rfl 2 rfl⟩), ?_⟩
          refine HeldTill.next (j := 8) (n := 1) (by kernel_rfl) rfl ?_
          have qc0 := LM.cell H51.out 0 rfl 0 rfl
          have qf0 := LM.free H51.out 0 rfl 0
          go_wp2
          have H52 : Aside0 (LM w (w51.setCell ⟨pa, 0, none⟩ (.slice A49 Xa.length k49)) g l [(pa, #[.slice A49 Xa.length k49], 39), (pb, #[.slice none 0 0], 39), (bc, #[.int .i64 S, .int .i64 W, .int .i64 L], 26)] [.s3 (.slice A50 Xb.length k50) Xb, .s3 (.slice A49 Xa.length k49) Xa]) := ⟨LM.put H51.out 0 rfl 0 (.slice A49 Xa.length k49)⟩
          generalize (w51.setCell ⟨pa, 0, none⟩ (.slice A49 Xa.length k49)) = w52 at *
          clear qc0 qf0
          refine ⟨(by first | exact fun _ => ⟨LM.cell H52.out 2 rfl 0 rfl, LM.cell H52.out 2 rfl 1 rfl, LM.cell H52.out 2 rfl 2 rfl⟩ | exact ⟨LM.cell H52.out 2 rfl 0 rfl, LM.cell H52.out 2 rfl 1 rfl, LM.cell H52.out 2 rfl 2 rfl⟩), ?_⟩
          refine HeldTill.next (j := 9) (n := 0) (by kernel_rfl) rfl ?_
          have qc0 := LM.cell H52.out 1 rfl 0 rfl
          have qf0 := LM.free H52.out 1 rfl 0
          go_wp2
          have H53 : Aside0 (LM w (w52.setCell ⟨pb, 0, none⟩ (.slice A50 Xb.length k50)) g l [(pa, #[.slice A49 Xa.length k49], 39), (pb, #[.slice A50 Xb.length k50], 39), (bc, #[.int .i64 S, .int .i64 W, .int .i64 L], 26)] [.s3 (.slice A50 Xb.length k50) Xb, .s3 (.slice A49 Xa.length k49) Xa]) := ⟨LM.put H52.out 1 rfl 0 (.slice A50 Xb.length k50)⟩
          generalize (w52.setCell ⟨pb, 0, none⟩ (.slice A50 Xb.length k50)) = w53 at *
          clear qc0 qf0
          refine ⟨(by first | exact fun _ => ⟨LM.cell H53.out 2 rfl 0 rfl, LM.cell H53.out 2 rfl 1 rfl, LM.cell H53.out 2 rfl 2 rfl⟩ | exact ⟨LM.cell H53.out 2 rfl 0 rfl, LM.cell H53.out 2 rfl 1 rfl, LM.cell H53.out 2 rfl 2 rfl⟩), ?_⟩
          refine ⟨by kernel_rfl, ?_⟩
          go_wp2_with fail
          go_meet
          case rel => exact ⟨_, _, _, _, _, _, _, _, rfl, rfl, ⟨HVXa.out, HVXb.out, LM.swap H53.out⟩⟩
        · skip
          go_wp2
          have H54 := Aside0.mk (LM.newB H49.out #[.slice none 0 0] 39 (by unfold BoxT; decide))
          generalize w49.heap.size = pa at *
          generalize w49.alloc (.cells #[.slice none 0 0] 39) = w54 at *
          refine ⟨(by first | exact fun _ => ⟨LM.cell H54.out 2 rfl 0 rfl, LM.cell H54.out 2 rfl 1 rfl, LM.cell H54.out 2 rfl 2 rfl⟩ | exact ⟨LM.cell H54.out 2 rfl 0 rfl, LM.cell H54.out 2 rfl 1 rfl, LM.cell H54.out 2 rfl 2 rfl⟩), ?_⟩
          refine HeldTill.next (j := 5) (n := 2) (by kernel_rfl) rfl ?_
          go_wp2_with (go_at_call 22; (with_reducible refine (LM.must HC.out H54.out).mono ?_); rintro e w55 ⟨A55, k55, Xb, rfl, hV, hL⟩; have HVXb := Aside0.mk hV; have H55 := Aside0.mk hL; clear hV hL)
          refine ⟨(by first | exact fun _ => ⟨LM.cell H55.out 2 rfl 0 rfl, LM.cell H55.out 2 rfl 1 rfl, LM.cell H55.out 2 rfl 2 rfl⟩ | exact ⟨LM.cell H55.out 2 rfl 0 rfl, LM.cell H55.out 2 rfl 1 rfl, LM.cell H55.out 2 rfl 2 rfl⟩), ?_⟩
          refine HeldTill.next (j := 8) (n := 1) (by kernel_rfl) rfl ?_
          have qc0 := LM.cell H55.out 0 rfl 0 rfl
          have qf0 := LM.free H55.out 0 rfl 0
          go_wp2
          have H56 : Aside0 (LM w (w55.setCell ⟨pa, 0, none⟩ (.slice A49 Xa.length k49)) g l [(pa, #[.slice A49 Xa.length k49], 39), (pb, #[.slice none 0 0], 39), (bc, #[.int .i64 S, .int .i64 W, .int .i64 L], 26)] [.s3 (.slice A55 Xb.length k55) Xb, .s3 (.slice A49 Xa.length k49) Xa]) := ⟨LM.put H55.out 0 rfl 0 (.slice A49 Xa.length k49)⟩
          generalize (w55.setCell ⟨pa, 0, none⟩ (.slice A49 Xa.length k49)) = w56 at *
          clear qc0 qf0
          refine ⟨(by first | exact fun _ => ⟨LM.cell H56.out 2 rfl 0 rfl, LM.cell H56.out 2 rfl 1 rfl, LM.cell H56.out 2 rfl 2 rfl⟩ | exact ⟨LM.cell H56.out 2 rfl 0 rfl, LM.cell H56.out 2 rfl 1 rfl, LM.cell H56.out 2 rfl 2 rfl⟩), ?_⟩
          refine HeldTill.next (j := 9) (n := 0) (by kernel_rfl) rfl ?_
          have qc0 := LM.cell H56.out 1 rfl 0 rfl
          have qf0 := LM.free H56.out 1 rfl 0
          go_wp2
          have H57 : Aside0 (LM w (w56.setCell ⟨pb, 0, none⟩ (.slice A55 Xb.length k55)) g l [(pa, #[.slice A49 Xa.length k49], 39), (pb, #[.slice A55 Xb.length k55], 39), (bc, #[.int .i64 S, .int .i64 W, .int .i64 L], 26)] [.s3 (.slice A55 Xb.length k55) Xb, .s3 (.slice A49 Xa.length k49) Xa]) := ⟨LM.put H56.out 1 rfl 0 (.slice A55 Xb.length k55)⟩
          generalize (w56.setCell ⟨pb, 0, none⟩ (.slice A55 Xb.length k55)) = w57 at *
          clear qc0 qf0
          refine ⟨(by first | exact fun _ => ⟨LM.cell H57.out 2 rfl 0 rfl, LM.cell H57.out 2 rfl 1 rfl, LM.cell H57.out 2 rfl 2 rfl⟩ | exact ⟨LM.cell H57.out 2 rfl 0 rfl, LM.cell H57.out 2 rfl 1 rfl, LM.cell H57.out 2 rfl 2 rfl⟩), ?_⟩
          refine ⟨by kernel_rfl, ?_⟩
          go_wp2_with fail
          go_meet
          case rel => exact ⟨_, _, _, _, _, _, _, _, rfl, rfl, ⟨HVXa.out, HVXb.out, LM.swap H57.out⟩⟩
      · skip
        go_wp2
        have H58 := Aside0.mk (LM.newB H48.out #[.slice none 0 0] 39 (by unfold BoxT; decide))
        generalize w48.heap.size = pa at *
        generalize w48.alloc (.cells #[.slice none 0 0] 39) = w58 at *
        refine ⟨(by first | exact fun _ => ⟨LM.cell H58.out 2 rfl 0 rfl, LM.cell H58.out 2 rfl 1 rfl, LM.cell H58.out 2 rfl 2 rfl⟩ | exact ⟨LM.cell H58.out 2 rfl 0 rfl, LM.cell H58.out 2 rfl 1 rfl, LM.cell H58.out 2 rfl 2 rfl⟩), ?_⟩
        refine HeldTill.next (j := 2) (n := 3) (by kernel_rfl) rfl ?_
        go_wp2_with (go_at_call 22; (with_reducible refine (LM.must HC.out H58.out).mono ?_); rintro e w59 ⟨A59, k59, Xa, rfl, hV, hL⟩; have HVXa := Aside0.mk hV; have H59 := Aside0.mk hL; clear hV hL)
        refine ⟨(by first | exact fun _ => ⟨LM.cell H59.out 2 rfl 0 rfl, LM.cell H59.out 2 rfl 1 rfl, LM.cell H59.out 2 rfl 2 rfl⟩ | exact ⟨LM.cell H59.out 2 rfl 0 rfl, LM.cell H59.out 2 rfl 1 rfl, LM.cell H59.out 2 rfl 2 rfl⟩), ?_⟩
        refine HeldTill.next (j := 5) (n := 2) (by kernel_rfl) rfl ?_
        go_wp2_with (go_at_call 22; (with_reducible refine (LM.must HC.out H59.out).mono ?_); rintro e w60 ⟨A60, k60, Xb, rfl, hV, hL⟩; have HVXb := Aside0.mk hV; have H60 := Aside0.mk hL; clear hV hL)
        refine ⟨(by first | exact fun _ => ⟨LM.cell H60.out 2 rfl 0 rfl, LM.cell H60.out 2 rfl 1 rfl, LM.cell H60.out 2 rfl 2 rfl⟩ | exact ⟨LM.cell H60.out 2 rfl 0 rfl, LM.cell H60.out 2 rfl 1 rfl, LM.cell H60.out 2 rfl 2 rfl⟩), ?_⟩
        refine HeldTill.next (j := 8) (n := 1) (by kernel_rfl) rfl ?_
        have qc0 := LM.cell H60.out 0 rfl 0 rfl
        have qf0 := LM.free H60.out 0 rfl 0
        go_wp2
        have H61 : Aside0 (LM w (w60.setCell ⟨pa, 0, none⟩ (.slice A59 Xa.length k59)) g l [(pa, #[.slice A59 Xa.length k59], 39), (pb, #[.slice none 0 0], 39), (bc, #[.int .i64 S, .int .i64 W, .int .i64 L], 26)] [.s3 (.slice A60 Xb.length k60) Xb, .s3 (.slice A59 Xa.length k59) Xa]) := ⟨LM.put H60.out 0 rfl 0 (.slice A59 Xa.length k59)⟩
        generalize (w60.setCell ⟨pa, 0, none⟩ (.slice A59 Xa.length k59)) = w61 at *
        clear qc0 qf0
        refine ⟨(by first | exact fun _ => ⟨LM.cell H61.out 2 rfl 0 rfl, LM.cell H61.out 2 rfl 1 rfl, LM.cell H61.out 2 rfl 2 rfl⟩ | exact ⟨LM.cell H61.out 2 rfl 0 rfl, LM.cell H61.out 2 rfl 1 rfl, LM.cell H61.out 2 rfl 2 rfl⟩), ?_⟩
        refine HeldTill.next (j := 9) (n := 0) (by kernel_rfl) rfl ?_
        have qc0 := LM.cell H61.out 1 rfl 0 rfl
        have qf0 := LM.free H61.out 1 rfl 0
        go_wp2
        have H62 : Aside0 (LM w (w61.setCell ⟨pb, 0, none⟩ (.slice A60 Xb.length k60)) g l [(pa, #[.slice A59 Xa.length k59], 39), (pb, #[.slice A60 Xb.length k60], 39), (bc, #[.int .i64 S, .int .i64 W, .int .i64 L], 26)] [.s3 (.slice A60 Xb.length k60) Xb, .s3 (.slice A59 Xa.length k59) Xa]) := ⟨LM.put H61.out 1 rfl 0 (.slice A60 Xb.length k60)⟩
        generalize (w61.setCell ⟨pb, 0, none⟩ (.slice A60 Xb.length k60)) = w62 at *
        clear qc0 qf0
        refine ⟨(by first | exact fun _ => ⟨LM.cell H62.out 2 rfl 0 rfl, LM.cell H62.out 2 rfl 1 rfl, LM.cell H62.out 2 rfl 2 rfl⟩ | exact ⟨LM.cell H62.out 2 rfl 0 rfl, LM.cell H62.out 2 rfl 1 rfl, LM.cell H62.out 2 rfl 2 rfl⟩), ?_⟩
        refine ⟨by kernel_rfl, ?_⟩
        go_wp2_with fail
        go_meet
        case rel => exact ⟨_, _, _, _, _, _, _, _, rfl, rfl, ⟨HVXa.out, HVXb.out, LM.swap H62.out⟩⟩
  case rest =>
    obtain ⟨pa, pb, Aa, ka, Ab, kb, Xa, Xb, rfl, rfl, HE⟩ := hcut
    have HVa := Aside0.mk HE.out.1
    have HVb := Aside0.mk HE.out.2.1
    have Hr := Aside0.mk HE.out.2.2
    clear HE H3
    have qbc0 := LM.cell Hr.out 2 rfl 0 rfl
    have qbc1 := LM.cell Hr.out 2 rfl 1 rfl
    have qbc2 := LM.cell Hr.out 2 rfl 2 rfl
    have qpa0 := LM.cell Hr.out 1 rfl 0 rfl
    have qpb0 := LM.cell Hr.out 0 rfl 0 rfl
    go_upto_region 5 with (first | (go_at_call 34; (with_reducible refine (LM.join HC.out Hr.out 1 0 rfl rfl HVa.out.fit HVb.out.fit).mono ?_); rintro e w63 ⟨A63, k63, rfl, hL⟩; have H63 := Aside0.mk hL; clear hL))
    clear qbc0 qbc1 qbc2 qpa0 qpb0
    have H64 := Aside0.mk (LM.newB H63.out #[.slice A63 (joinM S W Xa Xb).length k63] 39 (by unfold BoxT; decide))
    generalize w63.heap.size = pj at *
    generalize w63.alloc (.cells #[.slice A63 (joinM S W Xa Xb).length k63] 39) = w64 at *
    have HVj := Aside0.mk (HVa.out.join Xb)
    go_cut [8] from 23 to 32 (fun v8 wx => ∃ pu Au ku Xm, v8 = .pointer (some ⟨pu, 0, none⟩) ∧ Aside0 (Val S W Xm ∧ LM w wx g l [(pu, #[.slice Au (joinM S W (joinM S W Xa Xm) Xb).length ku], 39), (pj, #[.slice A63 (joinM S W Xa Xb).length k63], 39), (pb, #[.slice Ab Xb.length kb], 39), (pa, #[.slice Aa Xa.length ka], 39), (bc, #[.int .i64 S, .int .i64 W, .int .i64 L], 26)] [.s3 (.slice Au (joinM S W (joinM S W Xa Xm) Xb).length ku) (joinM S W (joinM S W Xa Xm) Xb), .s3 (.slice A63 (joinM S W Xa Xb).length k63) (joinM S W Xa Xb), .s3 (.slice Ab Xb.length kb) Xb, .s3 (.slice Aa Xa.length ka) Xa]))
    case first =>
      refine HeldTill.begin_ (S := fun (w' : World) => w'.cell? ⟨bc, 0, none⟩ = some (.int .i64 S) ∧ w'.cell? ⟨bc, 1, none⟩ = some (.int .i64 W) ∧ w'.cell? ⟨bc, 2, none⟩ = some (.int .i64 L) ∧ w'.cell? ⟨pa, 0, none⟩ = some (.slice Aa Xa.length ka) ∧ w'.cell? ⟨pb, 0, none⟩ = some (.slice Ab Xb.length kb)) (F := fun _ => true) (by kernel_rfl) ?_
      have H65 := Aside0.mk (LM.drew H64.out)
      generalize w64.drew = w65 at *
      have hSq : (fun (w' : World) => w'.cell? ⟨bc, 0, none⟩ = some (.int .i64 S) ∧ w'.cell? ⟨bc, 1, none⟩ = some (.int .i64 W) ∧ w'.cell? ⟨bc, 2, none⟩ = some (.int .i64 L) ∧ w'.cell? ⟨pa, 0, none⟩ = some (.slice Aa Xa.length ka) ∧ w'.cell? ⟨pb, 0, none⟩ = some (.slice Ab Xb.length kb)) w65 := ⟨LM.cell H65.out 3 rfl 0 rfl, LM.cell H65.out 3 rfl 1 rfl, LM.cell H65.out 3 rfl 2 rfl, LM.cell H65.out 2 rfl 0 rfl, LM.cell H65.out 1 rfl 0 rfl⟩
      refine HeldTill.take (i := 0) (n := 10) (v := ?_) rfl (by kernel_rfl) (by kernel_rfl) (by kernel_rfl) (by kernel_rfl) (fun _ _ _ h => h) (Or.inl ⟨by rfl, ?_⟩) hSq ?_
      rotate_left
      · intro w hSw; (try dsimp only at hSw); go_simp; (try with_reducible rfl)
      simp only [Act.put, List.setIfInBounds_toArray, List.set_cons_zero, List.set_cons_succ, List.getElem_toArray, List.getElem_cons_zero, List.getElem_cons_succ]
      refine HeldTill.take (i := 1) (n := 9) (v := ?_) rfl (by kernel_rfl) (by kernel_rfl) (by kernel_rfl) (by kernel_rfl) (fun _ _ _ h => h) (Or.inl ⟨by rfl, ?_⟩) hSq ?_
      rotate_left
      · intro w hSw; (try dsimp only at hSw); go_simp; (try with_reducible rfl)
      simp only [Act.put, List.setIfInBounds_toArray, List.set_cons_zero, List.set_cons_succ, List.getElem_toArray, List.getElem_cons_zero, List.getElem_cons_succ]
      refine HeldTill.take (i := 2) (n := 8) (v := ?_) rfl (by kernel_rfl) (by kernel_rfl) (by kernel_rfl) (by kernel_rfl) (fun _ _ _ h => h) (Or.inl ⟨by rfl, ?_⟩) hSq ?_
      rotate_left
      · intro w hSw; (try dsimp only at hSw); go_simp; (try with_reducible rfl)
      simp only [Act.put, List.setIfInBounds_toArray, List.set_cons_zero, List.set_cons_succ, List.getElem_toArray, List.getElem_cons_zero, List.getElem_cons_succ]
      refine HeldTill.take (i := 3) (n := 7) (v := ?_) rfl (by kernel_rfl) (by kernel_rfl) (by kernel_rfl) (by kernel_rfl) (fun _ _ _ h => h) (Or.inl ⟨by rfl, ?_⟩) hSq ?_
      rotate_left
      · intro w hSw; (try dsimp only at hSw); go_simp; (try with_reducible rfl)
      simp only [Act.put, List.setIfInBounds_toArray, List.set_cons_zero, List.set_cons_succ, List.getElem_toArray, List.getElem_cons_zero, List.getElem_cons_succ]
      refine HeldTill.take (i := 4) (n := 6) (v := ?_) rfl (by kernel_rfl) (by kernel_rfl) (by kernel_rfl) (by kernel_rfl) (fun _ _ _ h => h) (Or.inl ⟨by rfl, ?_⟩) hSq ?_
      rotate_left
      · intro w hSw; (try dsimp only at hSw); go_simp; (try with_reducible rfl)
      simp only [Act.put, List.setIfInBounds_toArray, List.set_cons_zero, List.set_cons_succ, List.getElem_toArray, List.getElem_cons_zero, List.getElem_cons_succ]
      refine HeldTill.take (i := 7) (n := 5) (v := ?_) rfl (by kernel_rfl) (by kernel_rfl) (by kernel_rfl) (by kernel_rfl) (fun _ _ _ h => h) (Or.inl ⟨by rfl, ?_⟩) hSq ?_
      rotate_left
      · intro w hSw; (try dsimp only at hSw); go_simp; (try with_reducible rfl)
      simp only [Act.put, List.setIfInBounds_toArray, List.set_cons_zero, List.set_cons_succ, List.getElem_toArray, List.getElem_cons_zero, List.getElem_cons_succ]
      refine HeldTill.br [5, 9] (by kernel_rfl) (by simp) ?_
      refine BrAll.cons rfl ?_ (BrAll.cons rfl ?_ (BrAll.nil))
      · skip
        go_wp2_with (go_at_call 22; (with_reducible refine (LM.must HC.out H65.out).mono ?_); rintro e w66 ⟨A66, k66, Xm, rfl, hV, hL⟩; have HVXm := Aside0.mk hV; have H66 := Aside0.mk hL; clear hV hL)
        refine ⟨(by first | exact fun _ => ⟨LM.cell H66.out 3 rfl 0 rfl, LM.cell H66.out 3 rfl 1 rfl, LM.cell H66.out 3 rfl 2 rfl, LM.cell H66.out 2 rfl 0 rfl, LM.cell H66.out 1 rfl 0 rfl⟩ | exact ⟨LM.cell H66.out 3 rfl 0 rfl, LM.cell H66.out 3 rfl 1 rfl, LM.cell H66.out 3 rfl 2 rfl, LM.cell H66.out 2 rfl 0 rfl, LM.cell H66.out 1 rfl 0 rfl⟩), ?_⟩
        refine HeldTill.br [6, 9] (by kernel_rfl) (by simp) ?_
        refine BrAll.cons rfl ?_ (BrAll.cons rfl ?_ (BrAll.nil))
        · skip
          go_wp2_with (go_at_call 31; (with_reducible refine (LM.rjoin HC.out H66.out 3 0 rfl rfl HVa.out.fit HVXm.out.fit).mono ?_); rintro e w67 ⟨A67, k67, rfl, hL⟩; have H67 := Aside0.mk hL; clear hL)
          refine ⟨(by first | exact fun _ => ⟨LM.cell H67.out 3 rfl 0 rfl, LM.cell H67.out 3 rfl 1 rfl, LM.cell H67.out 3 rfl 2 rfl, LM.cell H67.out 2 rfl 0 rfl, LM.cell H67.out 1 rfl 0 rfl⟩ | exact ⟨LM.cell H67.out 3 rfl 0 rfl, LM.cell H67.out 3 rfl 1 rfl, LM.cell H67.out 3 rfl 2 rfl, LM.cell H67.out 2 rfl 0 rfl, LM.cell H67.out 1 rfl 0 rfl⟩), ?_⟩
          refine HeldTill.br [8, 9] (by kernel_rfl) (by simp) ?_
          refine BrAll.cons rfl ?_ (BrAll.cons rfl ?_ (BrAll.nil))
          · skip
            go_wp2_with (go_at_call 31; (with_reducible refine (LM.rjoin HC.out H67.out 0 3 rfl rfl (HVa.out.join Xm).fit HVb.out.fit).mono ?_); rintro e w68 ⟨A68, k68, rfl, hL⟩; have H68 := Aside0.mk hL; clear hL)
            refine ⟨(by first | exact fun _ => ⟨LM.cell H68.out 3 rfl 0 rfl, LM.cell H68.out 3 rfl 1 rfl, LM.cell H68.out 3 rfl 2 rfl, LM.cell H68.out 2 rfl 0 rfl, LM.cell H68.out 1 rfl 0 rfl⟩ | exact ⟨LM.cell H68.out 3 rfl 0 rfl, LM.cell H68.out 3 rfl 1 rfl, LM.cell H68.out 3 rfl 2 rfl, LM.cell H68.out 2 rfl 0 rfl, LM.cell H68.out 1 rfl 0 rfl⟩), ?_⟩
            refine HeldTill.next (j := 9) (n := 1) (by kernel_rfl) rfl ?_
            go_wp2
            have H69 := Aside0.mk (LM.newB H68.out #[.slice none 0 0] 39 (by unfold BoxT; decide))
            generalize w68.heap.size = pu at *
            generalize w68.alloc (.cells #[.slice none 0 0] 39) = w69 at *
            refine ⟨(by first | exact fun _ => ⟨LM.cell H69.out 4 rfl 0 rfl, LM.cell H69.out 4 rfl 1 rfl, LM.cell H69.out 4 rfl 2 rfl, LM.cell H69.out 3 rfl 0 rfl, LM.cell H69.out 2 rfl 0 rfl⟩ | exact ⟨LM.cell H69.out 4 rfl 0 rfl, LM.cell H69.out 4 rfl 1 rfl, LM.cell H69.out 4 rfl 2 rfl, LM.cell H69.out 3 rfl 0 rfl, LM.cell H69.out 2 rfl 0 rfl⟩), ?_⟩
            refine HeldTill.next (j := 10) (n := 0) (by kernel_rfl) rfl ?_
            have qc0 := LM.cell H69.out 0 rfl 0 rfl
            have qf0 := LM.free H69.out 0 rfl 0
            go_wp2
            have H70 : Aside0 (LM w (w69.setCell ⟨pu, 0, none⟩ (.slice A68 (joinM S W (joinM S W Xa Xm) Xb).length k68)) g l [(pu, #[.slice A68 (joinM S W (joinM S W Xa Xm) Xb).length k68], 39), (pj, #[.slice A63 (joinM S W Xa Xb).length k63], 39), (pb, #[.slice Ab Xb.length kb], 39), (pa, #[.slice Aa Xa.length ka], 39), (bc, #[.int .i64 S, .int .i64 W, .int .i64 L], 26)] [.s3 (.slice A68 (joinM S W (joinM S W Xa Xm) Xb).length k68) (joinM S W (joinM S W Xa Xm) Xb), .s3 (.slice A67 (joinM S W Xa Xm).length k67) (joinM S W Xa Xm), .s3 (.slice A66 Xm.length k66) Xm, .s3 (.slice A63 (joinM S W Xa Xb).length k63) (joinM S W Xa Xb), .s3 (.slice Ab Xb.length kb) Xb, .s3 (.slice Aa Xa.length ka) Xa]) := ⟨LM.put H69.out 0 rfl 0 (.slice A68 (joinM S W (joinM S W Xa Xm) Xb).length k68)⟩
            generalize (w69.setCell ⟨pu, 0, none⟩ (.slice A68 (joinM S W (joinM S W Xa Xm) Xb).length k68)) = w70 at *
            clear qc0 qf0
            refine ⟨(by first | exact fun _ => ⟨LM.cell H70.out 4 rfl 0 rfl, LM.cell H70.out 4 rfl 1 rfl, LM.cell H70.out 4 rfl 2 rfl, LM.cell H70.out 3 rfl 0 rfl, LM.cell H70.out 2 rfl 0 rfl⟩ | exact ⟨LM.cell H70.out 4 rfl 0 rfl, LM.cell H70.out 4 rfl 1 rfl, LM.cell H70.out 4 rfl 2 rfl, LM.cell H70.out 3 rfl 0 rfl, LM.cell H70.out 2 rfl 0 rfl⟩), ?_⟩
            refine ⟨by kernel_rfl, ?_⟩
            go_wp2_with fail
            go_meet
            case rel => exact ⟨_, _, _, _, rfl, ⟨HVXm.out, LM.drop H70.out (by simp +contextual)⟩⟩
          · skip
            go_wp2
            have H71 := Aside0.mk (LM.newB H67.out #[.slice none 0 0] 39 (by unfold BoxT; decide))
            generalize w67.heap.size = pu at *
            generalize w67.alloc (.cells #[.slice none 0 0] 39) = w71 at *
            refine ⟨(by first | exact fun _ => ⟨LM.cell H71.out 4 rfl 0 rfl, LM.cell H71.out 4 rfl 1 rfl, LM.cell H71.out 4 rfl 2 rfl, LM.cell H71.out 3 rfl 0 rfl, LM.cell H71.out 2 rfl 0 rfl⟩ | exact ⟨LM.cell H71.out 4 rfl 0 rfl, LM.cell H71.out 4 rfl 1 rfl, LM.cell H71.out 4 rfl 2 rfl, LM.cell H71.out 3 rfl 0 rfl, LM.cell H71.out 2 rfl 0 rfl⟩), ?_⟩
            refine HeldTill.next (j := 8) (n := 1) (by kernel_rfl) rfl ?_
            go_wp2_with (go_at_call 31; (with_reducible refine (LM.rjoin HC.out H71.out 0 3 rfl rfl (HVa.out.join Xm).fit HVb.out.fit).mono ?_); rintro e w72 ⟨A72, k72, rfl, hL⟩; have H72 := Aside0.mk hL; clear hL)
            refine ⟨(by first | exact fun _ => ⟨LM.cell H72.out 4 rfl 0 rfl, LM.cell H72.out 4 rfl 1 rfl, LM.cell H72.out 4 rfl 2 rfl, LM.cell H72.out 3 rfl 0 rfl, LM.cell H72.out 2 rfl 0 rfl⟩ | exact ⟨LM.cell H72.out 4 rfl 0 rfl, LM.cell H72.out 4 rfl 1 rfl, LM.cell H72.out 4 rfl 2 rfl, LM.cell H72.out 3 rfl 0 rfl, LM.cell H72.out 2 rfl 0 rfl⟩), ?_⟩
            refine HeldTill.next (j := 10) (n := 0) (by kernel_rfl) rfl ?_
            have qc0 := LM.cell H72.out 0 rfl 0 rfl
            have qf0 := LM.free H72.out 0 rfl 0
            go_wp2
            have H73 : Aside0 (LM w (w72.setCell ⟨pu, 0, none⟩ (.slice A72 (joinM S W (joinM S W Xa Xm) Xb).length k72)) g l [(pu, #[.slice A72 (joinM S W (joinM S W Xa Xm) Xb).length k72], 39), (pj, #[.slice A63 (joinM S W Xa Xb).length k63], 39), (pb, #[.slice Ab Xb.length kb], 39), (pa, #[.slice Aa Xa.length ka], 39), (bc, #[.int .i64 S, .int .i64 W, .int .i64 L], 26)] [.s3 (.slice A72 (joinM S W (joinM S W Xa Xm) Xb).length k72) (joinM S W (joinM S W Xa Xm) Xb), .s3 (.slice A67 (joinM S W Xa Xm).length k67) (joinM S W Xa Xm), .s3 (.slice A66 Xm.length k66) Xm, .s3 (.slice A63 (joinM S W Xa Xb).length k63) (joinM S W Xa Xb), .s3 (.slice Ab Xb.length kb) Xb, .s3 (.slice Aa Xa.length ka) Xa]) := ⟨LM.put H72.out 0 rfl 0 (.slice A72 (joinM S W (joinM S W Xa Xm) Xb).length k72)⟩
            generalize (w72.setCell ⟨pu, 0, none⟩ (.slice A72 (joinM S W (joinM S W Xa Xm) Xb).length k72)) = w73 at *
            clear qc0 qf0
            refine ⟨(by first | exact fun _ => ⟨LM.cell H73.out 4 rfl 0 rfl, LM.cell H73.out 4 rfl 1 rfl, LM.cell H73.out 4 rfl 2 rfl, LM.cell H73.out 3 rfl 0 rfl, LM.cell H73.out 2 rfl 0 rfl⟩ | exact ⟨LM.cell H73.out 4 rfl 0 rfl, LM.cell H73.out 4 rfl 1 rfl, LM.cell H73.out 4 rfl 2 rfl, LM.cell H73.out 3 rfl 0 rfl, LM.cell H73.out 2 rfl 0 rfl⟩), ?_⟩
            refine ⟨by kernel_rfl, ?_⟩
            go_wp2_with fail
            go_meet
            case rel => exact ⟨_, _, _, _, rfl, ⟨HVXm.out, LM.drop H73.out (by simp +contextual)⟩⟩
        · skip
          go_wp2
          have H74 := Aside0.mk (LM.newB H66.out #[.slice none 0 0] 39 (by unfold BoxT; decide))
          generalize w66.heap.size = pu at *
          generalize w66.alloc (.cells #[.slice none 0 0] 39) = w74 at *
          refine ⟨(by first | exact fun _ => ⟨LM.cell H74.out 4 rfl 0 rfl, LM.cell H74.out 4 rfl 1 rfl, LM.cell H74.out 4 rfl 2 rfl, LM.cell H74.out 3 rfl 0 rfl, LM.cell H74.out 2 rfl 0 rfl⟩ | exact ⟨LM.cell H74.out 4 rfl 0 rfl, LM.cell H74.out 4 rfl 1 rfl, LM.cell H74.out 4 rfl 2 rfl, LM.cell H74.out 3 rfl 0 rfl, LM.cell H74.out 2 rfl 0 rfl⟩), ?_⟩
          refine HeldTill.next (j := 6) (n := 2) (by kernel_rfl) rfl ?_
          go_wp2_with (go_at_call 31; (with_reducible refine (LM.rjoin HC.out H74.out 3 0 rfl rfl HVa.out.fit HVXm.out.fit).mono ?_); rintro e w75 ⟨A75, k75, rfl, hL⟩; have H75 := Aside0.mk hL; clear hL)
          refine ⟨(by first | exact fun _ => ⟨LM.cell H75.out 4 rfl 0 rfl, LM.cell H75.out 4 rfl 1 rfl, LM.cell H75.out 4 rfl 2 rfl, LM.cell H75.out 3 rfl 0 rfl, LM.cell H75.out 2 rfl 0 rfl⟩ | exact ⟨LM.cell H75.out 4 rfl 0 rfl, LM.cell H75.out 4 rfl 1 rfl, LM.cell H75.out 4 rfl 2 rfl, LM.cell H75.out 3 rfl 0 rfl, LM.cell H75.out 2 rfl 0 rfl⟩), ?_⟩
          refine HeldTill.next (j := 8) (n := 1) (by kernel_rfl) rfl ?_
          go_wp2_with (go_at_call 31; (with_reducible refine (LM.rjoin HC.out H75.out 0 3 rfl rfl (HVa.out.join Xm).fit HVb.out.fit).mono ?_); rintro e w76 ⟨A76, k76, rfl, hL⟩; have H76 := Aside0.mk hL; clear hL)
          refine ⟨(by first | exact fun _ => ⟨LM.cell H76.out 4 rfl 0 rfl, LM.cell H76.out 4 rfl 1 rfl, LM.cell H76.out 4 rfl 2 rfl, LM.cell H76.out 3 rfl 0 rfl, LM.cell H76.out 2 rfl 0 rfl⟩ | exact ⟨LM.cell H76.out 4 rfl 0 rfl, LM.cell H76.out 4 rfl 1 rfl, LM.cell H76.out 4 rfl 2 rfl, LM.cell H76.out 3 rfl 0 rfl, LM.cell H76.out 2 rfl 0 rfl⟩), ?_⟩
          refine HeldTill.next (j := 10) (n := 0) (by kernel_rfl) rfl ?_
          have qc0 := LM.cell H76.out 0 rfl 0 rfl
          have qf0 := LM.free H76.out 0 rfl 0
          go_wp2
          have H77 : Aside0 (LM w (w76.setCell ⟨pu, 0, none⟩ (.slice A76 (joinM S W (joinM S W Xa Xm) Xb).length k76)) g l [(pu, #[.slice A76 (joinM S W (joinM S W Xa Xm) Xb).length k76], 39), (pj, #[.slice A63 (joinM S W Xa Xb).length k63], 39), (pb, #[.slice Ab Xb.length kb], 39), (pa, #[.slice Aa Xa.length ka], 39), (bc, #[.int .i64 S, .int .i64 W, .int .i64 L], 26)] [.s3 (.slice A76 (joinM S W (joinM S W Xa Xm) Xb).length k76) (joinM S W (joinM S W Xa Xm) Xb), .s3 (.slice A75 (joinM S W Xa Xm).length k75) (joinM S W Xa Xm), .s3 (.slice A66 Xm.length k66) Xm, .s3 (.slice A63 (joinM S W Xa Xb).length k63) (joinM S W Xa Xb), .s3 (.slice Ab Xb.length kb) Xb, .s3 (.slice Aa Xa.length ka) Xa]) := ⟨LM.put H76.out 0 rfl 0 (.slice A76 (joinM S W (joinM S W Xa Xm) Xb).length k76)⟩
          generalize (w76.setCell ⟨pu, 0, none⟩ (.slice A76 (joinM S W (joinM S W Xa Xm) Xb).length k76)) = w77 at *
          clear qc0 qf0
          refine ⟨(by first | exact fun _ => ⟨LM.cell H77.out 4 rfl 0 rfl, LM.cell H77.out 4 rfl 1 rfl, LM.cell H77.out 4 rfl 2 rfl, LM.cell H77.out 3 rfl 0 rfl, LM.cell H77.out 2 rfl 0 rfl⟩ | exact ⟨LM.cell H77.out 4 rfl 0 rfl, LM.cell H77.out 4 rfl 1 rfl, LM.cell H77.out 4 rfl 2 rfl, LM.cell H77.out 3 rfl 0 rfl, LM.cell H77.out 2 rfl 0 rfl⟩), ?_⟩
          refine ⟨by kernel_rfl, ?_⟩
          go_wp2_with fail
          go_meet
          case rel => exact ⟨_, _, _, _, rfl, ⟨HVXm.out, LM.drop H77.out (by simp +contextual)⟩⟩
      · skip
        go_wp2
        have H78 := Aside0.mk (LM.newB H65.out #[.slice none 0 0] 39 (by unfold BoxT; decide))
        generalize w65.heap.size = pu at *
        generalize w65.alloc (.cells #[.slice none 0 0] 39) = w78 at *
        refine ⟨(by first | exact fun _ => ⟨LM.cell H78.out 4 rfl 0 rfl, LM.cell H78.out 4 rfl 1 rfl, LM.cell H78.out 4 rfl 2 rfl, LM.cell H78.out 3 rfl 0 rfl, LM.cell H78.out 2 rfl 0 rfl⟩ | exact ⟨LM.cell H78.out 4 rfl 0 rfl, LM.cell H78.out 4 rfl 1 rfl, LM.cell H78.out 4 rfl 2 rfl, LM.cell H78.out 3 rfl 0 rfl, LM.cell H78.out 2 rfl 0 rfl⟩), ?_⟩
        refine HeldTill.next (j := 5) (n := 3) (by kernel_rfl) rfl ?_
        go_wp2_with (go_at_call 22; (with_reducible refine (LM.must HC.out H78.out).mono ?_); rintro e w79 ⟨A79, k79, Xm, rfl, hV, hL⟩; have HVXm := Aside0.mk hV; have H79 := Aside0.mk hL; clear hV hL)
        refine ⟨(by first | exact fun _ => ⟨LM.cell H79.out 4 rfl 0 rfl, LM.cell H79.out 4 rfl 1 rfl, LM.cell H79.out 4 rfl 2 rfl, LM.cell H79.out 3 rfl 0 rfl, LM.cell H79.out 2 rfl 0 rfl⟩ | exact ⟨LM.cell H79.out 4 rfl 0 rfl, LM.cell H79.out 4 rfl 1 rfl, LM.cell H79.out 4 rfl 2 rfl, LM.cell H79.out 3 rfl 0 rfl, LM.cell H79.out 2 rfl 0 rfl⟩), ?_⟩
        refine HeldTill.next (j := 6) (n := 2) (by kernel_rfl) rfl ?_
        go_wp2_with (go_at_call 31; (with_reducible refine (LM.rjoin HC.out H79.out 3 0 rfl rfl HVa.out.fit HVXm.out.fit).mono ?_); rintro e w80 ⟨A80, k80, rfl, hL⟩; have H80 := Aside0.mk hL; clear hL)
        refine ⟨(by first | exact fun _ => ⟨LM.cell H80.out 4 rfl 0 rfl, LM.cell H80.out 4 rfl 1 rfl, LM.cell H80.out 4 rfl 2 rfl, LM.cell H80.out 3 rfl 0 rfl, LM.cell H80.out 2 rfl 0 rfl⟩ | exact ⟨LM.cell H80.out 4 rfl 0 rfl, LM.cell H80.out 4 rfl 1 rfl, LM.cell H80.out 4 rfl 2 rfl, LM.cell H80.out 3 rfl 0 rfl, LM.cell H80.out 2 rfl 0 rfl⟩), ?_⟩
        refine HeldTill.next (j := 8) (n := 1) (by kernel_rfl) rfl ?_
        go_wp2_with (go_at_call 31; (with_reducible refine (LM.rjoin HC.out H80.out 0 3 rfl rfl (HVa.out.join Xm).fit HVb.out.fit).mono ?_); rintro e w81 ⟨A81, k81, rfl, hL⟩; have H81 := Aside0.mk hL; clear hL)
        refine ⟨(by first | exact fun _ => ⟨LM.cell H81.out 4 rfl 0 rfl, LM.cell H81.out 4 rfl 1 rfl, LM.cell H81.out 4 rfl 2 rfl, LM.cell H81.out 3 rfl 0 rfl, LM.cell H81.out 2 rfl 0 rfl⟩ | exact ⟨LM.cell H81.out 4 rfl 0 rfl, LM.cell H81.out 4 rfl 1 rfl, LM.cell H81.out 4 rfl 2 rfl, LM.cell H81.out 3 rfl 0 rfl, LM.cell H81.out 2 rfl 0 rfl⟩), ?_⟩
        refine HeldTill.next (j := 10) (n := 0) (by kernel_rfl) rfl ?_
        have qc0 := LM.cell H81.out 0 rfl 0 rfl
        have qf0 := LM.free H81.out 0 rfl 0
        go_wp2
        have H82 : Aside0 (LM w (w81.setCell ⟨pu, 0, none⟩ (.slice A81 (joinM S W (joinM S W Xa Xm) Xb).length k81)) g l [(pu, #[.slice A81 (joinM S W (joinM S W Xa Xm) Xb).length k81], 39), (pj, #[.slice A63 (joinM S W Xa Xb).length k63], 39), (pb, #[.slice Ab Xb.length kb], 39), (pa, #[.slice Aa Xa.length ka], 39), (bc, #[.int .i64 S, .int .i64 W, .int .i64 L], 26)] [.s3 (.slice A81 (joinM S W (joinM S W Xa Xm) Xb).length k81) (joinM S W (joinM S W Xa Xm) Xb), .s3 (.slice A80 (joinM S W Xa Xm).length k80) (joinM S W Xa Xm), .s3 (.slice A79 Xm.length k79) Xm, .s3 (.slice A63 (joinM S W Xa Xb).length k63) (joinM S W Xa Xb), .s3 (.slice Ab Xb.length kb) Xb, .s3 (.slice Aa Xa.length ka) Xa]) := ⟨LM.put H81.out 0 rfl 0 (.slice A81 (joinM S W (joinM S W Xa Xm) Xb).length k81)⟩
        generalize (w81.setCell ⟨pu, 0, none⟩ (.slice A81 (joinM S W (joinM S W Xa Xm) Xb).length k81)) = w82 at *
        clear qc0 qf0
        refine ⟨(by first | exact fun _ => ⟨LM.cell H82.out 4 rfl 0 rfl, LM.cell H82.out 4 rfl 1 rfl, LM.cell H82.out 4 rfl 2 rfl, LM.cell H82.out 3 rfl 0 rfl, LM.cell H82.out 2 rfl 0 rfl⟩ | exact ⟨LM.cell H82.out 4 rfl 0 rfl, LM.cell H82.out 4 rfl 1 rfl, LM.cell H82.out 4 rfl 2 rfl, LM.cell H82.out 3 rfl 0 rfl, LM.cell H82.out 2 rfl 0 rfl⟩), ?_⟩
        refine ⟨by kernel_rfl, ?_⟩
        go_wp2_with fail
        go_meet
        case rel => exact ⟨_, _, _, _, rfl, ⟨HVXm.out, LM.drop H82.out (by simp +contextual)⟩⟩
    case rest =>
      obtain ⟨pu, Au, ku, Xm, rfl, HE⟩ := hcut
      have HVm := Aside0.mk HE.out.1
      have Hr9 := Aside0.mk HE.out.2
      have HVu := Aside0.mk ((HVa.out.join Xm).join Xb)
      have HB1 := Aside0.mk (Le.bel HVa.out HVj.out (le_join1 HVa.out HVb.out))
      have HB2 := Aside0.mk (Le.bel HVb.out HVj.out (le_join2 HVa.out HVb.out))
      have HB3 := Aside0.mk (Le.bel HVj.out HVu.out (le_join3 HVa.out HVb.out HVm.out))
      have HB4 := Aside0.mk (bel_top S W (joinM S W Xa Xb))
      have HVt := Aside0.mk (Val.top S W)
      have HES := Aside0.mk (join_self HVa.out)
      have HEC := Aside0.mk (join_comm HVa.out HVb.out)
      clear HE HVm H64
      have haa := Aside0.mk (fun (Tx : List Th) (i : Nat) (A : Option Addr) (k : Nat) (w1 : World) Bx (hL : LM w w1 g l Bx Tx) (hi : Tx[i]? = some (.s3 (.slice A Xa.length k) Xa)) => (show Calls Try.prog 34 #[.agg #[.int .i64 S, .int .i64 W, .int .i64 L], .agg #[.slice A Xa.length k], .agg #[.slice A Xa.length k]] w1 (fun e w' => ∃ A' k', e = .returned (.agg #[.slice A' Xa.length k']) ∧ LM w w' g l Bx (.s3 (.slice A' Xa.length k') Xa :: Tx)) from (by have h3 := LM.join HC.out hL i i hi hi HVa.out.fit HVa.out.fit; rw [HES.out] at h3; exact h3)))
      have hba := Aside0.mk (fun (Tx : List Th) (i j : Nat) (A B : Option Addr) (k m : Nat) (w1 : World) Bx (hL : LM w w1 g l Bx Tx) (hi : Tx[i]? = some (.s3 (.slice A Xb.length k) Xb)) (hj : Tx[j]? = some (.s3 (.slice B Xa.length m) Xa)) => (show Calls Try.prog 34 #[.agg #[.int .i64 S, .int .i64 W, .int .i64 L], .agg #[.slice A Xb.length k], .agg #[.slice B Xa.length m]] w1 (fun e w' => ∃ A' k', e = .returned (.agg #[.slice A' (joinM S W Xa Xb).length k']) ∧ LM w w' g l Bx (.s3 (.slice A' (joinM S W Xa Xb).length k') (joinM S W Xa Xb) :: Tx)) from (by have h3 := LM.join HC.out hL i j hi hj HVb.out.fit HVa.out.fit; rw [HEC.out] at h3; exact h3)))
      clear HES HEC
      generalize (joinM S W (joinM S W Xa Xm) Xb) = Xu at *
      generalize joinM S W Xa Xb = Xj at *
      have hfd := field39
      go_upto_region 6 with (fail)
      have Hd := Aside0.mk (LM.drew Hr9.out)
      refine HeldTill.begin_ (S := fun (w' : World) => w'.cell? ⟨bc, 0, none⟩ = some (.int .i64 S) ∧ w'.cell? ⟨bc, 1, none⟩ = some (.int .i64 W) ∧ w'.cell? ⟨bc, 2, none⟩ = some (.int .i64 L) ∧ w'.cell? ⟨pa, 0, none⟩ = some (.slice Aa Xa.length ka) ∧ w'.cell? ⟨pb, 0, none⟩ = some (.slice Ab Xb.length kb) ∧ w'.cell? ⟨pj, 0, none⟩ = some (.slice A63 Xj.length k63) ∧ w'.cell? ⟨pu, 0, none⟩ = some (.slice Au Xu.length ku)) (F := fun _ => true) (by kernel_rfl) ?_
      have hSq0 : (fun (w' : World) => w'.cell? ⟨bc, 0, none⟩ = some (.int .i64 S) ∧ w'.cell? ⟨bc, 1, none⟩ = some (.int .i64 W) ∧ w'.cell? ⟨bc, 2, none⟩ = some (.int .i64 L) ∧ w'.cell? ⟨pa, 0, none⟩ = some (.slice Aa Xa.length ka) ∧ w'.cell? ⟨pb, 0, none⟩ = some (.slice Ab Xb.length kb) ∧ w'.cell? ⟨pj, 0, none⟩ = some (.slice A63 Xj.length k63) ∧ w'.cell? ⟨pu, 0, none⟩ = some (.slice Au Xu.length ku)) wc.drew := ⟨LM.cell Hd.out 4 rfl 0 rfl, LM.cell Hd.out 4 rfl 1 rfl, LM.cell Hd.out 4 rfl 2 rfl, LM.cell Hd.out 3 rfl 0 rfl, LM.cell Hd.out 2 rfl 0 rfl, LM.cell Hd.out 1 rfl 0 rfl, LM.cell Hd.out 0 rfl 0 rfl⟩
      refine HeldTill.take (i := 0) (n := 46) (v := ?_) rfl (by kernel_rfl) (by kernel_rfl) (by kernel_rfl) (by kernel_rfl) (fun _ _ _ h => h) (Or.inl ⟨by rfl, ?_⟩) hSq0 ?_
      rotate_left
      · intro w hSw; (try dsimp only at hSw); go_simp; (try with_reducible rfl)
      simp only [Act.put, List.setIfInBounds_toArray, List.set_cons_zero, List.set_cons_succ, List.getElem_toArray, List.getElem_cons_zero, List.getElem_cons_succ]
      refine HeldTill.take (i := 1) (n := 45) (v := ?_) rfl (by kernel_rfl) (by kernel_rfl) (by kernel_rfl) (by kernel_rfl) (fun _ _ _ h => h) (Or.inl ⟨by rfl, ?_⟩) hSq0 ?_
      rotate_left
      · intro w hSw; (try dsimp only at hSw); go_simp; (try with_reducible rfl)
      simp only [Act.put, List.setIfInBounds_toArray, List.set_cons_zero, List.set_cons_succ, List.getElem_toArray, List.getElem_cons_zero, List.getElem_cons_succ]
      refine HeldTill.take (i := 2) (n := 44) (v := ?_) rfl (by kernel_rfl) (by kernel_rfl) (by kernel_rfl) (by kernel_rfl) (fun _ _ _ h => h) (Or.inl ⟨by rfl, ?_⟩) hSq0 ?_
      rotate_left
      · intro w hSw; (try dsimp only at hSw); go_simp; (try with_reducible rfl)
      simp only [Act.put, List.setIfInBounds_toArray, List.set_cons_zero, List.set_cons_succ, List.getElem_toArray, List.getElem_cons_zero, List.getElem_cons_succ]
      refine HeldTill.next (j := 3) (n := 43) (by kernel_rfl) rfl ?_
      go_wp2_with (go_at_call 32; (with_reducible refine (LM.bel HC.out Hd.out 3 1 rfl rfl HVa.out.fit HVj.out.fit HB1.out).mono ?_); rintro e w83 ⟨rfl, hL⟩; have H83 := Aside0.mk hL; clear hL)
      have hSq1 : (fun (w' : World) => w'.cell? ⟨bc, 0, none⟩ = some (.int .i64 S) ∧ w'.cell? ⟨bc, 1, none⟩ = some (.int .i64 W) ∧ w'.cell? ⟨bc, 2, none⟩ = some (.int .i64 L) ∧ w'.cell? ⟨pa, 0, none⟩ = some (.slice Aa Xa.length ka) ∧ w'.cell? ⟨pb, 0, none⟩ = some (.slice Ab Xb.length kb) ∧ w'.cell? ⟨pj, 0, none⟩ = some (.slice A63 Xj.length k63) ∧ w'.cell? ⟨pu, 0, none⟩ = some (.slice Au Xu.length ku)) _ := ⟨LM.cell H83.out 4 rfl 0 rfl, LM.cell H83.out 4 rfl 1 rfl, LM.cell H83.out 4 rfl 2 rfl, LM.cell H83.out 3 rfl 0 rfl, LM.cell H83.out 2 rfl 0 rfl, LM.cell H83.out 1 rfl 0 rfl, LM.cell H83.out 0 rfl 0 rfl⟩
      refine ⟨fun _ => hSq1, ?_⟩
      refine HeldTill.take (i := 4) (n := 42) (v := ?_) rfl (by kernel_rfl) (by kernel_rfl) (by kernel_rfl) (by kernel_rfl) (fun _ _ _ h => h) (Or.inl ⟨by rfl, ?_⟩) hSq1 ?_
      rotate_left
      · intro w hSw; (try dsimp only at hSw); go_simp; (try with_reducible rfl)
      simp only [Act.put, List.setIfInBounds_toArray, List.set_cons_zero, List.set_cons_succ, List.getElem_toArray, List.getElem_cons_zero, List.getElem_cons_succ]
      refine HeldTill.take (i := 5) (n := 41) (v := ?_) rfl (by kernel_rfl) (by kernel_rfl) (by kernel_rfl) (by kernel_rfl) (fun _ _ _ h => h) (Or.inl ⟨by rfl, ?_⟩) hSq1 ?_
      rotate_left
      · intro w hSw; (try dsimp only at hSw); go_simp; (try with_reducible rfl)
      simp only [Act.put, List.setIfInBounds_toArray, List.set_cons_zero, List.set_cons_succ, List.getElem_toArray, List.getElem_cons_zero, List.getElem_cons_succ]
      refine HeldTill.take (i := 6) (n := 40) (v := ?_) rfl (by kernel_rfl) (by kernel_rfl) (by kernel_rfl) (by kernel_rfl) (fun _ _ _ h => h) (Or.inl ⟨by rfl, ?_⟩) hSq1 ?_
      rotate_left
      · intro w hSw; (try dsimp only at hSw); go_simp; (try with_reducible rfl)
      simp only [Act.put, List.setIfInBounds_toArray, List.set_cons_zero, List.set_cons_succ, List.getElem_toArray, List.getElem_cons_zero, List.getElem_cons_succ]
      refine HeldTill.take (i := 7) (n := 39) (v := ?_) rfl (by kernel_rfl) (by kernel_rfl) (by kernel_rfl) (by kernel_rfl) (fun _ _ _ h => h) (Or.inl ⟨by rfl, ?_⟩) hSq1 ?_
      rotate_left
      · intro w hSw; (try dsimp only at hSw); go_simp; (try with_reducible rfl)
      simp only [Act.put, List.setIfInBounds_toArray, List.set_cons_zero, List.set_cons_succ, List.getElem_toArray, List.getElem_cons_zero, List.getElem_cons_succ]
      refine HeldTill.next (j := 8) (n := 38) (by kernel_rfl) rfl ?_
      go_wp2_with (go_at_call 32; (with_reducible refine (LM.bel HC.out H83.out 2 1 rfl rfl HVb.out.fit HVj.out.fit HB2.out).mono ?_); rintro e w84 ⟨rfl, hL⟩; have H84 := Aside0.mk hL; clear hL)
      have hSq2 : (fun (w' : World) => w'.cell? ⟨bc, 0, none⟩ = some (.int .i64 S) ∧ w'.cell? ⟨bc, 1, none⟩ = some (.int .i64 W) ∧ w'.cell? ⟨bc, 2, none⟩ = some (.int .i64 L) ∧ w'.cell? ⟨pa, 0, none⟩ = some (.slice Aa Xa.length ka) ∧ w'.cell? ⟨pb, 0, none⟩ = some (.slice Ab Xb.length kb) ∧ w'.cell? ⟨pj, 0, none⟩ = some (.slice A63 Xj.length k63) ∧ w'.cell? ⟨pu, 0, none⟩ = some (.slice Au Xu.length ku)) _ := ⟨LM.cell H84.out 4 rfl 0 rfl, LM.cell H84.out 4 rfl 1 rfl, LM.cell H84.out 4 rfl 2 rfl, LM.cell H84.out 3 rfl 0 rfl, LM.cell H84.out 2 rfl 0 rfl, LM.cell H84.out 1 rfl 0 rfl, LM.cell H84.out 0 rfl 0 rfl⟩
      refine ⟨fun _ => hSq2, ?_⟩
      refine HeldTill.take (i := 9) (n := 37) (v := ?_) rfl (by kernel_rfl) (by kernel_rfl) (by kernel_rfl) (by kernel_rfl) (fun _ _ _ h => h) (Or.inl ⟨by rfl, ?_⟩) hSq2 ?_
      rotate_left
      · intro w hSw; (try dsimp only at hSw); go_simp; (try with_reducible rfl)
      simp only [Act.put, List.setIfInBounds_toArray, List.set_cons_zero, List.set_cons_succ, List.getElem_toArray, List.getElem_cons_zero, List.getElem_cons_succ]
      refine HeldTill.take (i := 10) (n := 36) (v := ?_) rfl (by kernel_rfl) (by kernel_rfl) (by kernel_rfl) (by kernel_rfl) (fun _ _ _ h => h) (Or.inl ⟨by rfl, ?_⟩) hSq2 ?_
      rotate_left
      · intro w hSw; (try dsimp only at hSw); go_simp; (try with_reducible rfl)
      simp only [Act.put, List.setIfInBounds_toArray, List.set_cons_zero, List.set_cons_succ, List.getElem_toArray, List.getElem_cons_zero, List.getElem_cons_succ]
      refine HeldTill.take (i := 11) (n := 35) (v := ?_) rfl (by kernel_rfl) (by kernel_rfl) (by kernel_rfl) (by kernel_rfl) (fun _ _ _ h => h) (Or.inl ⟨by rfl, ?_⟩) hSq2 ?_
      rotate_left
      · intro w hSw; (try dsimp only at hSw); go_simp; (try with_reducible rfl)
      simp only [Act.put, List.setIfInBounds_toArray, List.set_cons_zero, List.set_cons_succ, List.getElem_toArray, List.getElem_cons_zero, List.getElem_cons_succ]
      refine HeldTill.take (i := 12) (n := 34) (v := ?_) rfl (by kernel_rfl) (by kernel_rfl) (by kernel_rfl) (by kernel_rfl) (fun _ _ _ h => h) (Or.inl ⟨by rfl, ?_⟩) hSq2 ?_
      rotate_left
      · intro w hSw; (try dsimp only at hSw); go_simp; (try with_reducible rfl)
      simp only [Act.put, List.setIfInBounds_toArray, List.set_cons_zero, List.set_cons_succ, List.getElem_toArray, List.getElem_cons_zero, List.getElem_cons_succ]
      refine HeldTill.take (i := 13) (n := 33) (v := ?_) rfl (by kernel_rfl) (by kernel_rfl) (by kernel_rfl) (by kernel_rfl) (fun _ _ _ h => h) (Or.inl ⟨by rfl, ?_⟩) hSq2 ?_
      rotate_left
      · intro w hSw; (try dsimp only at hSw); go_simp; (try with_reducible rfl)
      simp only [Act.put, List.setIfInBounds_toArray, List.set_cons_zero, List.set_cons_succ, List.getElem_toArray, List.getElem_cons_zero, List.getElem_cons_succ]
      refine HeldTill.next (j := 14) (n := 32) (by kernel_rfl) rfl ?_
      go_wp2_with (go_at_call 32; (with_reducible refine (LM.bel HC.out H84.out 1 0 rfl rfl HVj.out.fit HVu.out.fit HB3.out).mono ?_); rintro e w85 ⟨rfl, hL⟩; have H85 := Aside0.mk hL; clear hL)
      have hSq3 : (fun (w' : World) => w'.cell? ⟨bc, 0, none⟩ = some (.int .i64 S) ∧ w'.cell? ⟨bc, 1, none⟩ = some (.int .i64 W) ∧ w'.cell? ⟨bc, 2, none⟩ = some (.int .i64 L) ∧ w'.cell? ⟨pa, 0, none⟩ = some (.slice Aa Xa.length ka) ∧ w'.cell? ⟨pb, 0, none⟩ = some (.slice Ab Xb.length kb) ∧ w'.cell? ⟨pj, 0, none⟩ = some (.slice A63 Xj.length k63) ∧ w'.cell? ⟨pu, 0, none⟩ = some (.slice Au Xu.length ku)) _ := ⟨LM.cell H85.out 4 rfl 0 rfl, LM.cell H85.out 4 rfl 1 rfl, LM.cell H85.out 4 rfl 2 rfl, LM.cell H85.out 3 rfl 0 rfl, LM.cell H85.out 2 rfl 0 rfl, LM.cell H85.out 1 rfl 0 rfl, LM.cell H85.out 0 rfl 0 rfl⟩
      refine ⟨fun _ => hSq3, ?_⟩
      refine HeldTill.take (i := 15) (n := 31) (v := ?_) rfl (by kernel_rfl) (by kernel_rfl) (by kernel_rfl) (by kernel_rfl) (fun _ _ _ h => h) (Or.inl ⟨by rfl, ?_⟩) hSq3 ?_
      rotate_left
      · intro w hSw; (try dsimp only at hSw); go_simp; (try with_reducible rfl)
      simp only [Act.put, List.setIfInBounds_toArray, List.set_cons_zero, List.set_cons_succ, List.getElem_toArray, List.getElem_cons_zero, List.getElem_cons_succ]
      refine HeldTill.take (i := 16) (n := 30) (v := ?_) rfl (by kernel_rfl) (by kernel_rfl) (by kernel_rfl) (by kernel_rfl) (fun _ _ _ h => h) (Or.inl ⟨by rfl, ?_⟩) hSq3 ?_
      rotate_left
      · intro w hSw; (try dsimp only at hSw); go_simp; (try with_reducible rfl)
      simp only [Act.put, List.setIfInBounds_toArray, List.set_cons_zero, List.set_cons_succ, List.getElem_toArray, List.getElem_cons_zero, List.getElem_cons_succ]
      refine HeldTill.take (i := 17) (n := 29) (v := ?_) rfl (by kernel_rfl) (by kernel_rfl) (by kernel_rfl) (by kernel_rfl) (fun _ _ _ h => h) (Or.inl ⟨by rfl, ?_⟩) hSq3 ?_
      rotate_left
      · intro w hSw; (try dsimp only at hSw); go_simp; (try with_reducible rfl)
      simp only [Act.put, List.setIfInBounds_toArray, List.set_cons_zero, List.set_cons_succ, List.getElem_toArray, List.getElem_cons_zero, List.getElem_cons_succ]
      refine HeldTill.take (i := 18) (n := 28) (v := ?_) rfl (by kernel_rfl) (by kernel_rfl) (by kernel_rfl) (by kernel_rfl) (fun _ _ _ h => h) (Or.inl ⟨by rfl, ?_⟩) hSq3 ?_
      rotate_left
      · intro w hSw; (try dsimp only at hSw); go_simp; (try with_reducible rfl)
      simp only [Act.put, List.setIfInBounds_toArray, List.set_cons_zero, List.set_cons_succ, List.getElem_toArray, List.getElem_cons_zero, List.getElem_cons_succ]
      refine HeldTill.take (i := 19) (n := 27) (v := ?_) rfl (by kernel_rfl) (by kernel_rfl) (by kernel_rfl) (by kernel_rfl) (fun _ _ _ h => h) (Or.inl ⟨by rfl, ?_⟩) hSq3 ?_
      rotate_left
      · intro w hSw; (try dsimp only at hSw); go_simp; (try with_reducible rfl)
      simp only [Act.put, List.setIfInBounds_toArray, List.set_cons_zero, List.set_cons_succ, List.getElem_toArray, List.getElem_cons_zero, List.getElem_cons_succ]
      refine HeldTill.next (j := 20) (n := 26) (by kernel_rfl) rfl ?_
      go_wp2_with (go_at_call 35; (with_reducible refine (LM.mtop HC.out H85.out).mono ?_); rintro e w86 ⟨A86, k86, rfl, hL⟩; have H86 := Aside0.mk hL; clear hL)
      have hSq4 : (fun (w' : World) => w'.cell? ⟨bc, 0, none⟩ = some (.int .i64 S) ∧ w'.cell? ⟨bc, 1, none⟩ = some (.int .i64 W) ∧ w'.cell? ⟨bc, 2, none⟩ = some (.int .i64 L) ∧ w'.cell? ⟨pa, 0, none⟩ = some (.slice Aa Xa.length ka) ∧ w'.cell? ⟨pb, 0, none⟩ = some (.slice Ab Xb.length kb) ∧ w'.cell? ⟨pj, 0, none⟩ = some (.slice A63 Xj.length k63) ∧ w'.cell? ⟨pu, 0, none⟩ = some (.slice Au Xu.length ku)) _ := ⟨LM.cell H86.out 4 rfl 0 rfl, LM.cell H86.out 4 rfl 1 rfl, LM.cell H86.out 4 rfl 2 rfl, LM.cell H86.out 3 rfl 0 rfl, LM.cell H86.out 2 rfl 0 rfl, LM.cell H86.out 1 rfl 0 rfl, LM.cell H86.out 0 rfl 0 rfl⟩
      refine ⟨fun _ => hSq4, ?_⟩
      refine HeldTill.next (j := 21) (n := 25) (by kernel_rfl) rfl ?_
      go_wp2_with (go_at_call 32; (with_reducible refine (LM.bel HC.out H86.out 2 0 rfl rfl HVj.out.fit HVt.out.fit HB4.out).mono ?_); rintro e w87 ⟨rfl, hL⟩; have H87 := Aside0.mk hL; clear hL)
      have hSq5 : (fun (w' : World) => w'.cell? ⟨bc, 0, none⟩ = some (.int .i64 S) ∧ w'.cell? ⟨bc, 1, none⟩ = some (.int .i64 W) ∧ w'.cell? ⟨bc, 2, none⟩ = some (.int .i64 L) ∧ w'.cell? ⟨pa, 0, none⟩ = some (.slice Aa Xa.length ka) ∧ w'.cell? ⟨pb, 0, none⟩ = some (.slice Ab Xb.length kb) ∧ w'.cell? ⟨pj, 0, none⟩ = some (.slice A63 Xj.length k63) ∧ w'.cell? ⟨pu, 0, none⟩ = some (.slice Au Xu.length ku)) _ := ⟨LM.cell H87.out 4 rfl 0 rfl, LM.cell H87.out 4 rfl 1 rfl, LM.cell H87.out 4 rfl 2 rfl, LM.cell H87.out 3 rfl 0 rfl, LM.cell H87.out 2 rfl 0 rfl, LM.cell H87.out 1 rfl 0 rfl, LM.cell H87.out 0 rfl 0 rfl⟩
      refine ⟨fun _ => hSq5, ?_⟩
      refine HeldTill.take (i := 22) (n := 24) (v := ?_) rfl (by kernel_rfl) (by kernel_rfl) (by kernel_rfl) (by kernel_rfl) (fun _ _ _ h => h) (Or.inl ⟨by rfl, ?_⟩) hSq5 ?_
      rotate_left
      · intro w hSw; (try dsimp only at hSw); go_simp; (try with_reducible rfl)
      simp only [Act.put, List.setIfInBounds_toArray, List.set_cons_zero, List.set_cons_succ, List.getElem_toArray, List.getElem_cons_zero, List.getElem_cons_succ]
      refine HeldTill.take (i := 23) (n := 23) (v := ?_) rfl (by kernel_rfl) (by kernel_rfl) (by kernel_rfl) (by kernel_rfl) (fun _ _ _ h => h) (Or.inl ⟨by rfl, ?_⟩) hSq5 ?_
      rotate_left
      · intro w hSw; (try dsimp only at hSw); go_simp; (try with_reducible rfl)
      simp only [Act.put, List.setIfInBounds_toArray, List.set_cons_zero, List.set_cons_succ, List.getElem_toArray, List.getElem_cons_zero, List.getElem_cons_succ]
      refine HeldTill.take (i := 24) (n := 22) (v := ?_) rfl (by kernel_rfl) (by kernel_rfl) (by kernel_rfl) (by kernel_rfl) (fun _ _ _ h => h) (Or.inl ⟨by rfl, ?_⟩) hSq5 ?_
      rotate_left
      · intro w hSw; (try dsimp only at hSw); go_simp; (try with_reducible rfl)
      simp only [Act.put, List.setIfInBounds_toArray, List.set_cons_zero, List.set_cons_succ, List.getElem_toArray, List.getElem_cons_zero, List.getElem_cons_succ]
      refine HeldTill.take (i := 25) (n := 21) (v := ?_) rfl (by kernel_rfl) (by kernel_rfl) (by kernel_rfl) (by kernel_rfl) (fun _ _ _ h => h) (Or.inl ⟨by rfl, ?_⟩) hSq5 ?_
      rotate_left
      · intro w hSw; (try dsimp only at hSw); go_simp; (try with_reducible rfl)
      simp only [Act.put, List.setIfInBounds_toArray, List.set_cons_zero, List.set_cons_succ, List.getElem_toArray, List.getElem_cons_zero, List.getElem_cons_succ]
      refine HeldTill.take (i := 26) (n := 20) (v := ?_) rfl (by kernel_rfl) (by kernel_rfl) (by kernel_rfl) (by kernel_rfl) (fun _ _ _ h => h) (Or.inl ⟨by rfl, ?_⟩) hSq5 ?_
      rotate_left
      · intro w hSw; (try dsimp only at hSw); go_simp; (try with_reducible rfl)
      simp only [Act.put, List.setIfInBounds_toArray, List.set_cons_zero, List.set_cons_succ, List.getElem_toArray, List.getElem_cons_zero, List.getElem_cons_succ]
      refine HeldTill.take (i := 29) (n := 19) (v := ?_) rfl (by kernel_rfl) (by kernel_rfl) (by kernel_rfl) (by kernel_rfl) (fun _ _ _ h => h) (Or.inl ⟨by rfl, ?_⟩) hSq5 ?_
      rotate_left
      · intro w hSw; (try dsimp only at hSw); go_simp; (try with_reducible rfl)
      simp only [Act.put, List.setIfInBounds_toArray, List.set_cons_zero, List.set_cons_succ, List.getElem_toArray, List.getElem_cons_zero, List.getElem_cons_succ]
      refine HeldTill.take (i := 30) (n := 18) (v := ?_) rfl (by kernel_rfl) (by kernel_rfl) (by kernel_rfl) (by kernel_rfl) (fun _ _ _ h => h) (Or.inl ⟨by rfl, ?_⟩) hSq5 ?_
      rotate_left
      · intro w hSw; (try dsimp only at hSw); go_simp; (try with_reducible rfl)
      simp only [Act.put, List.setIfInBounds_toArray, List.set_cons_zero, List.set_cons_succ, List.getElem_toArray, List.getElem_cons_zero, List.getElem_cons_succ]
      refine HeldTill.next (j := 27) (n := 17) (by kernel_rfl) rfl ?_
      go_wp2_with (go_at_call 34; (with_reducible refine (haa.out _ 4 _ _ _ _ H87.out rfl).mono ?_); rintro e w88 ⟨A88, k88, rfl, hL⟩; have H88 := Aside0.mk hL; clear hL)
      have hSq6 : (fun (w' : World) => w'.cell? ⟨bc, 0, none⟩ = some (.int .i64 S) ∧ w'.cell? ⟨bc, 1, none⟩ = some (.int .i64 W) ∧ w'.cell? ⟨bc, 2, none⟩ = some (.int .i64 L) ∧ w'.cell? ⟨pa, 0, none⟩ = some (.slice Aa Xa.length ka) ∧ w'.cell? ⟨pb, 0, none⟩ = some (.slice Ab Xb.length kb) ∧ w'.cell? ⟨pj, 0, none⟩ = some (.slice A63 Xj.length k63) ∧ w'.cell? ⟨pu, 0, none⟩ = some (.slice Au Xu.length ku)) _ := ⟨LM.cell H88.out 4 rfl 0 rfl, LM.cell H88.out 4 rfl 1 rfl, LM.cell H88.out 4 rfl 2 rfl, LM.cell H88.out 3 rfl 0 rfl, LM.cell H88.out 2 rfl 0 rfl, LM.cell H88.out 1 rfl 0 rfl, LM.cell H88.out 0 rfl 0 rfl⟩
      refine ⟨fun _ => hSq6, ?_⟩
      refine HeldTill.take (i := 28) (n := 16) (v := ?_) rfl (by kernel_rfl) (by kernel_rfl) (by kernel_rfl) (by kernel_rfl) (fun _ _ _ h => h) (Or.inl ⟨by rfl, ?_⟩) hSq6 ?_
      rotate_left
      · intro w hSw; (try dsimp only at hSw); go_simp; (try with_reducible rfl)
      simp only [Act.put, List.setIfInBounds_toArray, List.set_cons_zero, List.set_cons_succ, List.getElem_toArray, List.getElem_cons_zero, List.getElem_cons_succ]
      refine HeldTill.next (j := 31) (n := 15) (by kernel_rfl) rfl ?_
      go_wp2_with (go_at_call 33; (with_reducible refine (LM.same H88.out 0 5 rfl rfl HVa.out.fit hS8 hW4).mono ?_); rintro e w89 ⟨rfl, hL⟩; have H89 := Aside0.mk hL; clear hL)
      have hSq7 : (fun (w' : World) => w'.cell? ⟨bc, 0, none⟩ = some (.int .i64 S) ∧ w'.cell? ⟨bc, 1, none⟩ = some (.int .i64 W) ∧ w'.cell? ⟨bc, 2, none⟩ = some (.int .i64 L) ∧ w'.cell? ⟨pa, 0, none⟩ = some (.slice Aa Xa.length ka) ∧ w'.cell? ⟨pb, 0, none⟩ = some (.slice Ab Xb.length kb) ∧ w'.cell? ⟨pj, 0, none⟩ = some (.slice A63 Xj.length k63) ∧ w'.cell? ⟨pu, 0, none⟩ = some (.slice Au Xu.length ku)) _ := ⟨LM.cell H89.out 4 rfl 0 rfl, LM.cell H89.out 4 rfl 1 rfl, LM.cell H89.out 4 rfl 2 rfl, LM.cell H89.out 3 rfl 0 rfl, LM.cell H89.out 2 rfl 0 rfl, LM.cell H89.out 1 rfl 0 rfl, LM.cell H89.out 0 rfl 0 rfl⟩
      refine ⟨fun _ => hSq7, ?_⟩
      refine HeldTill.take (i := 32) (n := 14) (v := ?_) rfl (by kernel_rfl) (by kernel_rfl) (by kernel_rfl) (by kernel_rfl) (fun _ _ _ h => h) (Or.inl ⟨by rfl, ?_⟩) hSq7 ?_
      rotate_left
      · intro w hSw; (try dsimp only at hSw); go_simp; (try with_reducible rfl)
      simp only [Act.put, List.setIfInBounds_toArray, List.set_cons_zero, List.set_cons_succ, List.getElem_toArray, List.getElem_cons_zero, List.getElem_cons_succ]
      refine HeldTill.take (i := 33) (n := 13) (v := ?_) rfl (by kernel_rfl) (by kernel_rfl) (by kernel_rfl) (by kernel_rfl) (fun _ _ _ h => h) (Or.inl ⟨by rfl, ?_⟩) hSq7 ?_
      rotate_left
      · intro w hSw; (try dsimp only at hSw); go_simp; (try with_reducible rfl)
      simp only [Act.put, List.setIfInBounds_toArray, List.set_cons_zero, List.set_cons_succ, List.getElem_toArray, List.getElem_cons_zero, List.getElem_cons_succ]
      refine HeldTill.take (i := 34) (n := 12) (v := ?_) rfl (by kernel_rfl) (by kernel_rfl) (by kernel_rfl) (by kernel_rfl) (fun _ _ _ h => h) (Or.inl ⟨by rfl, ?_⟩) hSq7 ?_
      rotate_left
      · intro w hSw; (try dsimp only at hSw); go_simp; (try with_reducible rfl)
      simp only [Act.put, List.setIfInBounds_toArray, List.set_cons_zero, List.set_cons_succ, List.getElem_toArray, List.getElem_cons_zero, List.getElem_cons_succ]
      refine HeldTill.take (i := 35) (n := 11) (v := ?_) rfl (by kernel_rfl) (by kernel_rfl) (by kernel_rfl) (by kernel_rfl) (fun _ _ _ h => h) (Or.inl ⟨by rfl, ?_⟩) hSq7 ?_
      rotate_left
      · intro w hSw; (try dsimp only at hSw); go_simp; (try with_reducible rfl)
      simp only [Act.put, List.setIfInBounds_toArray, List.set_cons_zero, List.set_cons_succ, List.getElem_toArray, List.getElem_cons_zero, List.getElem_cons_succ]
      refine HeldTill.take (i := 36) (n := 10) (v := ?_) rfl (by kernel_rfl) (by kernel_rfl) (by kernel_rfl) (by kernel_rfl) (fun _ _ _ h => h) (Or.inl ⟨by rfl, ?_⟩) hSq7 ?_
      rotate_left
      · intro w hSw; (try dsimp only at hSw); go_simp; (try with_reducible rfl)
      simp only [Act.put, List.setIfInBounds_toArray, List.set_cons_zero, List.set_cons_succ, List.getElem_toArray, List.getElem_cons_zero, List.getElem_cons_succ]
      refine HeldTill.take (i := 39) (n := 9) (v := ?_) rfl (by kernel_rfl) (by kernel_rfl) (by kernel_rfl) (by kernel_rfl) (fun _ _ _ h => h) (Or.inl ⟨by rfl, ?_⟩) hSq7 ?_
      rotate_left
      · intro w hSw; (try dsimp only at hSw); go_simp; (try with_reducible rfl)
      simp only [Act.put, List.setIfInBounds_toArray, List.set_cons_zero, List.set_cons_succ, List.getElem_toArray, List.getElem_cons_zero, List.getElem_cons_succ]
      refine HeldTill.take (i := 40) (n := 8) (v := ?_) rfl (by kernel_rfl) (by kernel_rfl) (by kernel_rfl) (by kernel_rfl) (fun _ _ _ h => h) (Or.inl ⟨by rfl, ?_⟩) hSq7 ?_
      rotate_left
      · intro w hSw; (try dsimp only at hSw); go_simp; (try with_reducible rfl)
      simp only [Act.put, List.setIfInBounds_toArray, List.set_cons_zero, List.set_cons_succ, List.getElem_toArray, List.getElem_cons_zero, List.getElem_cons_succ]
      refine HeldTill.next (j := 37) (n := 7) (by kernel_rfl) rfl ?_
      go_wp2_with (go_at_call 34; (with_reducible refine (hba.out _ 4 5 _ _ _ _ _ _ H89.out rfl rfl).mono ?_); rintro e w90 ⟨A90, k90, rfl, hL⟩; have H90 := Aside0.mk hL; clear hL)
      have hSq8 : (fun (w' : World) => w'.cell? ⟨bc, 0, none⟩ = some (.int .i64 S) ∧ w'.cell? ⟨bc, 1, none⟩ = some (.int .i64 W) ∧ w'.cell? ⟨bc, 2, none⟩ = some (.int .i64 L) ∧ w'.cell? ⟨pa, 0, none⟩ = some (.slice Aa Xa.length ka) ∧ w'.cell? ⟨pb, 0, none⟩ = some (.slice Ab Xb.length kb) ∧ w'.cell? ⟨pj, 0, none⟩ = some (.slice A63 Xj.length k63) ∧ w'.cell? ⟨pu, 0, none⟩ = some (.slice Au Xu.length ku)) _ := ⟨LM.cell H90.out 4 rfl 0 rfl, LM.cell H90.out 4 rfl 1 rfl, LM.cell H90.out 4 rfl 2 rfl, LM.cell H90.out 3 rfl 0 rfl, LM.cell H90.out 2 rfl 0 rfl, LM.cell H90.out 1 rfl 0 rfl, LM.cell H90.out 0 rfl 0 rfl⟩
      refine ⟨fun _ => hSq8, ?_⟩
      refine HeldTill.take (i := 38) (n := 6) (v := ?_) rfl (by kernel_rfl) (by kernel_rfl) (by kernel_rfl) (by kernel_rfl) (fun _ _ _ h => h) (Or.inl ⟨by rfl, ?_⟩) hSq8 ?_
      rotate_left
      · intro w hSw; (try dsimp only at hSw); go_simp; (try with_reducible rfl)
      simp only [Act.put, List.setIfInBounds_toArray, List.set_cons_zero, List.set_cons_succ, List.getElem_toArray, List.getElem_cons_zero, List.getElem_cons_succ]
      refine HeldTill.next (j := 41) (n := 5) (by kernel_rfl) rfl ?_
      go_wp2_with (go_at_call 33; (with_reducible refine (LM.same H90.out 0 4 rfl rfl HVj.out.fit hS8 hW4).mono ?_); rintro e w91 ⟨rfl, hL⟩; have H91 := Aside0.mk hL; clear hL)
      have hSq9 : (fun (w' : World) => w'.cell? ⟨bc, 0, none⟩ = some (.int .i64 S) ∧ w'.cell? ⟨bc, 1, none⟩ = some (.int .i64 W) ∧ w'.cell? ⟨bc, 2, none⟩ = some (.int .i64 L) ∧ w'.cell? ⟨pa, 0, none⟩ = some (.slice Aa Xa.length ka) ∧ w'.cell? ⟨pb, 0, none⟩ = some (.slice Ab Xb.length kb) ∧ w'.cell? ⟨pj, 0, none⟩ = some (.slice A63 Xj.length k63) ∧ w'.cell? ⟨pu, 0, none⟩ = some (.slice Au Xu.length ku)) _ := ⟨LM.cell H91.out 4 rfl 0 rfl, LM.cell H91.out 4 rfl 1 rfl, LM.cell H91.out 4 rfl 2 rfl, LM.cell H91.out 3 rfl 0 rfl, LM.cell H91.out 2 rfl 0 rfl, LM.cell H91.out 1 rfl 0 rfl, LM.cell H91.out 0 rfl 0 rfl⟩
      refine ⟨fun _ => hSq9, ?_⟩
      refine HeldTill.take (i := 42) (n := 4) (v := ?_) rfl (by kernel_rfl) (by kernel_rfl) (by kernel_rfl) (by kernel_rfl) (fun _ _ _ h => h) (Or.inl ⟨by rfl, ?_⟩) hSq9 ?_
      rotate_left
      · intro w hSw; (try dsimp only at hSw); go_simp; (try with_reducible rfl)
      simp only [Act.put, List.setIfInBounds_toArray, List.set_cons_zero, List.set_cons_succ, List.getElem_toArray, List.getElem_cons_zero, List.getElem_cons_succ]
      refine HeldTill.take (i := 43) (n := 3) (v := ?_) rfl (by kernel_rfl) (by kernel_rfl) (by kernel_rfl) (by kernel_rfl) (fun _ _ _ h => h) (Or.inl ⟨by rfl, ?_⟩) hSq9 ?_
      rotate_left
      · intro w hSw; (try dsimp only at hSw); go_simp; (try with_reducible rfl)
      simp only [Act.put, List.setIfInBounds_toArray, List.set_cons_zero, List.set_cons_succ, List.getElem_toArray, List.getElem_cons_zero, List.getElem_cons_succ]
      refine HeldTill.next (j := 44) (n := 2) (by kernel_rfl) rfl ?_
      go_wp2_with (go_at_call 27; (with_reducible refine (LM.awake H91.out).mono ?_); rintro e w92 ⟨rfl, hL⟩; have H92 := Aside0.mk hL; clear hL)
      have hSq10 : (fun (w' : World) => w'.cell? ⟨bc, 0, none⟩ = some (.int .i64 S) ∧ w'.cell? ⟨bc, 1, none⟩ = some (.int .i64 W) ∧ w'.cell? ⟨bc, 2, none⟩ = some (.int .i64 L) ∧ w'.cell? ⟨pa, 0, none⟩ = some (.slice Aa Xa.length ka) ∧ w'.cell? ⟨pb, 0, none⟩ = some (.slice Ab Xb.length kb) ∧ w'.cell? ⟨pj, 0, none⟩ = some (.slice A63 Xj.length k63) ∧ w'.cell? ⟨pu, 0, none⟩ = some (.slice Au Xu.length ku)) _ := ⟨LM.cell H92.out 4 rfl 0 rfl, LM.cell H92.out 4 rfl 1 rfl, LM.cell H92.out 4 rfl 2 rfl, LM.cell H92.out 3 rfl 0 rfl, LM.cell H92.out 2 rfl 0 rfl, LM.cell H92.out 1 rfl 0 rfl, LM.cell H92.out 0 rfl 0 rfl⟩
      refine ⟨fun _ => hSq10, ?_⟩
      refine HeldTill.take (i := 45) (n := 1) (v := ?_) rfl (by kernel_rfl) (by kernel_rfl) (by kernel_rfl) (by kernel_rfl) (fun _ _ _ h => h) (Or.inl ⟨by rfl, ?_⟩) hSq10 ?_
      rotate_left
      · intro w hSw; (try dsimp only at hSw); go_simp; (try with_reducible rfl)
      simp only [Act.put, List.setIfInBounds_toArray, List.set_cons_zero, List.set_cons_succ, List.getElem_toArray, List.getElem_cons_zero, List.getElem_cons_succ]
      refine HeldTill.take (i := 46) (n := 0) (v := ?_) rfl (by kernel_rfl) (by kernel_rfl) (by kernel_rfl) (by kernel_rfl) (fun _ _ _ h => h) (Or.inl ⟨by rfl, ?_⟩) hSq10 ?_
      rotate_left
      · intro w hSw; (try dsimp only at hSw); go_simp; (try with_reducible rfl)
      simp only [Act.put, List.setIfInBounds_toArray, List.set_cons_zero, List.set_cons_succ, List.getElem_toArray, List.getElem_cons_zero, List.getElem_cons_succ]
      refine ⟨by kernel_rfl, ?_⟩
      go_wp2
      go_ret
      exact ⟨rfl, LM.below H92.out⟩
end Go.Proofs.Ytkgocbmnjlfkoaa.M
end
section
namespace Go.Proofs.YtkgocbmnjlfkoaaW.PrintWords
open Go.ChangeShapes Go.WideShapes
theorem sized_ints {H : Type} {enc : TypeId × Value → H} {P : Program} {W : World} {base : Nat} {spare : Nat → Bool} {held : Bool} {t e : TypeId} {k : IntKind} {a : Option Addr} {len cap : Nat} {d : DataW H} {ps : List MemPlace} {ts : List TypeId} {ds : List (DataW H)} {j : Nat}
    (hsz : (DataW.weightsEach P ts ds).all (· ≤ reachBytes) = true) (ht : ts[j]? = some t) (hd : ds[j]? = some d) (hu : P.underlying t = some (.slice e)) (he : P.underlying e = some (.int k)) (hc : P.cellsOf e = 1) {B : Nat} (hB : P.bytesOf e = B)
    (h : DataW.Trod enc P W base spare held t (.slice a len cap) d ps) : len * B ≤ 140737488351232 := by
  obtain ⟨fuel, hf⟩ := h
  rcases open_ints hu he hc hf with ⟨hcs, _⟩ | ⟨x, l, c, zs, hcs, _, hl, _, hz, hx, _, _⟩
  · simp [Value.cells] at hcs
    obtain ⟨rfl, rfl, rfl⟩ := hcs
    simp
  · simp [Value.cells] at hcs
    obtain ⟨rfl, rfl, rfl⟩ := hcs
    obtain ⟨hx, _⟩ := Prod.mk.inj hx
    subst hx
    have z := sized_slice hsz ht hd hu
    rw [hB] at z
    have hl2 : len ≤ zs.length := by
      rw [hz]
      split
      · exact hl
      · exact Nat.le_refl _
    have h1 : (lits (H := H) k (zs.take len)).length + (lits (H := H) k (zs.drop len)).length = zs.length := by
      simp [lits]
      omega
    rw [h1] at z
    exact Nat.le_trans (Nat.mul_le_mul_right _ hl2) z
end Go.Proofs.YtkgocbmnjlfkoaaW.PrintWords
end
section
namespace Go.Proofs.Ytkgocbmnjlfkoaa.mustLeast
open Go.ChangeShapes Go.WideShapes Go.ChangeAt Go.RowKit
open Go.ChangeMaps (open_string shut_string)
set_option linter.unusedVariables false
theorem own : ownKnob Try.prog.godebug = none := by kernel_rfl
theorem laidOut : laidOutB Try.prog = true := by kernel_rfl
def IsRow (k : IntKind) (w : World) (a : Option Addr) (len cap : Nat) (zs : List Int) : Prop :=
  (a = none ∧ len = 0 ∧ cap = 0 ∧ zs = []) ∨
  ∃ x, a = some x ∧ len ≤ cap ∧ cap ≤ maxLen ∧ zs.length = cap ∧ (∀ i, i < zs.length → w.cell? (x.add i) = some (.int k (zs.getD i 0))) ∧ ∀ n ∈ zs, (Lit.int k n).wf = true
theorem walk (a0 : Option Addr) (len0 cap0 : Nat) (z0 : List Int) (w : World) (w0 : IsRow .i64 w a0 len0 cap0 z0) (y0 : len0 * 8 ≤ 140737488351232) :
    Calls Try.prog 7 #[.slice a0 len0 cap0] w fun e w' => e = .returned (.bool true) ∧ Below w.heap.size w w' := by
  obtain ⟨l0, rfl, hr0, hm0, hw0, hc0⟩ := Go.Proofs.YtkgocbmnjlfkoaaW.PrintWords.ReadsInt.ofRowC w0
  exact M.mustLeast_walk a0 cap0 l0 w (Go.Proofs.YtkgocbmnjlfkoaaW.PrintWords.Kd.C_of_reads (d := (0 : Int)) (h1 := fun _ => rfl) hr0) hc0 (by omega)
set_option maxRecDepth 100000 in
theorem lifted (os : Os) (started : os.Started) (H : Type) (enc : TypeId × Value → H) :
    ReturnsInHanded {} Try.checked os 7 .any (Rows.mustLeastSpec.pre6 enc Try.prog Try.f7 Rows.mustLeastRow.domain false) (Rows.mustLeastSpec.post enc Try.prog Try.f7 false true false false) := by
  refine returnsInHanded_of_change_sized (C := Try.checked) own started (by kernel_rfl) Try.func7
    (ChangeSpec.witness6 (enc := enc) (C := Try.checked) false ⟨#[], #[.slice none 0 0], []⟩ 8 (by kernel_rfl) (by kernel_rfl) (by kernel_rfl) (by kernel_rfl)) ?_
  intro W base args ds gs before hval0 hW hcnd hsz0 _
  have hsz : (DataW.weightsEach Try.prog (Try.f7.params.toList ++ Rows.mustLeastSpec.plain.varTypes Try.prog) (ds ++ gs)).all (· ≤ reachBytes) = true := hsz0
  have hval : ∀ (j : Nat) t v, Try.f7.params[j]? = some t → args[j]? = some v → Value.okWide Try.prog W .any base t v := hval0
  have hW' := hW
  obtain ⟨p, q, hA0, hV, rfl, hfz, hnd⟩ := hW
  have hA : DataW.TrodAll enc Try.prog W 0 (fun _ => true) true Try.f7.params.toList args.toList ds p := hA0
  rw [Try.params7] at hA hval hsz
  obtain ⟨v0, vs0, d0, ds0, p0, q0, hargs, rfl, rfl, h0, r0⟩ := trodAll_cons hA
  obtain ⟨rfl, rfl, rfl⟩ := trodAll_nil r0
  obtain rfl : args = #[v0] := by cases args; simp_all
  obtain ⟨rfl, rfl⟩ := trodVars_none hV
  obtain ⟨a0, len0, cap0, rfl⟩ := okWide_slice Try.underlying22 (hval 0 22 v0 rfl rfl)
  have k0 := h0
  have lt0 : ∀ x ∈ p0, x.block < W.heap.size := by obtain ⟨m, hm⟩ := k0; exact DataW.trod_lt m _ _ _ hm
  obtain ⟨z0, w0⟩ : ∃ zs, IsRow .i64 W a0 len0 cap0 zs := by
    obtain ⟨fuel, hf⟩ := h0
    rcases open_ints Try.underlying22 Try.underlying3 (by kernel_rfl) hf with ⟨hcs, _⟩ | ⟨x, l, c, zs, hcs, _, hl, hm, hz, _, hcell, hwz⟩
    · simp [Value.cells] at hcs
      obtain ⟨rfl, rfl, rfl⟩ := hcs
      exact ⟨[], .inl ⟨rfl, rfl, rfl, rfl⟩⟩
    · simp [Value.cells] at hcs
      obtain ⟨rfl, rfl, rfl⟩ := hcs
      exact ⟨zs, .inr ⟨_, rfl, hl, hm, by simpa using hz, hcell, hwz⟩⟩
  have y0 : len0 * 8 ≤ 140737488351232 := Go.Proofs.YtkgocbmnjlfkoaaW.PrintWords.sized_ints hsz (j := 0) (t := 22) rfl rfl Try.underlying22 Try.underlying3 (by kernel_rfl) (by kernel_rfl) h0
  clear hA0 hval0 hsz0 hsz
  refine (walk a0 len0 cap0 z0 W w0 y0).mono fun e W' ⟨he, bel⟩ => ?_
  subst he
  exact ⟨_, rfl, _, _, _, [], _, [], hW', trodAll_mk1 (shut_bool Try.underlying4 _), (trodAll_cons_mk (Below.trod laidOut (by kernel_rfl) (of_decide_eq_true (by kernel_rfl)) k0 bel lt0) trodAll_mk0), rfl, bel.frame _, fun h => by cases h⟩
theorem over : Rows.mustLeastRow.holds Try.pinned (OpenSpec.ofChange Rows.mustLeastSpec) :=
  OpenClaim.holds_of_wide 7 Try.f7 rfl rfl rfl rfl rfl rfl rfl ⟨rfl, rfl, rfl, rfl, rfl⟩ rfl rfl rfl rfl rfl (by kernel_rfl) Try.func7 (by kernel_rfl)
    (of_decide_eq_true (by kernel_rfl)) (by unfold Func.isWrapper; first | (rw [if_pos (by decide +kernel)]; kernel_rfl) | (rw [if_neg (by decide +kernel)]; exact ⟨rfl, rfl⟩))
    (fun os started H enc _ => lifted os started H enc)
theorem proved : Rows.MustLeastSaid := over
#print axioms proved
end Go.Proofs.Ytkgocbmnjlfkoaa.mustLeast
namespace Go.Proofs.Ytkgocbmnjlfkoaa
theorem mustLeast_holds : Rows.MustLeastSaid := mustLeast.proved
end Go.Proofs.Ytkgocbmnjlfkoaa
end
