/- The Must law on uses and the order of states holds of the given program for every input. -/
import Derived.Test.YtkgocbmnjlfkoaaMustGrowsPart3
import Derived.SizedLaws
import Derived.ChangeSlices
import Derived.Test.YtkgocbmnjlfkoaaRows
import Derived.WalkKit
import Derived.ProofKit
import Derived.OpenShut
import Derived.ShutString
import Derived.ChangeOld
import Derived.Below
section
namespace Go.Proofs.Ytkgocbmnjlfkoaa.M
open Go.RowKit Go.Proofs.Ytkgocbmnjlfkoaa.X Go.Proofs.YtkgocbmnjlfkoaaW.PrintWords Go.Proofs.YtkgocbmnjlfkoaaW.PrintLast Go.Proofs.YtkgocbmnjlfkoaaW.PrintMore
set_option linter.unusedVariables false
set_option linter.unusedSimpArgs false
set_option maxRecDepth 100000 in
set_option maxHeartbeats 8000000 in
theorem mustGrows_walk (A0 : Option Addr) (c0 : Nat) (l : List Int) (w : World) (hr : C1 w A0 l) (hc : l.length ≤ c0) (hl : l.length ≤ 17592186044416) :
    Calls Try.prog 6 #[.slice A0 l.length c0] w fun e w' => e = .returned (.bool true) ∧ Below w.heap.size w w' := by
  have hnew := Aside0.mk (new_calls A0 c0 l w hr hc hl)
  clear hr
  go_enter Try.func6, Try.ntmps6
  go_upto_region 2 with (first | (go_at_call 14; refine hnew.out.mono ?_; rintro e w1 ⟨g, rfl, hd1, hb1⟩; have H1 := Aside0.mk (LM.first hd1); clear hd1 hb1))
  go_upto_region 3 with (first | (go_at_call 15; (with_reducible refine (LM.cache H1.out).mono ?_); rintro e w2 ⟨S, W, L, rfl, hC, hL⟩; have HC := Aside0.mk hC; have H2 := Aside0.mk hL; clear hC hL))
  have H3 := Aside0.mk (LM.newB H2.out #[.int .i64 S, .int .i64 W, .int .i64 L] 26 (by unfold BoxT; decide))
  generalize w2.heap.size = bc at *
  generalize w2.alloc (.cells #[.int .i64 S, .int .i64 W, .int .i64 L] 26) = w3 at *
  have hW1 := HC.out.w1
  have hS8 := HC.out.s8
  have hW4 := HC.out.w4
  clear hnew
  have qbc0 := LM.cell H3.out 0 rfl 0 rfl
  have qbc1 := LM.cell H3.out 0 rfl 1 rfl
  have qbc2 := LM.cell H3.out 0 rfl 2 rfl
  go_upto_region 4 with (first | (go_at_call 22; (with_reducible refine (LM.must HC.out H3.out).mono ?_); rintro e w4 ⟨A4, k4, Xa, rfl, hV, hL⟩; have HVXa := Aside0.mk hV; have H4 := Aside0.mk hL; clear hV hL))
  clear qbc0 qbc1 qbc2
  have H5 := Aside0.mk (LM.newB H4.out #[.slice A4 Xa.length k4] 39 (by unfold BoxT; decide))
  generalize w4.heap.size = pa at *
  generalize w4.alloc (.cells #[.slice A4 Xa.length k4] 39) = w5 at *
  go_cut [6] from 17 to 22 (fun v6 wx => ∃ pb Ab kb Xm, v6 = .pointer (some ⟨pb, 0, none⟩) ∧ Aside0 (Val S W Xm ∧ LM w wx g l [(pb, #[.slice Ab (joinM S W Xa Xm).length kb], 39), (pa, #[.slice A4 Xa.length k4], 39), (bc, #[.int .i64 S, .int .i64 W, .int .i64 L], 26)] [.s3 (.slice Ab (joinM S W Xa Xm).length kb) (joinM S W Xa Xm), .s3 (.slice A4 Xa.length k4) Xa]))
  case first =>
    refine HeldTill.begin_ (S := fun (w' : World) => w'.cell? ⟨bc, 0, none⟩ = some (.int .i64 S) ∧ w'.cell? ⟨bc, 1, none⟩ = some (.int .i64 W) ∧ w'.cell? ⟨bc, 2, none⟩ = some (.int .i64 L) ∧ w'.cell? ⟨pa, 0, none⟩ = some (.slice A4 Xa.length k4)) (F := fun _ => true) (by kernel_rfl) ?_
    have H6 := Aside0.mk (LM.drew H5.out)
    generalize w5.drew = w6 at *
    have hSq : (fun (w' : World) => w'.cell? ⟨bc, 0, none⟩ = some (.int .i64 S) ∧ w'.cell? ⟨bc, 1, none⟩ = some (.int .i64 W) ∧ w'.cell? ⟨bc, 2, none⟩ = some (.int .i64 L) ∧ w'.cell? ⟨pa, 0, none⟩ = some (.slice A4 Xa.length k4)) w6 := ⟨LM.cell H6.out 1 rfl 0 rfl, LM.cell H6.out 1 rfl 1 rfl, LM.cell H6.out 1 rfl 2 rfl, LM.cell H6.out 0 rfl 0 rfl⟩
    refine HeldTill.take (i := 0) (n := 7) (v := ?_) rfl (by kernel_rfl) (by kernel_rfl) (by kernel_rfl) (by kernel_rfl) (fun _ _ _ h => h) (Or.inl ⟨by rfl, ?_⟩) hSq ?_
    rotate_left
    · intro w hSw; (try dsimp only at hSw); go_simp; (try with_reducible rfl)
    simp only [Act.put, List.setIfInBounds_toArray, List.set_cons_zero, List.set_cons_succ, List.getElem_toArray, List.getElem_cons_zero, List.getElem_cons_succ]
    refine HeldTill.take (i := 1) (n := 6) (v := ?_) rfl (by kernel_rfl) (by kernel_rfl) (by kernel_rfl) (by kernel_rfl) (fun _ _ _ h => h) (Or.inl ⟨by rfl, ?_⟩) hSq ?_
    rotate_left
    · intro w hSw; (try dsimp only at hSw); go_simp; (try with_reducible rfl)
    simp only [Act.put, List.setIfInBounds_toArray, List.set_cons_zero, List.set_cons_succ, List.getElem_toArray, List.getElem_cons_zero, List.getElem_cons_succ]
    refine HeldTill.take (i := 2) (n := 5) (v := ?_) rfl (by kernel_rfl) (by kernel_rfl) (by kernel_rfl) (by kernel_rfl) (fun _ _ _ h => h) (Or.inl ⟨by rfl, ?_⟩) hSq ?_
    rotate_left
    · intro w hSw; (try dsimp only at hSw); go_simp; (try with_reducible rfl)
    simp only [Act.put, List.setIfInBounds_toArray, List.set_cons_zero, List.set_cons_succ, List.getElem_toArray, List.getElem_cons_zero, List.getElem_cons_succ]
    refine HeldTill.take (i := 3) (n := 4) (v := ?_) rfl (by kernel_rfl) (by kernel_rfl) (by kernel_rfl) (by kernel_rfl) (fun _ _ _ h => h) (Or.inl ⟨by rfl, ?_⟩) hSq ?_
    rotate_left
    · intro w hSw; (try dsimp only at hSw); go_simp; (try with_reducible rfl)
    simp only [Act.put, List.setIfInBounds_toArray, List.set_cons_zero, List.set_cons_succ, List.getElem_toArray, List.getElem_cons_zero, List.getElem_cons_succ]
    refine HeldTill.br [4, 6] (by kernel_rfl) (by simp) ?_
    refine BrAll.cons rfl ?_ (BrAll.cons rfl ?_ (BrAll.nil))
    · skip
      go_wp2_with (go_at_call 22; (with_reducible refine (LM.must HC.out H6.out).mono ?_); rintro e w7 ⟨A7, k7, Xm, rfl, hV, hL⟩; have HVXm := Aside0.mk hV; have H7 := Aside0.mk hL; clear hV hL)
      refine ⟨(by first | exact fun _ => ⟨LM.cell H7.out 1 rfl 0 rfl, LM.cell H7.out 1 rfl 1 rfl, LM.cell H7.out 1 rfl 2 rfl, LM.cell H7.out 0 rfl 0 rfl⟩ | exact ⟨LM.cell H7.out 1 rfl 0 rfl, LM.cell H7.out 1 rfl 1 rfl, LM.cell H7.out 1 rfl 2 rfl, LM.cell H7.out 0 rfl 0 rfl⟩), ?_⟩
      refine HeldTill.br [5, 6] (by kernel_rfl) (by simp) ?_
      refine BrAll.cons rfl ?_ (BrAll.cons rfl ?_ (BrAll.nil))
      · skip
        go_wp2_with (go_at_call 31; (with_reducible refine (LM.rjoin HC.out H7.out 1 0 rfl rfl HVXa.out.fit HVXm.out.fit).mono ?_); rintro e w8 ⟨A8, k8, rfl, hL⟩; have H8 := Aside0.mk hL; clear hL)
        refine ⟨(by first | exact fun _ => ⟨LM.cell H8.out 1 rfl 0 rfl, LM.cell H8.out 1 rfl 1 rfl, LM.cell H8.out 1 rfl 2 rfl, LM.cell H8.out 0 rfl 0 rfl⟩ | exact ⟨LM.cell H8.out 1 rfl 0 rfl, LM.cell H8.out 1 rfl 1 rfl, LM.cell H8.out 1 rfl 2 rfl, LM.cell H8.out 0 rfl 0 rfl⟩), ?_⟩
        refine HeldTill.next (j := 6) (n := 1) (by kernel_rfl) rfl ?_
        go_wp2
        have H9 := Aside0.mk (LM.newB H8.out #[.slice none 0 0] 39 (by unfold BoxT; decide))
        generalize w8.heap.size = pb at *
        generalize w8.alloc (.cells #[.slice none 0 0] 39) = w9 at *
        refine ⟨(by first | exact fun _ => ⟨LM.cell H9.out 2 rfl 0 rfl, LM.cell H9.out 2 rfl 1 rfl, LM.cell H9.out 2 rfl 2 rfl, LM.cell H9.out 1 rfl 0 rfl⟩ | exact ⟨LM.cell H9.out 2 rfl 0 rfl, LM.cell H9.out 2 rfl 1 rfl, LM.cell H9.out 2 rfl 2 rfl, LM.cell H9.out 1 rfl 0 rfl⟩), ?_⟩
        refine HeldTill.next (j := 7) (n := 0) (by kernel_rfl) rfl ?_
        have qc0 := LM.cell H9.out 0 rfl 0 rfl
        have qf0 := LM.free H9.out 0 rfl 0
        go_wp2
        have H10 : Aside0 (LM w (w9.setCell ⟨pb, 0, none⟩ (.slice A8 (joinM S W Xa Xm).length k8)) g l [(pb, #[.slice A8 (joinM S W Xa Xm).length k8], 39), (pa, #[.slice A4 Xa.length k4], 39), (bc, #[.int .i64 S, .int .i64 W, .int .i64 L], 26)] [.s3 (.slice A8 (joinM S W Xa Xm).length k8) (joinM S W Xa Xm), .s3 (.slice A7 Xm.length k7) Xm, .s3 (.slice A4 Xa.length k4) Xa]) := ⟨LM.put H9.out 0 rfl 0 (.slice A8 (joinM S W Xa Xm).length k8)⟩
        generalize (w9.setCell ⟨pb, 0, none⟩ (.slice A8 (joinM S W Xa Xm).length k8)) = w10 at *
        clear qc0 qf0
        refine ⟨(by first | exact fun _ => ⟨LM.cell H10.out 2 rfl 0 rfl, LM.cell H10.out 2 rfl 1 rfl, LM.cell H10.out 2 rfl 2 rfl, LM.cell H10.out 1 rfl 0 rfl⟩ | exact ⟨LM.cell H10.out 2 rfl 0 rfl, LM.cell H10.out 2 rfl 1 rfl, LM.cell H10.out 2 rfl 2 rfl, LM.cell H10.out 1 rfl 0 rfl⟩), ?_⟩
        refine ⟨by kernel_rfl, ?_⟩
        go_wp2_with fail
        go_meet
        case rel => exact ⟨_, _, _, _, rfl, ⟨HVXm.out, LM.drop H10.out (by simp +contextual)⟩⟩
      · skip
        go_wp2
        have H11 := Aside0.mk (LM.newB H7.out #[.slice none 0 0] 39 (by unfold BoxT; decide))
        generalize w7.heap.size = pb at *
        generalize w7.alloc (.cells #[.slice none 0 0] 39) = w11 at *
        refine ⟨(by first | exact fun _ => ⟨LM.cell H11.out 2 rfl 0 rfl, LM.cell H11.out 2 rfl 1 rfl, LM.cell H11.out 2 rfl 2 rfl, LM.cell H11.out 1 rfl 0 rfl⟩ | exact ⟨LM.cell H11.out 2 rfl 0 rfl, LM.cell H11.out 2 rfl 1 rfl, LM.cell H11.out 2 rfl 2 rfl, LM.cell H11.out 1 rfl 0 rfl⟩), ?_⟩
        refine HeldTill.next (j := 5) (n := 1) (by kernel_rfl) rfl ?_
        go_wp2_with (go_at_call 31; (with_reducible refine (LM.rjoin HC.out H11.out 1 0 rfl rfl HVXa.out.fit HVXm.out.fit).mono ?_); rintro e w12 ⟨A12, k12, rfl, hL⟩; have H12 := Aside0.mk hL; clear hL)
        refine ⟨(by first | exact fun _ => ⟨LM.cell H12.out 2 rfl 0 rfl, LM.cell H12.out 2 rfl 1 rfl, LM.cell H12.out 2 rfl 2 rfl, LM.cell H12.out 1 rfl 0 rfl⟩ | exact ⟨LM.cell H12.out 2 rfl 0 rfl, LM.cell H12.out 2 rfl 1 rfl, LM.cell H12.out 2 rfl 2 rfl, LM.cell H12.out 1 rfl 0 rfl⟩), ?_⟩
        refine HeldTill.next (j := 7) (n := 0) (by kernel_rfl) rfl ?_
        have qc0 := LM.cell H12.out 0 rfl 0 rfl
        have qf0 := LM.free H12.out 0 rfl 0
        go_wp2
        have H13 : Aside0 (LM w (w12.setCell ⟨pb, 0, none⟩ (.slice A12 (joinM S W Xa Xm).length k12)) g l [(pb, #[.slice A12 (joinM S W Xa Xm).length k12], 39), (pa, #[.slice A4 Xa.length k4], 39), (bc, #[.int .i64 S, .int .i64 W, .int .i64 L], 26)] [.s3 (.slice A12 (joinM S W Xa Xm).length k12) (joinM S W Xa Xm), .s3 (.slice A7 Xm.length k7) Xm, .s3 (.slice A4 Xa.length k4) Xa]) := ⟨LM.put H12.out 0 rfl 0 (.slice A12 (joinM S W Xa Xm).length k12)⟩
        generalize (w12.setCell ⟨pb, 0, none⟩ (.slice A12 (joinM S W Xa Xm).length k12)) = w13 at *
        clear qc0 qf0
        refine ⟨(by first | exact fun _ => ⟨LM.cell H13.out 2 rfl 0 rfl, LM.cell H13.out 2 rfl 1 rfl, LM.cell H13.out 2 rfl 2 rfl, LM.cell H13.out 1 rfl 0 rfl⟩ | exact ⟨LM.cell H13.out 2 rfl 0 rfl, LM.cell H13.out 2 rfl 1 rfl, LM.cell H13.out 2 rfl 2 rfl, LM.cell H13.out 1 rfl 0 rfl⟩), ?_⟩
        refine ⟨by kernel_rfl, ?_⟩
        go_wp2_with fail
        go_meet
        case rel => exact ⟨_, _, _, _, rfl, ⟨HVXm.out, LM.drop H13.out (by simp +contextual)⟩⟩
    · skip
      go_wp2
      have H14 := Aside0.mk (LM.newB H6.out #[.slice none 0 0] 39 (by unfold BoxT; decide))
      generalize w6.heap.size = pb at *
      generalize w6.alloc (.cells #[.slice none 0 0] 39) = w14 at *
      refine ⟨(by first | exact fun _ => ⟨LM.cell H14.out 2 rfl 0 rfl, LM.cell H14.out 2 rfl 1 rfl, LM.cell H14.out 2 rfl 2 rfl, LM.cell H14.out 1 rfl 0 rfl⟩ | exact ⟨LM.cell H14.out 2 rfl 0 rfl, LM.cell H14.out 2 rfl 1 rfl, LM.cell H14.out 2 rfl 2 rfl, LM.cell H14.out 1 rfl 0 rfl⟩), ?_⟩
      refine HeldTill.next (j := 4) (n := 2) (by kernel_rfl) rfl ?_
      go_wp2_with (go_at_call 22; (with_reducible refine (LM.must HC.out H14.out).mono ?_); rintro e w15 ⟨A15, k15, Xm, rfl, hV, hL⟩; have HVXm := Aside0.mk hV; have H15 := Aside0.mk hL; clear hV hL)
      refine ⟨(by first | exact fun _ => ⟨LM.cell H15.out 2 rfl 0 rfl, LM.cell H15.out 2 rfl 1 rfl, LM.cell H15.out 2 rfl 2 rfl, LM.cell H15.out 1 rfl 0 rfl⟩ | exact ⟨LM.cell H15.out 2 rfl 0 rfl, LM.cell H15.out 2 rfl 1 rfl, LM.cell H15.out 2 rfl 2 rfl, LM.cell H15.out 1 rfl 0 rfl⟩), ?_⟩
      refine HeldTill.next (j := 5) (n := 1) (by kernel_rfl) rfl ?_
      go_wp2_with (go_at_call 31; (with_reducible refine (LM.rjoin HC.out H15.out 1 0 rfl rfl HVXa.out.fit HVXm.out.fit).mono ?_); rintro e w16 ⟨A16, k16, rfl, hL⟩; have H16 := Aside0.mk hL; clear hL)
      refine ⟨(by first | exact fun _ => ⟨LM.cell H16.out 2 rfl 0 rfl, LM.cell H16.out 2 rfl 1 rfl, LM.cell H16.out 2 rfl 2 rfl, LM.cell H16.out 1 rfl 0 rfl⟩ | exact ⟨LM.cell H16.out 2 rfl 0 rfl, LM.cell H16.out 2 rfl 1 rfl, LM.cell H16.out 2 rfl 2 rfl, LM.cell H16.out 1 rfl 0 rfl⟩), ?_⟩
      refine HeldTill.next (j := 7) (n := 0) (by kernel_rfl) rfl ?_
      have qc0 := LM.cell H16.out 0 rfl 0 rfl
      have qf0 := LM.free H16.out 0 rfl 0
      go_wp2
      have H17 : Aside0 (LM w (w16.setCell ⟨pb, 0, none⟩ (.slice A16 (joinM S W Xa Xm).length k16)) g l [(pb, #[.slice A16 (joinM S W Xa Xm).length k16], 39), (pa, #[.slice A4 Xa.length k4], 39), (bc, #[.int .i64 S, .int .i64 W, .int .i64 L], 26)] [.s3 (.slice A16 (joinM S W Xa Xm).length k16) (joinM S W Xa Xm), .s3 (.slice A15 Xm.length k15) Xm, .s3 (.slice A4 Xa.length k4) Xa]) := ⟨LM.put H16.out 0 rfl 0 (.slice A16 (joinM S W Xa Xm).length k16)⟩
      generalize (w16.setCell ⟨pb, 0, none⟩ (.slice A16 (joinM S W Xa Xm).length k16)) = w17 at *
      clear qc0 qf0
      refine ⟨(by first | exact fun _ => ⟨LM.cell H17.out 2 rfl 0 rfl, LM.cell H17.out 2 rfl 1 rfl, LM.cell H17.out 2 rfl 2 rfl, LM.cell H17.out 1 rfl 0 rfl⟩ | exact ⟨LM.cell H17.out 2 rfl 0 rfl, LM.cell H17.out 2 rfl 1 rfl, LM.cell H17.out 2 rfl 2 rfl, LM.cell H17.out 1 rfl 0 rfl⟩), ?_⟩
      refine ⟨by kernel_rfl, ?_⟩
      go_wp2_with fail
      go_meet
      case rel => exact ⟨_, _, _, _, rfl, ⟨HVXm.out, LM.drop H17.out (by simp +contextual)⟩⟩
  case rest =>
    obtain ⟨pb, Ab, kb, Xm, rfl, HE⟩ := hcut
    have HVm := Aside0.mk HE.out.1
    have Hr := Aside0.mk HE.out.2
    have HVb := Aside0.mk (HVXa.out.join Xm)
    have HB1 := Aside0.mk (Le.bel HVXa.out (HVXa.out.join Xm) (le_join1 HVXa.out HVm.out))
    have HLE := Aside0.mk (le_join1 HVXa.out HVm.out)
    clear HE HVm H5
    generalize joinM S W Xa Xm = Xb at *
    go_upto_region 6 with (first | (go_at_call 28; (with_reducible refine (LM.line Hr.out).mono ?_); rintro e w18 ⟨n, rfl, hn, hL⟩; have H18 := Aside0.mk hL; clear hL))
    have HVx := Aside0.mk (HVXa.out.touch hn)
    have HVy := Aside0.mk (HVb.out.touch hn)
    have HB2 := Aside0.mk (Le.bel HVx.out HVy.out (HLE.out.touch HVXa.out HVb.out hW1 n))
    have HK0 := Aside0.mk (fun (h : S ≠ 0) => touch_known HVXa.out hW1 h n)
    have HTW := Aside0.mk (touch_twice HVXa.out hW1 hn)
    clear HLE Hr
    go_cut [8, 9] from 25 to 32 (fun v8 v9 wx => ∃ p8 p9 A8 k8 A9 k9, v8 = .pointer (some ⟨p8, 0, none⟩) ∧ v9 = .pointer (some ⟨p9, 0, none⟩) ∧ Aside0 (LM w wx g l [(p9, #[.slice A9 (touchM S W Xb n).length k9], 39), (p8, #[.slice A8 (touchM S W Xa n).length k8], 39), (pb, #[.slice Ab Xb.length kb], 39), (pa, #[.slice A4 Xa.length k4], 39), (bc, #[.int .i64 S, .int .i64 W, .int .i64 L], 26)] [.s3 (.slice A9 (touchM S W Xb n).length k9) (touchM S W Xb n), .s3 (.slice A8 (touchM S W Xa n).length k8) (touchM S W Xa n), .s3 (.slice Ab Xb.length kb) Xb, .s3 (.slice A4 Xa.length k4) Xa]))
    case first =>
      refine HeldTill.begin_ (S := fun (w' : World) => w'.cell? ⟨bc, 0, none⟩ = some (.int .i64 S) ∧ w'.cell? ⟨bc, 1, none⟩ = some (.int .i64 W) ∧ w'.cell? ⟨bc, 2, none⟩ = some (.int .i64 L) ∧ w'.cell? ⟨pa, 0, none⟩ = some (.slice A4 Xa.length k4) ∧ w'.cell? ⟨pb, 0, none⟩ = some (.slice Ab Xb.length kb)) (F := fun _ => true) (by kernel_rfl) ?_
      have H19 := Aside0.mk (LM.drew H18.out)
      generalize w18.drew = w19 at *
      have hSq : (fun (w' : World) => w'.cell? ⟨bc, 0, none⟩ = some (.int .i64 S) ∧ w'.cell? ⟨bc, 1, none⟩ = some (.int .i64 W) ∧ w'.cell? ⟨bc, 2, none⟩ = some (.int .i64 L) ∧ w'.cell? ⟨pa, 0, none⟩ = some (.slice A4 Xa.length k4) ∧ w'.cell? ⟨pb, 0, none⟩ = some (.slice Ab Xb.length kb)) w19 := ⟨LM.cell H19.out 2 rfl 0 rfl, LM.cell H19.out 2 rfl 1 rfl, LM.cell H19.out 2 rfl 2 rfl, LM.cell H19.out 1 rfl 0 rfl, LM.cell H19.out 0 rfl 0 rfl⟩
      refine HeldTill.take (i := 0) (n := 11) (v := ?_) rfl (by kernel_rfl) (by kernel_rfl) (by kernel_rfl) (by kernel_rfl) (fun _ _ _ h => h) (Or.inl ⟨by rfl, ?_⟩) hSq ?_
      rotate_left
      · intro w hSw; (try dsimp only at hSw); go_simp; (try with_reducible rfl)
      simp only [Act.put, List.setIfInBounds_toArray, List.set_cons_zero, List.set_cons_succ, List.getElem_toArray, List.getElem_cons_zero, List.getElem_cons_succ]
      refine HeldTill.take (i := 1) (n := 10) (v := ?_) rfl (by kernel_rfl) (by kernel_rfl) (by kernel_rfl) (by kernel_rfl) (fun _ _ _ h => h) (Or.inl ⟨by rfl, ?_⟩) hSq ?_
      rotate_left
      · intro w hSw; (try dsimp only at hSw); go_simp; (try with_reducible rfl)
      simp only [Act.put, List.setIfInBounds_toArray, List.set_cons_zero, List.set_cons_succ, List.getElem_toArray, List.getElem_cons_zero, List.getElem_cons_succ]
      refine HeldTill.take (i := 2) (n := 9) (v := ?_) rfl (by kernel_rfl) (by kernel_rfl) (by kernel_rfl) (by kernel_rfl) (fun _ _ _ h => h) (Or.inl ⟨by rfl, ?_⟩) hSq ?_
      rotate_left
      · intro w hSw; (try dsimp only at hSw); go_simp; (try with_reducible rfl)
      simp only [Act.put, List.setIfInBounds_toArray, List.set_cons_zero, List.set_cons_succ, List.getElem_toArray, List.getElem_cons_zero, List.getElem_cons_succ]
      refine HeldTill.take (i := 4) (n := 8) (v := ?_) rfl (by kernel_rfl) (by kernel_rfl) (by kernel_rfl) (by kernel_rfl) (fun _ _ _ h => h) (Or.inl ⟨by rfl, ?_⟩) hSq ?_
      rotate_left
      · intro w hSw; (try dsimp only at hSw); go_simp; (try with_reducible rfl)
      simp only [Act.put, List.setIfInBounds_toArray, List.set_cons_zero, List.set_cons_succ, List.getElem_toArray, List.getElem_cons_zero, List.getElem_cons_succ]
      refine HeldTill.take (i := 5) (n := 7) (v := ?_) rfl (by kernel_rfl) (by kernel_rfl) (by kernel_rfl) (by kernel_rfl) (fun _ _ _ h => h) (Or.inl ⟨by rfl, ?_⟩) hSq ?_
      rotate_left
      · intro w hSw; (try dsimp only at hSw); go_simp; (try with_reducible rfl)
      simp only [Act.put, List.setIfInBounds_toArray, List.set_cons_zero, List.set_cons_succ, List.getElem_toArray, List.getElem_cons_zero, List.getElem_cons_succ]
      refine HeldTill.take (i := 6) (n := 6) (v := ?_) rfl (by kernel_rfl) (by kernel_rfl) (by kernel_rfl) (by kernel_rfl) (fun _ _ _ h => h) (Or.inl ⟨by rfl, ?_⟩) hSq ?_
      rotate_left
      · intro w hSw; (try dsimp only at hSw); go_simp; (try with_reducible rfl)
      simp only [Act.put, List.setIfInBounds_toArray, List.set_cons_zero, List.set_cons_succ, List.getElem_toArray, List.getElem_cons_zero, List.getElem_cons_succ]
      refine HeldTill.br [3, 8, 9] (by kernel_rfl) (by simp) ?_
      refine BrAll.cons rfl ?_ (BrAll.cons rfl ?_ (BrAll.cons rfl ?_ (BrAll.nil)))
      · skip
        go_wp2_with (go_at_call 29; (with_reducible refine (LM.touch HC.out H19.out 1 rfl HVXa.out.fit n).mono ?_); rintro e w20 ⟨A20, k20, rfl, hL⟩; have H20 := Aside0.mk hL; clear hL)
        refine ⟨(by first | exact fun _ => ⟨LM.cell H20.out 2 rfl 0 rfl, LM.cell H20.out 2 rfl 1 rfl, LM.cell H20.out 2 rfl 2 rfl, LM.cell H20.out 1 rfl 0 rfl, LM.cell H20.out 0 rfl 0 rfl⟩ | exact ⟨LM.cell H20.out 2 rfl 0 rfl, LM.cell H20.out 2 rfl 1 rfl, LM.cell H20.out 2 rfl 2 rfl, LM.cell H20.out 1 rfl 0 rfl, LM.cell H20.out 0 rfl 0 rfl⟩), ?_⟩
        refine HeldTill.br [7, 8, 9] (by kernel_rfl) (by simp) ?_
        refine BrAll.cons rfl ?_ (BrAll.cons rfl ?_ (BrAll.cons rfl ?_ (BrAll.nil)))
        · skip
          go_wp2_with (go_at_call 29; (with_reducible refine (LM.touch HC.out H20.out 1 rfl HVb.out.fit n).mono ?_); rintro e w21 ⟨A21, k21, rfl, hL⟩; have H21 := Aside0.mk hL; clear hL)
          refine ⟨(by first | exact fun _ => ⟨LM.cell H21.out 2 rfl 0 rfl, LM.cell H21.out 2 rfl 1 rfl, LM.cell H21.out 2 rfl 2 rfl, LM.cell H21.out 1 rfl 0 rfl, LM.cell H21.out 0 rfl 0 rfl⟩ | exact ⟨LM.cell H21.out 2 rfl 0 rfl, LM.cell H21.out 2 rfl 1 rfl, LM.cell H21.out 2 rfl 2 rfl, LM.cell H21.out 1 rfl 0 rfl, LM.cell H21.out 0 rfl 0 rfl⟩), ?_⟩
          refine HeldTill.br [8, 9] (by kernel_rfl) (by simp) ?_
          refine BrAll.cons rfl ?_ (BrAll.cons rfl ?_ (BrAll.nil))
          · skip
            go_wp2
            have H22 := Aside0.mk (LM.newB H21.out #[.slice none 0 0] 39 (by unfold BoxT; decide))
            generalize w21.heap.size = p8 at *
            generalize w21.alloc (.cells #[.slice none 0 0] 39) = w22 at *
            refine ⟨(by first | exact fun _ => ⟨LM.cell H22.out 3 rfl 0 rfl, LM.cell H22.out 3 rfl 1 rfl, LM.cell H22.out 3 rfl 2 rfl, LM.cell H22.out 2 rfl 0 rfl, LM.cell H22.out 1 rfl 0 rfl⟩ | exact ⟨LM.cell H22.out 3 rfl 0 rfl, LM.cell H22.out 3 rfl 1 rfl, LM.cell H22.out 3 rfl 2 rfl, LM.cell H22.out 2 rfl 0 rfl, LM.cell H22.out 1 rfl 0 rfl⟩), ?_⟩
            refine HeldTill.next (j := 9) (n := 2) (by kernel_rfl) rfl ?_
            go_wp2
            have H23 := Aside0.mk (LM.newB H22.out #[.slice none 0 0] 39 (by unfold BoxT; decide))
            generalize w22.heap.size = p9 at *
            generalize w22.alloc (.cells #[.slice none 0 0] 39) = w23 at *
            refine ⟨(by first | exact fun _ => ⟨LM.cell H23.out 4 rfl 0 rfl, LM.cell H23.out 4 rfl 1 rfl, LM.cell H23.out 4 rfl 2 rfl, LM.cell H23.out 3 rfl 0 rfl, LM.cell H23.out 2 rfl 0 rfl⟩ | exact ⟨LM.cell H23.out 4 rfl 0 rfl, LM.cell H23.out 4 rfl 1 rfl, LM.cell H23.out 4 rfl 2 rfl, LM.cell H23.out 3 rfl 0 rfl, LM.cell H23.out 2 rfl 0 rfl⟩), ?_⟩
            refine HeldTill.next (j := 10) (n := 1) (by kernel_rfl) rfl ?_
            have qc0 := LM.cell H23.out 1 rfl 0 rfl
            have qf0 := LM.free H23.out 1 rfl 0
            go_wp2
            have H24 : Aside0 (LM w (w23.setCell ⟨p8, 0, none⟩ (.slice A20 (touchM S W Xa n).length k20)) g l [(p9, #[.slice none 0 0], 39), (p8, #[.slice A20 (touchM S W Xa n).length k20], 39), (pb, #[.slice Ab Xb.length kb], 39), (pa, #[.slice A4 Xa.length k4], 39), (bc, #[.int .i64 S, .int .i64 W, .int .i64 L], 26)] [.s3 (.slice A21 (touchM S W Xb n).length k21) (touchM S W Xb n), .s3 (.slice A20 (touchM S W Xa n).length k20) (touchM S W Xa n), .s3 (.slice Ab Xb.length kb) Xb, .s3 (.slice A4 Xa.length k4) Xa]) := ⟨LM.put H23.out 1 rfl 0 (.slice A20 (touchM S W Xa n).length k20)⟩
            generalize (w23.setCell ⟨p8, 0, none⟩ (.slice A20 (touchM S W Xa n).length k20)) = w24 at *
            clear qc0 qf0
            refine ⟨(by first | exact fun _ => ⟨LM.cell H24.out 4 rfl 0 rfl, LM.cell H24.out 4 rfl 1 rfl, LM.cell H24.out 4 rfl 2 rfl, LM.cell H24.out 3 rfl 0 rfl, LM.cell H24.out 2 rfl 0 rfl⟩ | exact ⟨LM.cell H24.out 4 rfl 0 rfl, LM.cell H24.out 4 rfl 1 rfl, LM.cell H24.out 4 rfl 2 rfl, LM.cell H24.out 3 rfl 0 rfl, LM.cell H24.out 2 rfl 0 rfl⟩), ?_⟩
            refine HeldTill.next (j := 11) (n := 0) (by kernel_rfl) rfl ?_
            have qc0 := LM.cell H24.out 0 rfl 0 rfl
            have qf0 := LM.free H24.out 0 rfl 0
            go_wp2
            have H25 : Aside0 (LM w (w24.setCell ⟨p9, 0, none⟩ (.slice A21 (touchM S W Xb n).length k21)) g l [(p9, #[.slice A21 (touchM S W Xb n).length k21], 39), (p8, #[.slice A20 (touchM S W Xa n).length k20], 39), (pb, #[.slice Ab Xb.length kb], 39), (pa, #[.slice A4 Xa.length k4], 39), (bc, #[.int .i64 S, .int .i64 W, .int .i64 L], 26)] [.s3 (.slice A21 (touchM S W Xb n).length k21) (touchM S W Xb n), .s3 (.slice A20 (touchM S W Xa n).length k20) (touchM S W Xa n), .s3 (.slice Ab Xb.length kb) Xb, .s3 (.slice A4 Xa.length k4) Xa]) := ⟨LM.put H24.out 0 rfl 0 (.slice A21 (touchM S W Xb n).length k21)⟩
            generalize (w24.setCell ⟨p9, 0, none⟩ (.slice A21 (touchM S W Xb n).length k21)) = w25 at *
            clear qc0 qf0
            refine ⟨(by first | exact fun _ => ⟨LM.cell H25.out 4 rfl 0 rfl, LM.cell H25.out 4 rfl 1 rfl, LM.cell H25.out 4 rfl 2 rfl, LM.cell H25.out 3 rfl 0 rfl, LM.cell H25.out 2 rfl 0 rfl⟩ | exact ⟨LM.cell H25.out 4 rfl 0 rfl, LM.cell H25.out 4 rfl 1 rfl, LM.cell H25.out 4 rfl 2 rfl, LM.cell H25.out 3 rfl 0 rfl, LM.cell H25.out 2 rfl 0 rfl⟩), ?_⟩
            refine ⟨by kernel_rfl, ?_⟩
            go_wp2_with fail
            go_meet
            case rel => exact ⟨_, _, _, _, _, _, rfl, rfl, ⟨H25.out⟩⟩
          · skip
            go_wp2
            have H26 := Aside0.mk (LM.newB H21.out #[.slice none 0 0] 39 (by unfold BoxT; decide))
            generalize w21.heap.size = p9 at *
            generalize w21.alloc (.cells #[.slice none 0 0] 39) = w26 at *
            refine ⟨(by first | exact fun _ => ⟨LM.cell H26.out 3 rfl 0 rfl, LM.cell H26.out 3 rfl 1 rfl, LM.cell H26.out 3 rfl 2 rfl, LM.cell H26.out 2 rfl 0 rfl, LM.cell H26.out 1 rfl 0 rfl⟩ | exact ⟨LM.cell H26.out 3 rfl 0 rfl, LM.cell H26.out 3 rfl 1 rfl, LM.cell H26.out 3 rfl 2 rfl, LM.cell H26.out 2 rfl 0 rfl, LM.cell H26.out 1 rfl 0 rfl⟩), ?_⟩
            refine HeldTill.next (j := 8) (n := 2) (by kernel_rfl) rfl ?_
            go_wp2
            have H27 := Aside0.mk (LM.newB H26.out #[.slice none 0 0] 39 (by unfold BoxT; decide))
            generalize w26.heap.size = p8 at *
            generalize w26.alloc (.cells #[.slice none 0 0] 39) = w27 at *
            refine ⟨(by first | exact fun _ => ⟨LM.cell H27.out 4 rfl 0 rfl, LM.cell H27.out 4 rfl 1 rfl, LM.cell H27.out 4 rfl 2 rfl, LM.cell H27.out 3 rfl 0 rfl, LM.cell H27.out 2 rfl 0 rfl⟩ | exact ⟨LM.cell H27.out 4 rfl 0 rfl, LM.cell H27.out 4 rfl 1 rfl, LM.cell H27.out 4 rfl 2 rfl, LM.cell H27.out 3 rfl 0 rfl, LM.cell H27.out 2 rfl 0 rfl⟩), ?_⟩
            refine HeldTill.next (j := 10) (n := 1) (by kernel_rfl) rfl ?_
            have qc0 := LM.cell H27.out 0 rfl 0 rfl
            have qf0 := LM.free H27.out 0 rfl 0
            go_wp2
            have H28 : Aside0 (LM w (w27.setCell ⟨p8, 0, none⟩ (.slice A20 (touchM S W Xa n).length k20)) g l [(p8, #[.slice A20 (touchM S W Xa n).length k20], 39), (p9, #[.slice none 0 0], 39), (pb, #[.slice Ab Xb.length kb], 39), (pa, #[.slice A4 Xa.length k4], 39), (bc, #[.int .i64 S, .int .i64 W, .int .i64 L], 26)] [.s3 (.slice A21 (touchM S W Xb n).length k21) (touchM S W Xb n), .s3 (.slice A20 (touchM S W Xa n).length k20) (touchM S W Xa n), .s3 (.slice Ab Xb.length kb) Xb, .s3 (.slice A4 Xa.length k4) Xa]) := ⟨LM.put H27.out 0 rfl 0 (.slice A20 (touchM S W Xa n).length k20)⟩
            generalize (w27.setCell ⟨p8, 0, none⟩ (.slice A20 (touchM S W Xa n).length k20)) = w28 at *
            clear qc0 qf0
            refine ⟨(by first | exact fun _ => ⟨LM.cell H28.out 4 rfl 0 rfl, LM.cell H28.out 4 rfl 1 rfl, LM.cell H28.out 4 rfl 2 rfl, LM.cell H28.out 3 rfl 0 rfl, LM.cell H28.out 2 rfl 0 rfl⟩ | exact ⟨LM.cell H28.out 4 rfl 0 rfl, LM.cell H28.out 4 rfl 1 rfl, LM.cell H28.out 4 rfl 2 rfl, LM.cell H28.out 3 rfl 0 rfl, LM.cell H28.out 2 rfl 0 rfl⟩), ?_⟩
            refine HeldTill.next (j := 11) (n := 0) (by kernel_rfl) rfl ?_
            have qc0 := LM.cell H28.out 1 rfl 0 rfl
            have qf0 := LM.free H28.out 1 rfl 0
            go_wp2
            have H29 : Aside0 (LM w (w28.setCell ⟨p9, 0, none⟩ (.slice A21 (touchM S W Xb n).length k21)) g l [(p8, #[.slice A20 (touchM S W Xa n).length k20], 39), (p9, #[.slice A21 (touchM S W Xb n).length k21], 39), (pb, #[.slice Ab Xb.length kb], 39), (pa, #[.slice A4 Xa.length k4], 39), (bc, #[.int .i64 S, .int .i64 W, .int .i64 L], 26)] [.s3 (.slice A21 (touchM S W Xb n).length k21) (touchM S W Xb n), .s3 (.slice A20 (touchM S W Xa n).length k20) (touchM S W Xa n), .s3 (.slice Ab Xb.length kb) Xb, .s3 (.slice A4 Xa.length k4) Xa]) := ⟨LM.put H28.out 1 rfl 0 (.slice A21 (touchM S W Xb n).length k21)⟩
            generalize (w28.setCell ⟨p9, 0, none⟩ (.slice A21 (touchM S W Xb n).length k21)) = w29 at *
            clear qc0 qf0
            refine ⟨(by first | exact fun _ => ⟨LM.cell H29.out 4 rfl 0 rfl, LM.cell H29.out 4 rfl 1 rfl, LM.cell H29.out 4 rfl 2 rfl, LM.cell H29.out 3 rfl 0 rfl, LM.cell H29.out 2 rfl 0 rfl⟩ | exact ⟨LM.cell H29.out 4 rfl 0 rfl, LM.cell H29.out 4 rfl 1 rfl, LM.cell H29.out 4 rfl 2 rfl, LM.cell H29.out 3 rfl 0 rfl, LM.cell H29.out 2 rfl 0 rfl⟩), ?_⟩
            refine ⟨by kernel_rfl, ?_⟩
            go_wp2_with fail
            go_meet
            case rel => exact ⟨_, _, _, _, _, _, rfl, rfl, ⟨LM.swap H29.out⟩⟩
        · skip
          go_wp2
          have H30 := Aside0.mk (LM.newB H20.out #[.slice none 0 0] 39 (by unfold BoxT; decide))
          generalize w20.heap.size = p8 at *
          generalize w20.alloc (.cells #[.slice none 0 0] 39) = w30 at *
          refine ⟨(by first | exact fun _ => ⟨LM.cell H30.out 3 rfl 0 rfl, LM.cell H30.out 3 rfl 1 rfl, LM.cell H30.out 3 rfl 2 rfl, LM.cell H30.out 2 rfl 0 rfl, LM.cell H30.out 1 rfl 0 rfl⟩ | exact ⟨LM.cell H30.out 3 rfl 0 rfl, LM.cell H30.out 3 rfl 1 rfl, LM.cell H30.out 3 rfl 2 rfl, LM.cell H30.out 2 rfl 0 rfl, LM.cell H30.out 1 rfl 0 rfl⟩), ?_⟩
          refine HeldTill.br [7, 9] (by kernel_rfl) (by simp) ?_
          refine BrAll.cons rfl ?_ (BrAll.cons rfl ?_ (BrAll.nil))
          · skip
            go_wp2_with (go_at_call 29; (with_reducible refine (LM.touch HC.out H30.out 1 rfl HVb.out.fit n).mono ?_); rintro e w31 ⟨A31, k31, rfl, hL⟩; have H31 := Aside0.mk hL; clear hL)
            refine ⟨(by first | exact fun _ => ⟨LM.cell H31.out 3 rfl 0 rfl, LM.cell H31.out 3 rfl 1 rfl, LM.cell H31.out 3 rfl 2 rfl, LM.cell H31.out 2 rfl 0 rfl, LM.cell H31.out 1 rfl 0 rfl⟩ | exact ⟨LM.cell H31.out 3 rfl 0 rfl, LM.cell H31.out 3 rfl 1 rfl, LM.cell H31.out 3 rfl 2 rfl, LM.cell H31.out 2 rfl 0 rfl, LM.cell H31.out 1 rfl 0 rfl⟩), ?_⟩
            refine HeldTill.next (j := 9) (n := 2) (by kernel_rfl) rfl ?_
            go_wp2
            have H32 := Aside0.mk (LM.newB H31.out #[.slice none 0 0] 39 (by unfold BoxT; decide))
            generalize w31.heap.size = p9 at *
            generalize w31.alloc (.cells #[.slice none 0 0] 39) = w32 at *
            refine ⟨(by first | exact fun _ => ⟨LM.cell H32.out 4 rfl 0 rfl, LM.cell H32.out 4 rfl 1 rfl, LM.cell H32.out 4 rfl 2 rfl, LM.cell H32.out 3 rfl 0 rfl, LM.cell H32.out 2 rfl 0 rfl⟩ | exact ⟨LM.cell H32.out 4 rfl 0 rfl, LM.cell H32.out 4 rfl 1 rfl, LM.cell H32.out 4 rfl 2 rfl, LM.cell H32.out 3 rfl 0 rfl, LM.cell H32.out 2 rfl 0 rfl⟩), ?_⟩
            refine HeldTill.next (j := 10) (n := 1) (by kernel_rfl) rfl ?_
            have qc0 := LM.cell H32.out 1 rfl 0 rfl
            have qf0 := LM.free H32.out 1 rfl 0
            go_wp2
            have H33 : Aside0 (LM w (w32.setCell ⟨p8, 0, none⟩ (.slice A20 (touchM S W Xa n).length k20)) g l [(p9, #[.slice none 0 0], 39), (p8, #[.slice A20 (touchM S W Xa n).length k20], 39), (pb, #[.slice Ab Xb.length kb], 39), (pa, #[.slice A4 Xa.length k4], 39), (bc, #[.int .i64 S, .int .i64 W, .int .i64 L], 26)] [.s3 (.slice A31 (touchM S W Xb n).length k31) (touchM S W Xb n), .s3 (.slice A20 (touchM S W Xa n).length k20) (touchM S W Xa n), .s3 (.slice Ab Xb.length kb) Xb, .s3 (.slice A4 Xa.length k4) Xa]) := ⟨LM.put H32.out 1 rfl 0 (.slice A20 (touchM S W Xa n).length k20)⟩
            generalize (w32.setCell ⟨p8, 0, none⟩ (.slice A20 (touchM S W Xa n).length k20)) = w33 at *
            clear qc0 qf0
            refine ⟨(by first | exact fun _ => ⟨LM.cell H33.out 4 rfl 0 rfl, LM.cell H33.out 4 rfl 1 rfl, LM.cell H33.out 4 rfl 2 rfl, LM.cell H33.out 3 rfl 0 rfl, LM.cell H33.out 2 rfl 0 rfl⟩ | exact ⟨LM.cell H33.out 4 rfl 0 rfl, LM.cell H33.out 4 rfl 1 rfl, LM.cell H33.out 4 rfl 2 rfl, LM.cell H33.out 3 rfl 0 rfl, LM.cell H33.out 2 rfl 0 rfl⟩), ?_⟩
            refine HeldTill.next (j := 11) (n := 0) (by kernel_rfl) rfl ?_
            have qc0 := LM.cell H33.out 0 rfl 0 rfl
            have qf0 := LM.free H33.out 0 rfl 0
            go_wp2
            have H34 : Aside0 (LM w (w33.setCell ⟨p9, 0, none⟩ (.slice A31 (touchM S W Xb n).length k31)) g l [(p9, #[.slice A31 (touchM S W Xb n).length k31], 39), (p8, #[.slice A20 (touchM S W Xa n).length k20], 39), (pb, #[.slice Ab Xb.length kb], 39), (pa, #[.slice A4 Xa.length k4], 39), (bc, #[.int .i64 S, .int .i64 W, .int .i64 L], 26)] [.s3 (.slice A31 (touchM S W Xb n).length k31) (touchM S W Xb n), .s3 (.slice A20 (touchM S W Xa n).length k20) (touchM S W Xa n), .s3 (.slice Ab Xb.length kb) Xb, .s3 (.slice A4 Xa.length k4) Xa]) := ⟨LM.put H33.out 0 rfl 0 (.slice A31 (touchM S W Xb n).length k31)⟩
            generalize (w33.setCell ⟨p9, 0, none⟩ (.slice A31 (touchM S W Xb n).length k31)) = w34 at *
            clear qc0 qf0
            refine ⟨(by first | exact fun _ => ⟨LM.cell H34.out 4 rfl 0 rfl, LM.cell H34.out 4 rfl 1 rfl, LM.cell H34.out 4 rfl 2 rfl, LM.cell H34.out 3 rfl 0 rfl, LM.cell H34.out 2 rfl 0 rfl⟩ | exact ⟨LM.cell H34.out 4 rfl 0 rfl, LM.cell H34.out 4 rfl 1 rfl, LM.cell H34.out 4 rfl 2 rfl, LM.cell H34.out 3 rfl 0 rfl, LM.cell H34.out 2 rfl 0 rfl⟩), ?_⟩
            refine ⟨by kernel_rfl, ?_⟩
            go_wp2_with fail
            go_meet
            case rel => exact ⟨_, _, _, _, _, _, rfl, rfl, ⟨H34.out⟩⟩
          · skip
            go_wp2
            have H35 := Aside0.mk (LM.newB H30.out #[.slice none 0 0] 39 (by unfold BoxT; decide))
            generalize w30.heap.size = p9 at *
            generalize w30.alloc (.cells #[.slice none 0 0] 39) = w35 at *
            refine ⟨(by first | exact fun _ => ⟨LM.cell H35.out 4 rfl 0 rfl, LM.cell H35.out 4 rfl 1 rfl, LM.cell H35.out 4 rfl 2 rfl, LM.cell H35.out 3 rfl 0 rfl, LM.cell H35.out 2 rfl 0 rfl⟩ | exact ⟨LM.cell H35.out 4 rfl 0 rfl, LM.cell H35.out 4 rfl 1 rfl, LM.cell H35.out 4 rfl 2 rfl, LM.cell H35.out 3 rfl 0 rfl, LM.cell H35.out 2 rfl 0 rfl⟩), ?_⟩
            refine HeldTill.next (j := 7) (n := 2) (by kernel_rfl) rfl ?_
            go_wp2_with (go_at_call 29; (with_reducible refine (LM.touch HC.out H35.out 1 rfl HVb.out.fit n).mono ?_); rintro e w36 ⟨A36, k36, rfl, hL⟩; have H36 := Aside0.mk hL; clear hL)
            refine ⟨(by first | exact fun _ => ⟨LM.cell H36.out 4 rfl 0 rfl, LM.cell H36.out 4 rfl 1 rfl, LM.cell H36.out 4 rfl 2 rfl, LM.cell H36.out 3 rfl 0 rfl, LM.cell H36.out 2 rfl 0 rfl⟩ | exact ⟨LM.cell H36.out 4 rfl 0 rfl, LM.cell H36.out 4 rfl 1 rfl, LM.cell H36.out 4 rfl 2 rfl, LM.cell H36.out 3 rfl 0 rfl, LM.cell H36.out 2 rfl 0 rfl⟩), ?_⟩
            refine HeldTill.next (j := 10) (n := 1) (by kernel_rfl) rfl ?_
            have qc0 := LM.cell H36.out 1 rfl 0 rfl
            have qf0 := LM.free H36.out 1 rfl 0
            go_wp2
            have H37 : Aside0 (LM w (w36.setCell ⟨p8, 0, none⟩ (.slice A20 (touchM S W Xa n).length k20)) g l [(p9, #[.slice none 0 0], 39), (p8, #[.slice A20 (touchM S W Xa n).length k20], 39), (pb, #[.slice Ab Xb.length kb], 39), (pa, #[.slice A4 Xa.length k4], 39), (bc, #[.int .i64 S, .int .i64 W, .int .i64 L], 26)] [.s3 (.slice A36 (touchM S W Xb n).length k36) (touchM S W Xb n), .s3 (.slice A20 (touchM S W Xa n).length k20) (touchM S W Xa n), .s3 (.slice Ab Xb.length kb) Xb, .s3 (.slice A4 Xa.length k4) Xa]) := ⟨LM.put H36.out 1 rfl 0 (.slice A20 (touchM S W Xa n).length k20)⟩
            generalize (w36.setCell ⟨p8, 0, none⟩ (.slice A20 (touchM S W Xa n).length k20)) = w37 at *
            clear qc0 qf0
            refine ⟨(by first | exact fun _ => ⟨LM.cell H37.out 4 rfl 0 rfl, LM.cell H37.out 4 rfl 1 rfl, LM.cell H37.out 4 rfl 2 rfl, LM.cell H37.out 3 rfl 0 rfl, LM.cell H37.out 2 rfl 0 rfl⟩ | exact ⟨LM.cell H37.out 4 rfl 0 rfl, LM.cell H37.out 4 rfl 1 rfl, LM.cell H37.out 4 rfl 2 rfl, LM.cell H37.out 3 rfl 0 rfl, LM.cell H37.out 2 rfl 0 rfl⟩), ?_⟩
            refine HeldTill.next (j := 11) (n := 0) (by kernel_rfl) rfl ?_
            have qc0 := LM.cell H37.out 0 rfl 0 rfl
            have qf0 := LM.free H37.out 0 rfl 0
            go_wp2
            have H38 : Aside0 (LM w (w37.setCell ⟨p9, 0, none⟩ (.slice A36 (touchM S W Xb n).length k36)) g l [(p9, #[.slice A36 (touchM S W Xb n).length k36], 39), (p8, #[.slice A20 (touchM S W Xa n).length k20], 39), (pb, #[.slice Ab Xb.length kb], 39), (pa, #[.slice A4 Xa.length k4], 39), (bc, #[.int .i64 S, .int .i64 W, .int .i64 L], 26)] [.s3 (.slice A36 (touchM S W Xb n).length k36) (touchM S W Xb n), .s3 (.slice A20 (touchM S W Xa n).length k20) (touchM S W Xa n), .s3 (.slice Ab Xb.length kb) Xb, .s3 (.slice A4 Xa.length k4) Xa]) := ⟨LM.put H37.out 0 rfl 0 (.slice A36 (touchM S W Xb n).length k36)⟩
            generalize (w37.setCell ⟨p9, 0, none⟩ (.slice A36 (touchM S W Xb n).length k36)) = w38 at *
            clear qc0 qf0
            refine ⟨(by first | exact fun _ => ⟨LM.cell H38.out 4 rfl 0 rfl, LM.cell H38.out 4 rfl 1 rfl, LM.cell H38.out 4 rfl 2 rfl, LM.cell H38.out 3 rfl 0 rfl, LM.cell H38.out 2 rfl 0 rfl⟩ | exact ⟨LM.cell H38.out 4 rfl 0 rfl, LM.cell H38.out 4 rfl 1 rfl, LM.cell H38.out 4 rfl 2 rfl, LM.cell H38.out 3 rfl 0 rfl, LM.cell H38.out 2 rfl 0 rfl⟩), ?_⟩
            refine ⟨by kernel_rfl, ?_⟩
            go_wp2_with fail
            go_meet
            case rel => exact ⟨_, _, _, _, _, _, rfl, rfl, ⟨H38.out⟩⟩
        · skip
          go_wp2
          have H39 := Aside0.mk (LM.newB H20.out #[.slice none 0 0] 39 (by unfold BoxT; decide))
          generalize w20.heap.size = p9 at *
          generalize w20.alloc (.cells #[.slice none 0 0] 39) = w39 at *
          refine ⟨(by first | exact fun _ => ⟨LM.cell H39.out 3 rfl 0 rfl, LM.cell H39.out 3 rfl 1 rfl, LM.cell H39.out 3 rfl 2 rfl, LM.cell H39.out 2 rfl 0 rfl, LM.cell H39.out 1 rfl 0 rfl⟩ | exact ⟨LM.cell H39.out 3 rfl 0 rfl, LM.cell H39.out 3 rfl 1 rfl, LM.cell H39.out 3 rfl 2 rfl, LM.cell H39.out 2 rfl 0 rfl, LM.cell H39.out 1 rfl 0 rfl⟩), ?_⟩
          refine HeldTill.br [7, 8] (by kernel_rfl) (by simp) ?_
          refine BrAll.cons rfl ?_ (BrAll.cons rfl ?_ (BrAll.nil))
          · skip
            go_wp2_with (go_at_call 29; (with_reducible refine (LM.touch HC.out H39.out 1 rfl HVb.out.fit n).mono ?_); rintro e w40 ⟨A40, k40, rfl, hL⟩; have H40 := Aside0.mk hL; clear hL)
            refine ⟨(by first | exact fun _ => ⟨LM.cell H40.out 3 rfl 0 rfl, LM.cell H40.out 3 rfl 1 rfl, LM.cell H40.out 3 rfl 2 rfl, LM.cell H40.out 2 rfl 0 rfl, LM.cell H40.out 1 rfl 0 rfl⟩ | exact ⟨LM.cell H40.out 3 rfl 0 rfl, LM.cell H40.out 3 rfl 1 rfl, LM.cell H40.out 3 rfl 2 rfl, LM.cell H40.out 2 rfl 0 rfl, LM.cell H40.out 1 rfl 0 rfl⟩), ?_⟩
            refine HeldTill.next (j := 8) (n := 2) (by kernel_rfl) rfl ?_
            go_wp2
            have H41 := Aside0.mk (LM.newB H40.out #[.slice none 0 0] 39 (by unfold BoxT; decide))
            generalize w40.heap.size = p8 at *
            generalize w40.alloc (.cells #[.slice none 0 0] 39) = w41 at *
            refine ⟨(by first | exact fun _ => ⟨LM.cell H41.out 4 rfl 0 rfl, LM.cell H41.out 4 rfl 1 rfl, LM.cell H41.out 4 rfl 2 rfl, LM.cell H41.out 3 rfl 0 rfl, LM.cell H41.out 2 rfl 0 rfl⟩ | exact ⟨LM.cell H41.out 4 rfl 0 rfl, LM.cell H41.out 4 rfl 1 rfl, LM.cell H41.out 4 rfl 2 rfl, LM.cell H41.out 3 rfl 0 rfl, LM.cell H41.out 2 rfl 0 rfl⟩), ?_⟩
            refine HeldTill.next (j := 10) (n := 1) (by kernel_rfl) rfl ?_
            have qc0 := LM.cell H41.out 0 rfl 0 rfl
            have qf0 := LM.free H41.out 0 rfl 0
            go_wp2
            have H42 : Aside0 (LM w (w41.setCell ⟨p8, 0, none⟩ (.slice A20 (touchM S W Xa n).length k20)) g l [(p8, #[.slice A20 (touchM S W Xa n).length k20], 39), (p9, #[.slice none 0 0], 39), (pb, #[.slice Ab Xb.length kb], 39), (pa, #[.slice A4 Xa.length k4], 39), (bc, #[.int .i64 S, .int .i64 W, .int .i64 L], 26)] [.s3 (.slice A40 (touchM S W Xb n).length k40) (touchM S W Xb n), .s3 (.slice A20 (touchM S W Xa n).length k20) (touchM S W Xa n), .s3 (.slice Ab Xb.length kb) Xb, .s3 (.slice A4 Xa.length k4) Xa]) := ⟨LM.put H41.out 0 rfl 0 (.slice A20 (touchM S W Xa n).length k20)⟩
            generalize (w41.setCell ⟨p8, 0, none⟩ (.slice A20 (touchM S W Xa n).length k20)) = w42 at *
            clear qc0 qf0
            refine ⟨(by first | exact fun _ => ⟨LM.cell H42.out 4 rfl 0 rfl, LM.cell H42.out 4 rfl 1 rfl, LM.cell H42.out 4 rfl 2 rfl, LM.cell H42.out 3 rfl 0 rfl, LM.cell H42.out 2 rfl 0 rfl⟩ | exact ⟨LM.cell H42.out 4 rfl 0 rfl, LM.cell H42.out 4 rfl 1 rfl, LM.cell H42.out 4 rfl 2 rfl, LM.cell H42.out 3 rfl 0 rfl, LM.cell H42.out 2 rfl 0 rfl⟩), ?_⟩
            refine HeldTill.next (j := 11) (n := 0) (by kernel_rfl) rfl ?_
            have qc0 := LM.cell H42.out 1 rfl 0 rfl
            have qf0 := LM.free H42.out 1 rfl 0
            go_wp2
            have H43 : Aside0 (LM w (w42.setCell ⟨p9, 0, none⟩ (.slice A40 (touchM S W Xb n).length k40)) g l [(p8, #[.slice A20 (touchM S W Xa n).length k20], 39), (p9, #[.slice A40 (touchM S W Xb n).length k40], 39), (pb, #[.slice Ab Xb.length kb], 39), (pa, #[.slice A4 Xa.length k4], 39), (bc, #[.int .i64 S, .int .i64 W, .int .i64 L], 26)] [.s3 (.slice A40 (touchM S W Xb n).length k40) (touchM S W Xb n), .s3 (.slice A20 (touchM S W Xa n).length k20) (touchM S W Xa n), .s3 (.slice Ab Xb.length kb) Xb, .s3 (.slice A4 Xa.length k4) Xa]) := ⟨LM.put H42.out 1 rfl 0 (.slice A40 (touchM S W Xb n).length k40)⟩
            generalize (w42.setCell ⟨p9, 0, none⟩ (.slice A40 (touchM S W Xb n).length k40)) = w43 at *
            clear qc0 qf0
            refine ⟨(by first | exact fun _ => ⟨LM.cell H43.out 4 rfl 0 rfl, LM.cell H43.out 4 rfl 1 rfl, LM.cell H43.out 4 rfl 2 rfl, LM.cell H43.out 3 rfl 0 rfl, LM.cell H43.out 2 rfl 0 rfl⟩ | exact ⟨LM.cell H43.out 4 rfl 0 rfl, LM.cell H43.out 4 rfl 1 rfl, LM.cell H43.out 4 rfl 2 rfl, LM.cell H43.out 3 rfl 0 rfl, LM.cell H43.out 2 rfl 0 rfl⟩), ?_⟩
            refine ⟨by kernel_rfl, ?_⟩
            go_wp2_with fail
            go_meet
            case rel => exact ⟨_, _, _, _, _, _, rfl, rfl, ⟨LM.swap H43.out⟩⟩
          · skip
            go_wp2
            have H44 := Aside0.mk (LM.newB H39.out #[.slice none 0 0] 39 (by unfold BoxT; decide))
            generalize w39.heap.size = p8 at *
            generalize w39.alloc (.cells #[.slice none 0 0] 39) = w44 at *
            refine ⟨(by first | exact fun _ => ⟨LM.cell H44.out 4 rfl 0 rfl, LM.cell H44.out 4 rfl 1 rfl, LM.cell H44.out 4 rfl 2 rfl, LM.cell H44.out 3 rfl 0 rfl, LM.cell H44.out 2 rfl 0 rfl⟩ | exact ⟨LM.cell H44.out 4 rfl 0 rfl, LM.cell H44.out 4 rfl 1 rfl, LM.cell H44.out 4 rfl 2 rfl, LM.cell H44.out 3 rfl 0 rfl, LM.cell H44.out 2 rfl 0 rfl⟩), ?_⟩
            refine HeldTill.next (j := 7) (n := 2) (by kernel_rfl) rfl ?_
            go_wp2_with (go_at_call 29; (with_reducible refine (LM.touch HC.out H44.out 1 rfl HVb.out.fit n).mono ?_); rintro e w45 ⟨A45, k45, rfl, hL⟩; have H45 := Aside0.mk hL; clear hL)
            refine ⟨(by first | exact fun _ => ⟨LM.cell H45.out 4 rfl 0 rfl, LM.cell H45.out 4 rfl 1 rfl, LM.cell H45.out 4 rfl 2 rfl, LM.cell H45.out 3 rfl 0 rfl, LM.cell H45.out 2 rfl 0 rfl⟩ | exact ⟨LM.cell H45.out 4 rfl 0 rfl, LM.cell H45.out 4 rfl 1 rfl, LM.cell H45.out 4 rfl 2 rfl, LM.cell H45.out 3 rfl 0 rfl, LM.cell H45.out 2 rfl 0 rfl⟩), ?_⟩
            refine HeldTill.next (j := 10) (n := 1) (by kernel_rfl) rfl ?_
            have qc0 := LM.cell H45.out 0 rfl 0 rfl
            have qf0 := LM.free H45.out 0 rfl 0
            go_wp2
            have H46 : Aside0 (LM w (w45.setCell ⟨p8, 0, none⟩ (.slice A20 (touchM S W Xa n).length k20)) g l [(p8, #[.slice A20 (touchM S W Xa n).length k20], 39), (p9, #[.slice none 0 0], 39), (pb, #[.slice Ab Xb.length kb], 39), (pa, #[.slice A4 Xa.length k4], 39), (bc, #[.int .i64 S, .int .i64 W, .int .i64 L], 26)] [.s3 (.slice A45 (touchM S W Xb n).length k45) (touchM S W Xb n), .s3 (.slice A20 (touchM S W Xa n).length k20) (touchM S W Xa n), .s3 (.slice Ab Xb.length kb) Xb, .s3 (.slice A4 Xa.length k4) Xa]) := ⟨LM.put H45.out 0 rfl 0 (.slice A20 (touchM S W Xa n).length k20)⟩
            generalize (w45.setCell ⟨p8, 0, none⟩ (.slice A20 (touchM S W Xa n).length k20)) = w46 at *
            clear qc0 qf0
            refine ⟨(by first | exact fun _ => ⟨LM.cell H46.out 4 rfl 0 rfl, LM.cell H46.out 4 rfl 1 rfl, LM.cell H46.out 4 rfl 2 rfl, LM.cell H46.out 3 rfl 0 rfl, LM.cell H46.out 2 rfl 0 rfl⟩ | exact ⟨LM.cell H46.out 4 rfl 0 rfl, LM.cell H46.out 4 rfl 1 rfl, LM.cell H46.out 4 rfl 2 rfl, LM.cell H46.out 3 rfl 0 rfl, LM.cell H46.out 2 rfl 0 rfl⟩), ?_⟩
            refine HeldTill.next (j := 11) (n := 0) (by kernel_rfl) rfl ?_
            have qc0 := LM.cell H46.out 1 rfl 0 rfl
            have qf0 := LM.free H46.out 1 rfl 0
            go_wp2
            have H47 : Aside0 (LM w (w46.setCell ⟨p9, 0, none⟩ (.slice A45 (touchM S W Xb n).length k45)) g l [(p8, #[.slice A20 (touchM S W Xa n).length k20], 39), (p9, #[.slice A45 (touchM S W Xb n).length k45], 39), (pb, #[.slice Ab Xb.length kb], 39), (pa, #[.slice A4 Xa.length k4], 39), (bc, #[.int .i64 S, .int .i64 W, .int .i64 L], 26)] [.s3 (.slice A45 (touchM S W Xb n).length k45) (touchM S W Xb n), .s3 (.slice A20 (touchM S W Xa n).length k20) (touchM S W Xa n), .s3 (.slice Ab Xb.length kb) Xb, .s3 (.slice A4 Xa.length k4) Xa]) := ⟨LM.put H46.out 1 rfl 0 (.slice A45 (touchM S W Xb n).length k45)⟩
            generalize (w46.setCell ⟨p9, 0, none⟩ (.slice A45 (touchM S W Xb n).length k45)) = w47 at *
            clear qc0 qf0
            refine ⟨(by first | exact fun _ => ⟨LM.cell H47.out 4 rfl 0 rfl, LM.cell H47.out 4 rfl 1 rfl, LM.cell H47.out 4 rfl 2 rfl, LM.cell H47.out 3 rfl 0 rfl, LM.cell H47.out 2 rfl 0 rfl⟩ | exact ⟨LM.cell H47.out 4 rfl 0 rfl, LM.cell H47.out 4 rfl 1 rfl, LM.cell H47.out 4 rfl 2 rfl, LM.cell H47.out 3 rfl 0 rfl, LM.cell H47.out 2 rfl 0 rfl⟩), ?_⟩
            refine ⟨by kernel_rfl, ?_⟩
            go_wp2_with fail
            go_meet
            case rel => exact ⟨_, _, _, _, _, _, rfl, rfl, ⟨LM.swap H47.out⟩⟩
      · skip
        go_wp2
        have H48 := Aside0.mk (LM.newB H19.out #[.slice none 0 0] 39 (by unfold BoxT; decide))
        generalize w19.heap.size = p8 at *
        generalize w19.alloc (.cells #[.slice none 0 0] 39) = w48 at *
        refine ⟨(by first | exact fun _ => ⟨LM.cell H48.out 3 rfl 0 rfl, LM.cell H48.out 3 rfl 1 rfl, LM.cell H48.out 3 rfl 2 rfl, LM.cell H48.out 2 rfl 0 rfl, LM.cell H48.out 1 rfl 0 rfl⟩ | exact ⟨LM.cell H48.out 3 rfl 0 rfl, LM.cell H48.out 3 rfl 1 rfl, LM.cell H48.out 3 rfl 2 rfl, LM.cell H48.out 2 rfl 0 rfl, LM.cell H48.out 1 rfl 0 rfl⟩), ?_⟩
        refine HeldTill.br [3, 9] (by kernel_rfl) (by simp) ?_
        refine BrAll.cons rfl ?_ (BrAll.cons rfl ?_ (BrAll.nil))
        · skip
          go_wp2_with (go_at_call 29; (with_reducible refine (LM.touch HC.out H48.out 1 rfl HVXa.out.fit n).mono ?_); rintro e w49 ⟨A49, k49, rfl, hL⟩; have H49 := Aside0.mk hL; clear hL)
          refine ⟨(by first | exact fun _ => ⟨LM.cell H49.out 3 rfl 0 rfl, LM.cell H49.out 3 rfl 1 rfl, LM.cell H49.out 3 rfl 2 rfl, LM.cell H49.out 2 rfl 0 rfl, LM.cell H49.out 1 rfl 0 rfl⟩ | exact ⟨LM.cell H49.out 3 rfl 0 rfl, LM.cell H49.out 3 rfl 1 rfl, LM.cell H49.out 3 rfl 2 rfl, LM.cell H49.out 2 rfl 0 rfl, LM.cell H49.out 1 rfl 0 rfl⟩), ?_⟩
          refine HeldTill.br [7, 9] (by kernel_rfl) (by simp) ?_
          refine BrAll.cons rfl ?_ (BrAll.cons rfl ?_ (BrAll.nil))
          · skip
            go_wp2_with (go_at_call 29; (with_reducible refine (LM.touch HC.out H49.out 1 rfl HVb.out.fit n).mono ?_); rintro e w50 ⟨A50, k50, rfl, hL⟩; have H50 := Aside0.mk hL; clear hL)
            refine ⟨(by first | exact fun _ => ⟨LM.cell H50.out 3 rfl 0 rfl, LM.cell H50.out 3 rfl 1 rfl, LM.cell H50.out 3 rfl 2 rfl, LM.cell H50.out 2 rfl 0 rfl, LM.cell H50.out 1 rfl 0 rfl⟩ | exact ⟨LM.cell H50.out 3 rfl 0 rfl, LM.cell H50.out 3 rfl 1 rfl, LM.cell H50.out 3 rfl 2 rfl, LM.cell H50.out 2 rfl 0 rfl, LM.cell H50.out 1 rfl 0 rfl⟩), ?_⟩
            refine HeldTill.next (j := 9) (n := 2) (by kernel_rfl) rfl ?_
            go_wp2
            have H51 := Aside0.mk (LM.newB H50.out #[.slice none 0 0] 39 (by unfold BoxT; decide))
            generalize w50.heap.size = p9 at *
            generalize w50.alloc (.cells #[.slice none 0 0] 39) = w51 at *
            refine ⟨(by first | exact fun _ => ⟨LM.cell H51.out 4 rfl 0 rfl, LM.cell H51.out 4 rfl 1 rfl, LM.cell H51.out 4 rfl 2 rfl, LM.cell H51.out 3 rfl 0 rfl, LM.cell H51.out 2 rfl 0 rfl⟩ | exact ⟨LM.cell H51.out 4 rfl 0 rfl, LM.cell H51.out 4 rfl 1 rfl, LM.cell H51.out 4 rfl 2 rfl, LM.cell H51.out 3 rfl 0 rfl, LM.cell H51.out 2 rfl 0 rfl⟩), ?_⟩
            refine HeldTill.next (j := 10) (n := 1) (by kernel_rfl) rfl ?_
            have qc0 := LM.cell H51.out 1 rfl 0 rfl
            have qf0 := LM.free H51.out 1 rfl 0
            go_wp2
            have H52 : Aside0 (LM w (w51.setCell ⟨p8, 0, none⟩ (.slice A49 (touchM S W Xa n).length k49)) g l [(p9, #[.slice none 0 0], 39), (p8, #[.slice A49 (touchM S W Xa n).length k49], 39), (pb, #[.slice Ab Xb.length kb], 39), (pa, #[.slice A4 Xa.length k4], 39), (bc, #[.int .i64 S, .int .i64 W, .int .i64 L], 26)] [.s3 (.slice A50 (touchM S W Xb n).length k50) (touchM S W Xb n), .s3 (.slice A49 (touchM S W Xa n).length k49) (touchM S W Xa n), .s3 (.slice Ab Xb.length kb) Xb, .s3 (.slice A4 Xa.length k4) Xa]) := ⟨LM.put H51.out 1 rfl 0 (.slice A49 (touchM S W Xa n).length k49)⟩
            generalize (w51.setCell ⟨p8, 0, none⟩ (.slice A49 (touchM S W Xa n).length k49)) = w52 at *
            clear qc0 qf0
            refine ⟨(by first | exact fun _ => ⟨LM.cell H52.out 4 rfl 0 rfl, LM.cell H52.out 4 rfl 1 rfl, LM.cell H52.out 4 rfl 2 rfl, LM.cell H52.out 3 rfl 0 rfl, LM.cell H52.out 2 rfl 0 rfl⟩ | exact ⟨LM.cell H52.out 4 rfl 0 rfl, LM.cell H52.out 4 rfl 1 rfl, LM.cell H52.out 4 rfl 2 rfl, LM.cell H52.out 3 rfl 0 rfl, LM.cell H52.out 2 rfl 0 rfl⟩), ?_⟩
            refine HeldTill.next (j := 11) (n := 0) (by kernel_rfl) rfl ?_
            have qc0 := LM.cell H52.out 0 rfl 0 rfl
            have qf0 := LM.free H52.out 0 rfl 0
            go_wp2
            have H53 : Aside0 (LM w (w52.setCell ⟨p9, 0, none⟩ (.slice A50 (touchM S W Xb n).length k50)) g l [(p9, #[.slice A50 (touchM S W Xb n).length k50], 39), (p8, #[.slice A49 (touchM S W Xa n).length k49], 39), (pb, #[.slice Ab Xb.length kb], 39), (pa, #[.slice A4 Xa.length k4], 39), (bc, #[.int .i64 S, .int .i64 W, .int .i64 L], 26)] [.s3 (.slice A50 (touchM S W Xb n).length k50) (touchM S W Xb n), .s3 (.slice A49 (touchM S W Xa n).length k49) (touchM S W Xa n), .s3 (.slice Ab Xb.length kb) Xb, .s3 (.slice A4 Xa.length k4) Xa]) := ⟨LM.put H52.out 0 rfl 0 (.slice A50 (touchM S W Xb n).length k50)⟩
            generalize (w52.setCell ⟨p9, 0, none⟩ (.slice A50 (touchM S W Xb n).length k50)) = w53 at *
            clear qc0 qf0
            refine ⟨(by first | exact fun _ => ⟨LM.cell H53.out 4 rfl 0 rfl, LM.cell H53.out 4 rfl 1 rfl, LM.cell H53.out 4 rfl 2 rfl, LM.cell H53.out 3 rfl 0 rfl, LM.cell H53.out 2 rfl 0 rfl⟩ | exact ⟨LM.cell H53.out 4 rfl 0 rfl, LM.cell H53.out 4 rfl 1 rfl, LM.cell H53.out 4 rfl 2 rfl, LM.cell H53.out 3 rfl 0 rfl, LM.cell H53.out 2 rfl 0 rfl⟩), ?_⟩
            refine ⟨by kernel_rfl, ?_⟩
            go_wp2_with fail
            go_meet
            case rel => exact ⟨_, _, _, _, _, _, rfl, rfl, ⟨H53.out⟩⟩
          · skip
            go_wp2
            have H54 := Aside0.mk (LM.newB H49.out #[.slice none 0 0] 39 (by unfold BoxT; decide))
            generalize w49.heap.size = p9 at *
            generalize w49.alloc (.cells #[.slice none 0 0] 39) = w54 at *
            refine ⟨(by first | exact fun _ => ⟨LM.cell H54.out 4 rfl 0 rfl, LM.cell H54.out 4 rfl 1 rfl, LM.cell H54.out 4 rfl 2 rfl, LM.cell H54.out 3 rfl 0 rfl, LM.cell H54.out 2 rfl 0 rfl⟩ | exact ⟨LM.cell H54.out 4 rfl 0 rfl, LM.cell H54.out 4 rfl 1 rfl, LM.cell H54.out 4 rfl 2 rfl, LM.cell H54.out 3 rfl 0 rfl, LM.cell H54.out 2 rfl 0 rfl⟩), ?_⟩
            refine HeldTill.next (j := 7) (n := 2) (by kernel_rfl) rfl ?_
            go_wp2_with (go_at_call 29; (with_reducible refine (LM.touch HC.out H54.out 1 rfl HVb.out.fit n).mono ?_); rintro e w55 ⟨A55, k55, rfl, hL⟩; have H55 := Aside0.mk hL; clear hL)
            refine ⟨(by first | exact fun _ => ⟨LM.cell H55.out 4 rfl 0 rfl, LM.cell H55.out 4 rfl 1 rfl, LM.cell H55.out 4 rfl 2 rfl, LM.cell H55.out 3 rfl 0 rfl, LM.cell H55.out 2 rfl 0 rfl⟩ | exact ⟨LM.cell H55.out 4 rfl 0 rfl, LM.cell H55.out 4 rfl 1 rfl, LM.cell H55.out 4 rfl 2 rfl, LM.cell H55.out 3 rfl 0 rfl, LM.cell H55.out 2 rfl 0 rfl⟩), ?_⟩
            refine HeldTill.next (j := 10) (n := 1) (by kernel_rfl) rfl ?_
            have qc0 := LM.cell H55.out 1 rfl 0 rfl
            have qf0 := LM.free H55.out 1 rfl 0
            go_wp2
            have H56 : Aside0 (LM w (w55.setCell ⟨p8, 0, none⟩ (.slice A49 (touchM S W Xa n).length k49)) g l [(p9, #[.slice none 0 0], 39), (p8, #[.slice A49 (touchM S W Xa n).length k49], 39), (pb, #[.slice Ab Xb.length kb], 39), (pa, #[.slice A4 Xa.length k4], 39), (bc, #[.int .i64 S, .int .i64 W, .int .i64 L], 26)] [.s3 (.slice A55 (touchM S W Xb n).length k55) (touchM S W Xb n), .s3 (.slice A49 (touchM S W Xa n).length k49) (touchM S W Xa n), .s3 (.slice Ab Xb.length kb) Xb, .s3 (.slice A4 Xa.length k4) Xa]) := ⟨LM.put H55.out 1 rfl 0 (.slice A49 (touchM S W Xa n).length k49)⟩
            generalize (w55.setCell ⟨p8, 0, none⟩ (.slice A49 (touchM S W Xa n).length k49)) = w56 at *
            clear qc0 qf0
            refine ⟨(by first | exact fun _ => ⟨LM.cell H56.out 4 rfl 0 rfl, LM.cell H56.out 4 rfl 1 rfl, LM.cell H56.out 4 rfl 2 rfl, LM.cell H56.out 3 rfl 0 rfl, LM.cell H56.out 2 rfl 0 rfl⟩ | exact ⟨LM.cell H56.out 4 rfl 0 rfl, LM.cell H56.out 4 rfl 1 rfl, LM.cell H56.out 4 rfl 2 rfl, LM.cell H56.out 3 rfl 0 rfl, LM.cell H56.out 2 rfl 0 rfl⟩), ?_⟩
            refine HeldTill.next (j := 11) (n := 0) (by kernel_rfl) rfl ?_
            have qc0 := LM.cell H56.out 0 rfl 0 rfl
            have qf0 := LM.free H56.out 0 rfl 0
            go_wp2
            have H57 : Aside0 (LM w (w56.setCell ⟨p9, 0, none⟩ (.slice A55 (touchM S W Xb n).length k55)) g l [(p9, #[.slice A55 (touchM S W Xb n).length k55], 39), (p8, #[.slice A49 (touchM S W Xa n).length k49], 39), (pb, #[.slice Ab Xb.length kb], 39), (pa, #[.slice A4 Xa.length k4], 39), (bc, #[.int .i64 S, .int .i64 W, .int .i64 L], 26)] [.s3 (.slice A55 (touchM S W Xb n).length k55) (touchM S W Xb n), .s3 (.slice A49 (touchM S W Xa n).length k49) (touchM S W Xa n), .s3 (.slice Ab Xb.length kb) Xb, .s3 (.slice A4 Xa.length k4) Xa]) := ⟨LM.put H56.out 0 rfl 0 (.slice A55 (touchM S W Xb n).length k55)⟩
            generalize (w56.setCell ⟨p9, 0, none⟩ (.slice A55 (touchM S W Xb n).length k55)) = w57 at *
            clear qc0 qf0
            refine ⟨(by first | exact fun _ => ⟨LM.cell H57.out 4 rfl 0 rfl, LM.cell H57.out 4 rfl 1 rfl, LM.cell H57.out 4 rfl 2 rfl, LM.cell H57.out 3 rfl 0 rfl, LM.cell H57.out 2 rfl 0 rfl⟩ | exact ⟨LM.cell H57.out 4 rfl 0 rfl, LM.cell H57.out 4 rfl 1 rfl, LM.cell H57.out 4 rfl 2 rfl, LM.cell H57.out 3 rfl 0 rfl, LM.cell H57.out 2 rfl 0 rfl⟩), ?_⟩
            refine ⟨by kernel_rfl, ?_⟩
            go_wp2_with fail
            go_meet
            case rel => exact ⟨_, _, _, _, _, _, rfl, rfl, ⟨H57.out⟩⟩
        · skip
          go_wp2
          have H58 := Aside0.mk (LM.newB H48.out #[.slice none 0 0] 39 (by unfold BoxT; decide))
          generalize w48.heap.size = p9 at *
          generalize w48.alloc (.cells #[.slice none 0 0] 39) = w58 at *
          refine ⟨(by first | exact fun _ => ⟨LM.cell H58.out 4 rfl 0 rfl, LM.cell H58.out 4 rfl 1 rfl, LM.cell H58.out 4 rfl 2 rfl, LM.cell H58.out 3 rfl 0 rfl, LM.cell H58.out 2 rfl 0 rfl⟩ | exact ⟨LM.cell H58.out 4 rfl 0 rfl, LM.cell H58.out 4 rfl 1 rfl, LM.cell H58.out 4 rfl 2 rfl, LM.cell H58.out 3 rfl 0 rfl, LM.cell H58.out 2 rfl 0 rfl⟩), ?_⟩
          refine HeldTill.next (j := 3) (n := 3) (by kernel_rfl) rfl ?_
          go_wp2_with (go_at_call 29; (with_reducible refine (LM.touch HC.out H58.out 1 rfl HVXa.out.fit n).mono ?_); rintro e w59 ⟨A59, k59, rfl, hL⟩; have H59 := Aside0.mk hL; clear hL)
          refine ⟨(by first | exact fun _ => ⟨LM.cell H59.out 4 rfl 0 rfl, LM.cell H59.out 4 rfl 1 rfl, LM.cell H59.out 4 rfl 2 rfl, LM.cell H59.out 3 rfl 0 rfl, LM.cell H59.out 2 rfl 0 rfl⟩ | exact ⟨LM.cell H59.out 4 rfl 0 rfl, LM.cell H59.out 4 rfl 1 rfl, LM.cell H59.out 4 rfl 2 rfl, LM.cell H59.out 3 rfl 0 rfl, LM.cell H59.out 2 rfl 0 rfl⟩), ?_⟩
          refine HeldTill.next (j := 7) (n := 2) (by kernel_rfl) rfl ?_
          go_wp2_with (go_at_call 29; (with_reducible refine (LM.touch HC.out H59.out 1 rfl HVb.out.fit n).mono ?_); rintro e w60 ⟨A60, k60, rfl, hL⟩; have H60 := Aside0.mk hL; clear hL)
          refine ⟨(by first | exact fun _ => ⟨LM.cell H60.out 4 rfl 0 rfl, LM.cell H60.out 4 rfl 1 rfl, LM.cell H60.out 4 rfl 2 rfl, LM.cell H60.out 3 rfl 0 rfl, LM.cell H60.out 2 rfl 0 rfl⟩ | exact ⟨LM.cell H60.out 4 rfl 0 rfl, LM.cell H60.out 4 rfl 1 rfl, LM.cell H60.out 4 rfl 2 rfl, LM.cell H60.out 3 rfl 0 rfl, LM.cell H60.out 2 rfl 0 rfl⟩), ?_⟩
          refine HeldTill.next (j := 10) (n := 1) (by kernel_rfl) rfl ?_
          have qc0 := LM.cell H60.out 1 rfl 0 rfl
          have qf0 := LM.free H60.out 1 rfl 0
          go_wp2
          have H61 : Aside0 (LM w (w60.setCell ⟨p8, 0, none⟩ (.slice A59 (touchM S W Xa n).length k59)) g l [(p9, #[.slice none 0 0], 39), (p8, #[.slice A59 (touchM S W Xa n).length k59], 39), (pb, #[.slice Ab Xb.length kb], 39), (pa, #[.slice A4 Xa.length k4], 39), (bc, #[.int .i64 S, .int .i64 W, .int .i64 L], 26)] [.s3 (.slice A60 (touchM S W Xb n).length k60) (touchM S W Xb n), .s3 (.slice A59 (touchM S W Xa n).length k59) (touchM S W Xa n), .s3 (.slice Ab Xb.length kb) Xb, .s3 (.slice A4 Xa.length k4) Xa]) := ⟨LM.put H60.out 1 rfl 0 (.slice A59 (touchM S W Xa n).length k59)⟩
          generalize (w60.setCell ⟨p8, 0, none⟩ (.slice A59 (touchM S W Xa n).length k59)) = w61 at *
          clear qc0 qf0
          refine ⟨(by first | exact fun _ => ⟨LM.cell H61.out 4 rfl 0 rfl, LM.cell H61.out 4 rfl 1 rfl, LM.cell H61.out 4 rfl 2 rfl, LM.cell H61.out 3 rfl 0 rfl, LM.cell H61.out 2 rfl 0 rfl⟩ | exact ⟨LM.cell H61.out 4 rfl 0 rfl, LM.cell H61.out 4 rfl 1 rfl, LM.cell H61.out 4 rfl 2 rfl, LM.cell H61.out 3 rfl 0 rfl, LM.cell H61.out 2 rfl 0 rfl⟩), ?_⟩
          refine HeldTill.next (j := 11) (n := 0) (by kernel_rfl) rfl ?_
          have qc0 := LM.cell H61.out 0 rfl 0 rfl
          have qf0 := LM.free H61.out 0 rfl 0
          go_wp2
          have H62 : Aside0 (LM w (w61.setCell ⟨p9, 0, none⟩ (.slice A60 (touchM S W Xb n).length k60)) g l [(p9, #[.slice A60 (touchM S W Xb n).length k60], 39), (p8, #[.slice A59 (touchM S W Xa n).length k59], 39), (pb, #[.slice Ab Xb.length kb], 39), (pa, #[.slice A4 Xa.length k4], 39), (bc, #[.int .i64 S, .int .i64 W, .int .i64 L], 26)] [.s3 (.slice A60 (touchM S W Xb n).length k60) (touchM S W Xb n), .s3 (.slice A59 (touchM S W Xa n).length k59) (touchM S W Xa n), .s3 (.slice Ab Xb.length kb) Xb, .s3 (.slice A4 Xa.length k4) Xa]) := ⟨LM.put H61.out 0 rfl 0 (.slice A60 (touchM S W Xb n).length k60)⟩
          generalize (w61.setCell ⟨p9, 0, none⟩ (.slice A60 (touchM S W Xb n).length k60)) = w62 at *
          clear qc0 qf0
          refine ⟨(by first | exact fun _ => ⟨LM.cell H62.out 4 rfl 0 rfl, LM.cell H62.out 4 rfl 1 rfl, LM.cell H62.out 4 rfl 2 rfl, LM.cell H62.out 3 rfl 0 rfl, LM.cell H62.out 2 rfl 0 rfl⟩ | exact ⟨LM.cell H62.out 4 rfl 0 rfl, LM.cell H62.out 4 rfl 1 rfl, LM.cell H62.out 4 rfl 2 rfl, LM.cell H62.out 3 rfl 0 rfl, LM.cell H62.out 2 rfl 0 rfl⟩), ?_⟩
          refine ⟨by kernel_rfl, ?_⟩
          go_wp2_with fail
          go_meet
          case rel => exact ⟨_, _, _, _, _, _, rfl, rfl, ⟨H62.out⟩⟩
      · skip
        go_wp2
        have H63 := Aside0.mk (LM.newB H19.out #[.slice none 0 0] 39 (by unfold BoxT; decide))
        generalize w19.heap.size = p9 at *
        generalize w19.alloc (.cells #[.slice none 0 0] 39) = w63 at *
        refine ⟨(by first | exact fun _ => ⟨LM.cell H63.out 3 rfl 0 rfl, LM.cell H63.out 3 rfl 1 rfl, LM.cell H63.out 3 rfl 2 rfl, LM.cell H63.out 2 rfl 0 rfl, LM.cell H63.out 1 rfl 0 rfl⟩ | exact ⟨LM.cell H63.out 3 rfl 0 rfl, LM.cell H63.out 3 rfl 1 rfl, LM.cell H63.out 3 rfl 2 rfl, LM.cell H63.out 2 rfl 0 rfl, LM.cell H63.out 1 rfl 0 rfl⟩), ?_⟩
        refine HeldTill.br [3, 8] (by kernel_rfl) (by simp) ?_
        refine BrAll.cons rfl ?_ (BrAll.cons rfl ?_ (BrAll.nil))
        · skip
          go_wp2_with (go_at_call 29; (with_reducible refine (LM.touch HC.out H63.out 1 rfl HVXa.out.fit n).mono ?_); rintro e w64 ⟨A64, k64, rfl, hL⟩; have H64 := Aside0.mk hL; clear hL)
          refine ⟨(by first | exact fun _ => ⟨LM.cell H64.out 3 rfl 0 rfl, LM.cell H64.out 3 rfl 1 rfl, LM.cell H64.out 3 rfl 2 rfl, LM.cell H64.out 2 rfl 0 rfl, LM.cell H64.out 1 rfl 0 rfl⟩ | exact ⟨LM.cell H64.out 3 rfl 0 rfl, LM.cell H64.out 3 rfl 1 rfl, LM.cell H64.out 3 rfl 2 rfl, LM.cell H64.out 2 rfl 0 rfl, LM.cell H64.out 1 rfl 0 rfl⟩), ?_⟩
          refine HeldTill.br [7, 8] (by kernel_rfl) (by simp) ?_
          refine BrAll.cons rfl ?_ (BrAll.cons rfl ?_ (BrAll.nil))
          · skip
            go_wp2_with (go_at_call 29; (with_reducible refine (LM.touch HC.out H64.out 1 rfl HVb.out.fit n).mono ?_); rintro e w65 ⟨A65, k65, rfl, hL⟩; have H65 := Aside0.mk hL; clear hL)
            refine ⟨(by first | exact fun _ => ⟨LM.cell H65.out 3 rfl 0 rfl, LM.cell H65.out 3 rfl 1 rfl, LM.cell H65.out 3 rfl 2 rfl, LM.cell H65.out 2 rfl 0 rfl, LM.cell H65.out 1 rfl 0 rfl⟩ | exact ⟨LM.cell H65.out 3 rfl 0 rfl, LM.cell H65.out 3 rfl 1 rfl, LM.cell H65.out 3 rfl 2 rfl, LM.cell H65.out 2 rfl 0 rfl, LM.cell H65.out 1 rfl 0 rfl⟩), ?_⟩
            refine HeldTill.next (j := 8) (n := 2) (by kernel_rfl) rfl ?_
            go_wp2
            have H66 := Aside0.mk (LM.newB H65.out #[.slice none 0 0] 39 (by unfold BoxT; decide))
            generalize w65.heap.size = p8 at *
            generalize w65.alloc (.cells #[.slice none 0 0] 39) = w66 at *
            refine ⟨(by first | exact fun _ => ⟨LM.cell H66.out 4 rfl 0 rfl, LM.cell H66.out 4 rfl 1 rfl, LM.cell H66.out 4 rfl 2 rfl, LM.cell H66.out 3 rfl 0 rfl, LM.cell H66.out 2 rfl 0 rfl⟩ | exact ⟨LM.cell H66.out 4 rfl 0 rfl, LM.cell H66.out 4 rfl 1 rfl, LM.cell H66.out 4 rfl 2 rfl, LM.cell H66.out 3 rfl 0 rfl, LM.cell H66.out 2 rfl 0 rfl⟩), ?_⟩
            refine HeldTill.next (j := 10) (n := 1) (by kernel_rfl) rfl ?_
            have qc0 := LM.cell H66.out 0 rfl 0 rfl
            have qf0 := LM.free H66.out 0 rfl 0
            go_wp2
            have H67 : Aside0 (LM w (w66.setCell ⟨p8, 0, none⟩ (.slice A64 (touchM S W Xa n).length k64)) g l [(p8, #[.slice A64 (touchM S W Xa n).length k64], 39), (p9, #[.slice none 0 0], 39), (pb, #[.slice Ab Xb.length kb], 39), (pa, #[.slice A4 Xa.length k4], 39), (bc, #[.int .i64 S, .int .i64 W, .int .i64 L], 26)] [.s3 (.slice A65 (touchM S W Xb n).length k65) (touchM S W Xb n), .s3 (.slice A64 (touchM S W Xa n).length k64) (touchM S W Xa n), .s3 (.slice Ab Xb.length kb) Xb, .s3 (.slice A4 Xa.length k4) Xa]) := ⟨LM.put H66.out 0 rfl 0 (.slice A64 (touchM S W Xa n).length k64)⟩
            generalize (w66.setCell ⟨p8, 0, none⟩ (.slice A64 (touchM S W Xa n).length k64)) = w67 at *
            clear qc0 qf0
            refine ⟨(by first | exact fun _ => ⟨LM.cell H67.out 4 rfl 0 rfl, LM.cell H67.out 4 rfl 1 rfl, LM.cell H67.out 4 rfl 2 rfl, LM.cell H67.out 3 rfl 0 rfl, LM.cell H67.out 2 rfl 0 rfl⟩ | exact ⟨LM.cell H67.out 4 rfl 0 rfl, LM.cell H67.out 4 rfl 1 rfl, LM.cell H67.out 4 rfl 2 rfl, LM.cell H67.out 3 rfl 0 rfl, LM.cell H67.out 2 rfl 0 rfl⟩), ?_⟩
            refine HeldTill.next (j := 11) (n := 0) (by kernel_rfl) rfl ?_
            have qc0 := LM.cell H67.out 1 rfl 0 rfl
            have qf0 := LM.free H67.out 1 rfl 0
            go_wp2
            have H68 : Aside0 (LM w (w67.setCell ⟨p9, 0, none⟩ (.slice A65 (touchM S W Xb n).length k65)) g l [(p8, #[.slice A64 (touchM S W Xa n).length k64], 39), (p9, #[.slice A65 (touchM S W Xb n).length k65], 39), (pb, #[.slice Ab Xb.length kb], 39), (pa, #[.slice A4 Xa.length k4], 39), (bc, #[.int .i64 S, .int .i64 W, .int .i64 L], 26)] [.s3 (.slice A65 (touchM S W Xb n).length k65) (touchM S W Xb n), .s3 (.slice A64 (touchM S W Xa n).length k64) (touchM S W Xa n), .s3 (.slice Ab Xb.length kb) Xb, .s3 (.slice A4 Xa.length k4) Xa]) := ⟨LM.put H67.out 1 rfl 0 (.slice A65 (touchM S W Xb n).length k65)⟩
            generalize (w67.setCell ⟨p9, 0, none⟩ (.slice A65 (touchM S W Xb n).length k65)) = w68 at *
            clear qc0 qf0
            refine ⟨(by first | exact fun _ => ⟨LM.cell H68.out 4 rfl 0 rfl, LM.cell H68.out 4 rfl 1 rfl, LM.cell H68.out 4 rfl 2 rfl, LM.cell H68.out 3 rfl 0 rfl, LM.cell H68.out 2 rfl 0 rfl⟩ | exact ⟨LM.cell H68.out 4 rfl 0 rfl, LM.cell H68.out 4 rfl 1 rfl, LM.cell H68.out 4 rfl 2 rfl, LM.cell H68.out 3 rfl 0 rfl, LM.cell H68.out 2 rfl 0 rfl⟩), ?_⟩
            refine ⟨by kernel_rfl, ?_⟩
            go_wp2_with fail
            go_meet
            case rel => exact ⟨_, _, _, _, _, _, rfl, rfl, ⟨LM.swap H68.out⟩⟩
          · skip
            go_wp2
            have H69 := Aside0.mk (LM.newB H64.out #[.slice none 0 0] 39 (by unfold BoxT; decide))
            generalize w64.heap.size = p8 at *
            generalize w64.alloc (.cells #[.slice none 0 0] 39) = w69 at *
            refine ⟨(by first | exact fun _ => ⟨LM.cell H69.out 4 rfl 0 rfl, LM.cell H69.out 4 rfl 1 rfl, LM.cell H69.out 4 rfl 2 rfl, LM.cell H69.out 3 rfl 0 rfl, LM.cell H69.out 2 rfl 0 rfl⟩ | exact ⟨LM.cell H69.out 4 rfl 0 rfl, LM.cell H69.out 4 rfl 1 rfl, LM.cell H69.out 4 rfl 2 rfl, LM.cell H69.out 3 rfl 0 rfl, LM.cell H69.out 2 rfl 0 rfl⟩), ?_⟩
            refine HeldTill.next (j := 7) (n := 2) (by kernel_rfl) rfl ?_
            go_wp2_with (go_at_call 29; (with_reducible refine (LM.touch HC.out H69.out 1 rfl HVb.out.fit n).mono ?_); rintro e w70 ⟨A70, k70, rfl, hL⟩; have H70 := Aside0.mk hL; clear hL)
            refine ⟨(by first | exact fun _ => ⟨LM.cell H70.out 4 rfl 0 rfl, LM.cell H70.out 4 rfl 1 rfl, LM.cell H70.out 4 rfl 2 rfl, LM.cell H70.out 3 rfl 0 rfl, LM.cell H70.out 2 rfl 0 rfl⟩ | exact ⟨LM.cell H70.out 4 rfl 0 rfl, LM.cell H70.out 4 rfl 1 rfl, LM.cell H70.out 4 rfl 2 rfl, LM.cell H70.out 3 rfl 0 rfl, LM.cell H70.out 2 rfl 0 rfl⟩), ?_⟩
            refine HeldTill.next (j := 10) (n := 1) (by kernel_rfl) rfl ?_
            have qc0 := LM.cell H70.out 0 rfl 0 rfl
            have qf0 := LM.free H70.out 0 rfl 0
            go_wp2
            have H71 : Aside0 (LM w (w70.setCell ⟨p8, 0, none⟩ (.slice A64 (touchM S W Xa n).length k64)) g l [(p8, #[.slice A64 (touchM S W Xa n).length k64], 39), (p9, #[.slice none 0 0], 39), (pb, #[.slice Ab Xb.length kb], 39), (pa, #[.slice A4 Xa.length k4], 39), (bc, #[.int .i64 S, .int .i64 W, .int .i64 L], 26)] [.s3 (.slice A70 (touchM S W Xb n).length k70) (touchM S W Xb n), .s3 (.slice A64 (touchM S W Xa n).length k64) (touchM S W Xa n), .s3 (.slice Ab Xb.length kb) Xb, .s3 (.slice A4 Xa.length k4) Xa]) := ⟨LM.put H70.out 0 rfl 0 (.slice A64 (touchM S W Xa n).length k64)⟩
            generalize (w70.setCell ⟨p8, 0, none⟩ (.slice A64 (touchM S W Xa n).length k64)) = w71 at *
            clear qc0 qf0
            refine ⟨(by first | exact fun _ => ⟨LM.cell H71.out 4 rfl 0 rfl, LM.cell H71.out 4 rfl 1 rfl, LM.cell H71.out 4 rfl 2 rfl, LM.cell H71.out 3 rfl 0 rfl, LM.cell H71.out 2 rfl 0 rfl⟩ | exact ⟨LM.cell H71.out 4 rfl 0 rfl, LM.cell H71.out 4 rfl 1 rfl, LM.cell H71.out 4 rfl 2 rfl, LM.cell H71.out 3 rfl 0 rfl, LM.cell H71.out 2 rfl 0 rfl⟩), ?_⟩
            refine HeldTill.next (j := 11) (n := 0) (by kernel_rfl) rfl ?_
            have qc0 := LM.cell H71.out 1 rfl 0 rfl
            have qf0 := LM.free H71.out 1 rfl 0
            go_wp2
            have H72 : Aside0 (LM w (w71.setCell ⟨p9, 0, none⟩ (.slice A70 (touchM S W Xb n).length k70)) g l [(p8, #[.slice A64 (touchM S W Xa n).length k64], 39), (p9, #[.slice A70 (touchM S W Xb n).length k70], 39), (pb, #[.slice Ab Xb.length kb], 39), (pa, #[.slice A4 Xa.length k4], 39), (bc, #[.int .i64 S, .int .i64 W, .int .i64 L], 26)] [.s3 (.slice A70 (touchM S W Xb n).length k70) (touchM S W Xb n), .s3 (.slice A64 (touchM S W Xa n).length k64) (touchM S W Xa n), .s3 (.slice Ab Xb.length kb) Xb, .s3 (.slice A4 Xa.length k4) Xa]) := ⟨LM.put H71.out 1 rfl 0 (.slice A70 (touchM S W Xb n).length k70)⟩
            generalize (w71.setCell ⟨p9, 0, none⟩ (.slice A70 (touchM S W Xb n).length k70)) = w72 at *
            clear qc0 qf0
            refine ⟨(by first | exact fun _ => ⟨LM.cell H72.out 4 rfl 0 rfl, LM.cell H72.out 4 rfl 1 rfl, LM.cell H72.out 4 rfl 2 rfl, LM.cell H72.out 3 rfl 0 rfl, LM.cell H72.out 2 rfl 0 rfl⟩ | exact ⟨LM.cell H72.out 4 rfl 0 rfl, LM.cell H72.out 4 rfl 1 rfl, LM.cell H72.out 4 rfl 2 rfl, LM.cell H72.out 3 rfl 0 rfl, LM.cell H72.out 2 rfl 0 rfl⟩), ?_⟩
            refine ⟨by kernel_rfl, ?_⟩
            go_wp2_with fail
            go_meet
            case rel => exact ⟨_, _, _, _, _, _, rfl, rfl, ⟨LM.swap H72.out⟩⟩
        · skip
          go_wp2
          have H73 := Aside0.mk (LM.newB H63.out #[.slice none 0 0] 39 (by unfold BoxT; decide))
          generalize w63.heap.size = p8 at *
          generalize w63.alloc (.cells #[.slice none 0 0] 39) = w73 at *
          refine ⟨(by first | exact fun _ => ⟨LM.cell H73.out 4 rfl 0 rfl, LM.cell H73.out 4 rfl 1 rfl, LM.cell H73.out 4 rfl 2 rfl, LM.cell H73.out 3 rfl 0 rfl, LM.cell H73.out 2 rfl 0 rfl⟩ | exact ⟨LM.cell H73.out 4 rfl 0 rfl, LM.cell H73.out 4 rfl 1 rfl, LM.cell H73.out 4 rfl 2 rfl, LM.cell H73.out 3 rfl 0 rfl, LM.cell H73.out 2 rfl 0 rfl⟩), ?_⟩
          refine HeldTill.next (j := 3) (n := 3) (by kernel_rfl) rfl ?_
          go_wp2_with (go_at_call 29; (with_reducible refine (LM.touch HC.out H73.out 1 rfl HVXa.out.fit n).mono ?_); rintro e w74 ⟨A74, k74, rfl, hL⟩; have H74 := Aside0.mk hL; clear hL)
          refine ⟨(by first | exact fun _ => ⟨LM.cell H74.out 4 rfl 0 rfl, LM.cell H74.out 4 rfl 1 rfl, LM.cell H74.out 4 rfl 2 rfl, LM.cell H74.out 3 rfl 0 rfl, LM.cell H74.out 2 rfl 0 rfl⟩ | exact ⟨LM.cell H74.out 4 rfl 0 rfl, LM.cell H74.out 4 rfl 1 rfl, LM.cell H74.out 4 rfl 2 rfl, LM.cell H74.out 3 rfl 0 rfl, LM.cell H74.out 2 rfl 0 rfl⟩), ?_⟩
          refine HeldTill.next (j := 7) (n := 2) (by kernel_rfl) rfl ?_
          go_wp2_with (go_at_call 29; (with_reducible refine (LM.touch HC.out H74.out 1 rfl HVb.out.fit n).mono ?_); rintro e w75 ⟨A75, k75, rfl, hL⟩; have H75 := Aside0.mk hL; clear hL)
          refine ⟨(by first | exact fun _ => ⟨LM.cell H75.out 4 rfl 0 rfl, LM.cell H75.out 4 rfl 1 rfl, LM.cell H75.out 4 rfl 2 rfl, LM.cell H75.out 3 rfl 0 rfl, LM.cell H75.out 2 rfl 0 rfl⟩ | exact ⟨LM.cell H75.out 4 rfl 0 rfl, LM.cell H75.out 4 rfl 1 rfl, LM.cell H75.out 4 rfl 2 rfl, LM.cell H75.out 3 rfl 0 rfl, LM.cell H75.out 2 rfl 0 rfl⟩), ?_⟩
          refine HeldTill.next (j := 10) (n := 1) (by kernel_rfl) rfl ?_
          have qc0 := LM.cell H75.out 0 rfl 0 rfl
          have qf0 := LM.free H75.out 0 rfl 0
          go_wp2
          have H76 : Aside0 (LM w (w75.setCell ⟨p8, 0, none⟩ (.slice A74 (touchM S W Xa n).length k74)) g l [(p8, #[.slice A74 (touchM S W Xa n).length k74], 39), (p9, #[.slice none 0 0], 39), (pb, #[.slice Ab Xb.length kb], 39), (pa, #[.slice A4 Xa.length k4], 39), (bc, #[.int .i64 S, .int .i64 W, .int .i64 L], 26)] [.s3 (.slice A75 (touchM S W Xb n).length k75) (touchM S W Xb n), .s3 (.slice A74 (touchM S W Xa n).length k74) (touchM S W Xa n), .s3 (.slice Ab Xb.length kb) Xb, .s3 (.slice A4 Xa.length k4) Xa]) := ⟨LM.put H75.out 0 rfl 0 (.slice A74 (touchM S W Xa n).length k74)⟩
          generalize (w75.setCell ⟨p8, 0, none⟩ (.slice A74 (touchM S W Xa n).length k74)) = w76 at *
          clear qc0 qf0
          refine ⟨(by first | exact fun _ => ⟨LM.cell H76.out 4 rfl 0 rfl, LM.cell H76.out 4 rfl 1 rfl, LM.cell H76.out 4 rfl 2 rfl, LM.cell H76.out 3 rfl 0 rfl, LM.cell H76.out 2 rfl 0 rfl⟩ | exact ⟨LM.cell H76.out 4 rfl 0 rfl, LM.cell H76.out 4 rfl 1 rfl, LM.cell H76.out 4 rfl 2 rfl, LM.cell H76.out 3 rfl 0 rfl, LM.cell H76.out 2 rfl 0 rfl⟩), ?_⟩
          refine HeldTill.next (j := 11) (n := 0) (by kernel_rfl) rfl ?_
          have qc0 := LM.cell H76.out 1 rfl 0 rfl
          have qf0 := LM.free H76.out 1 rfl 0
          go_wp2
          have H77 : Aside0 (LM w (w76.setCell ⟨p9, 0, none⟩ (.slice A75 (touchM S W Xb n).length k75)) g l [(p8, #[.slice A74 (touchM S W Xa n).length k74], 39), (p9, #[.slice A75 (touchM S W Xb n).length k75], 39), (pb, #[.slice Ab Xb.length kb], 39), (pa, #[.slice A4 Xa.length k4], 39), (bc, #[.int .i64 S, .int .i64 W, .int .i64 L], 26)] [.s3 (.slice A75 (touchM S W Xb n).length k75) (touchM S W Xb n), .s3 (.slice A74 (touchM S W Xa n).length k74) (touchM S W Xa n), .s3 (.slice Ab Xb.length kb) Xb, .s3 (.slice A4 Xa.length k4) Xa]) := ⟨LM.put H76.out 1 rfl 0 (.slice A75 (touchM S W Xb n).length k75)⟩
          generalize (w76.setCell ⟨p9, 0, none⟩ (.slice A75 (touchM S W Xb n).length k75)) = w77 at *
          clear qc0 qf0
          refine ⟨(by first | exact fun _ => ⟨LM.cell H77.out 4 rfl 0 rfl, LM.cell H77.out 4 rfl 1 rfl, LM.cell H77.out 4 rfl 2 rfl, LM.cell H77.out 3 rfl 0 rfl, LM.cell H77.out 2 rfl 0 rfl⟩ | exact ⟨LM.cell H77.out 4 rfl 0 rfl, LM.cell H77.out 4 rfl 1 rfl, LM.cell H77.out 4 rfl 2 rfl, LM.cell H77.out 3 rfl 0 rfl, LM.cell H77.out 2 rfl 0 rfl⟩), ?_⟩
          refine ⟨by kernel_rfl, ?_⟩
          go_wp2_with fail
          go_meet
          case rel => exact ⟨_, _, _, _, _, _, rfl, rfl, ⟨LM.swap H77.out⟩⟩
    case rest =>
      obtain ⟨p8, p9, A8, k8, A9, k9, rfl, rfl, Hr⟩ := hcut
      have HAG := Aside0.mk (fun (h : S ≠ 0) => HK0.out h)
      clear H18 HK0
      have hag := Aside0.mk (fun (h : S ≠ 0) (Tx : List Th) (i : Nat) (A : Option Addr) (k : Nat) (w1 : World) Bx (hL : LM w w1 g l Bx Tx) (hi : Tx[i]? = some (.s3 (.slice A (touchM S W Xa n).length k) (touchM S W Xa n))) => (show Calls Try.prog 30 #[.agg #[.int .i64 S, .int .i64 W, .int .i64 L], .agg #[.slice A (touchM S W Xa n).length k], .int .i64 n] w1 (fun e w' => e = .returned (.int .i64 0) ∧ LM w w' g l Bx Tx) from (LM.age HC.out hL i hi HVx.out.fit n).mono (fun e w' h2 => ⟨h2.1.trans (by rw [HAG.out h]; rfl), h2.2⟩)))
      have htt := Aside0.mk (fun (Tx : List Th) (i : Nat) (A : Option Addr) (k : Nat) (w1 : World) Bx (hL : LM w w1 g l Bx Tx) (hi : Tx[i]? = some (.s3 (.slice A (touchM S W Xa n).length k) (touchM S W Xa n))) => (show Calls Try.prog 29 #[.agg #[.int .i64 S, .int .i64 W, .int .i64 L], .agg #[.slice A (touchM S W Xa n).length k], .int .i64 n] w1 (fun e w' => ∃ A' k', e = .returned (.agg #[.slice A' (touchM S W Xa n).length k']) ∧ LM w w' g l Bx (.s3 (.slice A' (touchM S W Xa n).length k') (touchM S W Xa n) :: Tx)) from (by have h3 := LM.touch HC.out hL i hi HVx.out.fit n; rw [HTW.out] at h3; exact h3)))
      clear HAG HTW
      generalize touchM S W Xa n = Xx at *
      generalize touchM S W Xb n = Xy at *
      have hfd := field39
      by_cases hS0 : S = 0
      · have g1 : ((S : Int) == 0) = true := beq_iff_eq.2 (by omega)
        clear hS0
        go_upto_region 7 with (fail)
        have Hd := Aside0.mk (LM.drew Hr.out)
        refine HeldTill.begin_ (S := fun (w' : World) => w'.cell? ⟨bc, 0, none⟩ = some (.int .i64 S) ∧ w'.cell? ⟨bc, 1, none⟩ = some (.int .i64 W) ∧ w'.cell? ⟨bc, 2, none⟩ = some (.int .i64 L) ∧ w'.cell? ⟨pa, 0, none⟩ = some (.slice A4 Xa.length k4) ∧ w'.cell? ⟨pb, 0, none⟩ = some (.slice Ab Xb.length kb) ∧ w'.cell? ⟨p8, 0, none⟩ = some (.slice A8 Xx.length k8) ∧ w'.cell? ⟨p9, 0, none⟩ = some (.slice A9 Xy.length k9)) (F := fun _ => true) (by kernel_rfl) ?_
        have hSq0 : (fun (w' : World) => w'.cell? ⟨bc, 0, none⟩ = some (.int .i64 S) ∧ w'.cell? ⟨bc, 1, none⟩ = some (.int .i64 W) ∧ w'.cell? ⟨bc, 2, none⟩ = some (.int .i64 L) ∧ w'.cell? ⟨pa, 0, none⟩ = some (.slice A4 Xa.length k4) ∧ w'.cell? ⟨pb, 0, none⟩ = some (.slice Ab Xb.length kb) ∧ w'.cell? ⟨p8, 0, none⟩ = some (.slice A8 Xx.length k8) ∧ w'.cell? ⟨p9, 0, none⟩ = some (.slice A9 Xy.length k9)) wc.drew := ⟨LM.cell Hd.out 4 rfl 0 rfl, LM.cell Hd.out 4 rfl 1 rfl, LM.cell Hd.out 4 rfl 2 rfl, LM.cell Hd.out 3 rfl 0 rfl, LM.cell Hd.out 2 rfl 0 rfl, LM.cell Hd.out 1 rfl 0 rfl, LM.cell Hd.out 0 rfl 0 rfl⟩
        refine HeldTill.take (i := 0) (n := 35) (v := ?_) rfl (by kernel_rfl) (by kernel_rfl) (by kernel_rfl) (by kernel_rfl) (fun _ _ _ h => h) (Or.inl ⟨by rfl, ?_⟩) hSq0 ?_
        rotate_left
        · intro w hSw; (try dsimp only at hSw); go_simp; (try with_reducible rfl)
        simp only [Act.put, List.setIfInBounds_toArray, List.set_cons_zero, List.set_cons_succ, List.getElem_toArray, List.getElem_cons_zero, List.getElem_cons_succ]
        refine HeldTill.take (i := 1) (n := 34) (v := ?_) rfl (by kernel_rfl) (by kernel_rfl) (by kernel_rfl) (by kernel_rfl) (fun _ _ _ h => h) (Or.inl ⟨by rfl, ?_⟩) hSq0 ?_
        rotate_left
        · intro w hSw; (try dsimp only at hSw); go_simp; (try with_reducible rfl)
        simp only [Act.put, List.setIfInBounds_toArray, List.set_cons_zero, List.set_cons_succ, List.getElem_toArray, List.getElem_cons_zero, List.getElem_cons_succ]
        refine HeldTill.take (i := 2) (n := 33) (v := ?_) rfl (by kernel_rfl) (by kernel_rfl) (by kernel_rfl) (by kernel_rfl) (fun _ _ _ h => h) (Or.inl ⟨by rfl, ?_⟩) hSq0 ?_
        rotate_left
        · intro w hSw; (try dsimp only at hSw); go_simp; (try with_reducible rfl)
        simp only [Act.put, List.setIfInBounds_toArray, List.set_cons_zero, List.set_cons_succ, List.getElem_toArray, List.getElem_cons_zero, List.getElem_cons_succ]
        refine HeldTill.next (j := 3) (n := 32) (by kernel_rfl) rfl ?_
        go_wp2_with (go_at_call 32; (with_reducible refine (LM.bel HC.out Hd.out 3 2 rfl rfl HVXa.out.fit HVb.out.fit HB1.out).mono ?_); rintro e w78 ⟨rfl, hL⟩; have H78 := Aside0.mk hL; clear hL)
        have hSq1 : (fun (w' : World) => w'.cell? ⟨bc, 0, none⟩ = some (.int .i64 S) ∧ w'.cell? ⟨bc, 1, none⟩ = some (.int .i64 W) ∧ w'.cell? ⟨bc, 2, none⟩ = some (.int .i64 L) ∧ w'.cell? ⟨pa, 0, none⟩ = some (.slice A4 Xa.length k4) ∧ w'.cell? ⟨pb, 0, none⟩ = some (.slice Ab Xb.length kb) ∧ w'.cell? ⟨p8, 0, none⟩ = some (.slice A8 Xx.length k8) ∧ w'.cell? ⟨p9, 0, none⟩ = some (.slice A9 Xy.length k9)) _ := ⟨LM.cell H78.out 4 rfl 0 rfl, LM.cell H78.out 4 rfl 1 rfl, LM.cell H78.out 4 rfl 2 rfl, LM.cell H78.out 3 rfl 0 rfl, LM.cell H78.out 2 rfl 0 rfl, LM.cell H78.out 1 rfl 0 rfl, LM.cell H78.out 0 rfl 0 rfl⟩
        refine ⟨fun _ => hSq1, ?_⟩
        refine HeldTill.take (i := 4) (n := 31) (v := ?_) rfl (by kernel_rfl) (by kernel_rfl) (by kernel_rfl) (by kernel_rfl) (fun _ _ _ h => h) (Or.inl ⟨by rfl, ?_⟩) hSq1 ?_
        rotate_left
        · intro w hSw; (try dsimp only at hSw); go_simp; (try with_reducible rfl)
        simp only [Act.put, List.setIfInBounds_toArray, List.set_cons_zero, List.set_cons_succ, List.getElem_toArray, List.getElem_cons_zero, List.getElem_cons_succ]
        refine HeldTill.take (i := 5) (n := 30) (v := ?_) rfl (by kernel_rfl) (by kernel_rfl) (by kernel_rfl) (by kernel_rfl) (fun _ _ _ h => h) (Or.inl ⟨by rfl, ?_⟩) hSq1 ?_
        rotate_left
        · intro w hSw; (try dsimp only at hSw); go_simp; (try with_reducible rfl)
        simp only [Act.put, List.setIfInBounds_toArray, List.set_cons_zero, List.set_cons_succ, List.getElem_toArray, List.getElem_cons_zero, List.getElem_cons_succ]
        refine HeldTill.take (i := 6) (n := 29) (v := ?_) rfl (by kernel_rfl) (by kernel_rfl) (by kernel_rfl) (by kernel_rfl) (fun _ _ _ h => h) (Or.inl ⟨by rfl, ?_⟩) hSq1 ?_
        rotate_left
        · intro w hSw; (try dsimp only at hSw); go_simp; (try with_reducible rfl)
        simp only [Act.put, List.setIfInBounds_toArray, List.set_cons_zero, List.set_cons_succ, List.getElem_toArray, List.getElem_cons_zero, List.getElem_cons_succ]
        refine HeldTill.take (i := 7) (n := 28) (v := ?_) rfl (by kernel_rfl) (by kernel_rfl) (by kernel_rfl) (by kernel_rfl) (fun _ _ _ h => h) (Or.inl ⟨by rfl, ?_⟩) hSq1 ?_
        rotate_left
        · intro w hSw; (try dsimp only at hSw); go_simp; (try with_reducible rfl)
        simp only [Act.put, List.setIfInBounds_toArray, List.set_cons_zero, List.set_cons_succ, List.getElem_toArray, List.getElem_cons_zero, List.getElem_cons_succ]
        refine HeldTill.next (j := 8) (n := 27) (by kernel_rfl) rfl ?_
        go_wp2_with (go_at_call 32; (with_reducible refine (LM.bel HC.out H78.out 1 0 rfl rfl HVx.out.fit HVy.out.fit HB2.out).mono ?_); rintro e w79 ⟨rfl, hL⟩; have H79 := Aside0.mk hL; clear hL)
        have hSq2 : (fun (w' : World) => w'.cell? ⟨bc, 0, none⟩ = some (.int .i64 S) ∧ w'.cell? ⟨bc, 1, none⟩ = some (.int .i64 W) ∧ w'.cell? ⟨bc, 2, none⟩ = some (.int .i64 L) ∧ w'.cell? ⟨pa, 0, none⟩ = some (.slice A4 Xa.length k4) ∧ w'.cell? ⟨pb, 0, none⟩ = some (.slice Ab Xb.length kb) ∧ w'.cell? ⟨p8, 0, none⟩ = some (.slice A8 Xx.length k8) ∧ w'.cell? ⟨p9, 0, none⟩ = some (.slice A9 Xy.length k9)) _ := ⟨LM.cell H79.out 4 rfl 0 rfl, LM.cell H79.out 4 rfl 1 rfl, LM.cell H79.out 4 rfl 2 rfl, LM.cell H79.out 3 rfl 0 rfl, LM.cell H79.out 2 rfl 0 rfl, LM.cell H79.out 1 rfl 0 rfl, LM.cell H79.out 0 rfl 0 rfl⟩
        refine ⟨fun _ => hSq2, ?_⟩
        refine HeldTill.take (i := 9) (n := 26) (v := ?_) rfl (by kernel_rfl) (by kernel_rfl) (by kernel_rfl) (by kernel_rfl) (fun _ _ _ h => h) (Or.inl ⟨by rfl, ?_⟩) hSq2 ?_
        rotate_left
        · intro w hSw; (try dsimp only at hSw); go_simp; (try with_reducible rfl)
        simp only [Act.put, List.setIfInBounds_toArray, List.set_cons_zero, List.set_cons_succ, List.getElem_toArray, List.getElem_cons_zero, List.getElem_cons_succ]
        refine HeldTill.take (i := 10) (n := 25) (v := ?_) rfl (by kernel_rfl) (by kernel_rfl) (by kernel_rfl) (by kernel_rfl) (fun _ _ _ h => h) (Or.inl ⟨by rfl, ?_⟩) hSq2 ?_
        rotate_left
        · intro w hSw; (try dsimp only at hSw); go_simp; (try with_reducible rfl)
        simp only [Act.put, List.setIfInBounds_toArray, List.set_cons_zero, List.set_cons_succ, List.getElem_toArray, List.getElem_cons_zero, List.getElem_cons_succ]
        refine HeldTill.take (i := 11) (n := 24) (v := ?_) rfl (by kernel_rfl) (by kernel_rfl) (by kernel_rfl) (by kernel_rfl) (fun _ _ _ h => h) (Or.inl ⟨by rfl, ?_⟩) hSq2 ?_
        rotate_left
        · intro w hSw; (try dsimp only at hSw); go_simp; (try with_reducible rfl)
        simp only [Act.put, List.setIfInBounds_toArray, List.set_cons_zero, List.set_cons_succ, List.getElem_toArray, List.getElem_cons_zero, List.getElem_cons_succ]
        refine HeldTill.take (i := 12) (n := 23) (v := ?_) rfl (by kernel_rfl) (by kernel_rfl) (by kernel_rfl) (by kernel_rfl) (fun _ _ _ h => h) (Or.inl ⟨by rfl, ?_⟩) hSq2 ?_
        rotate_left
        · intro w hSw; (try dsimp only at hSw); go_simp; (try with_reducible rfl)
        simp only [Act.put, List.setIfInBounds_toArray, List.set_cons_zero, List.set_cons_succ, List.getElem_toArray, List.getElem_cons_zero, List.getElem_cons_succ]
        refine HeldTill.take (i := 13) (n := 22) (v := ?_) rfl (by kernel_rfl) (by kernel_rfl) (by kernel_rfl) (by kernel_rfl) (fun _ _ _ h => h) (Or.inl ⟨by rfl, ?_⟩) hSq2 ?_
        rotate_left
        · intro w hSw; (try dsimp only at hSw); go_simp; (try with_reducible rfl)
        simp only [Act.put, List.setIfInBounds_toArray, List.set_cons_zero, List.set_cons_succ, List.getElem_toArray, List.getElem_cons_zero, List.getElem_cons_succ]
        refine HeldTill.take (i := 14) (n := 21) (v := ?_) rfl (by kernel_rfl) (by kernel_rfl) (by kernel_rfl) (by kernel_rfl) (fun _ _ _ h => h) (Or.inl ⟨by rfl, ?_⟩) hSq2 ?_
        rotate_left
        · intro w hSw; (try dsimp only at hSw); go_simp; (try with_reducible rfl)
        simp only [Act.put, List.setIfInBounds_toArray, List.set_cons_zero, List.set_cons_succ, List.getElem_toArray, List.getElem_cons_zero, List.getElem_cons_succ]
        refine HeldTill.take (i := 15) (n := 20) (v := undef) rfl (by kernel_rfl) (by kernel_rfl) (by kernel_rfl) (by kernel_rfl) (fun _ _ _ h => h) (Or.inr ⟨by rfl, rfl⟩) hSq2 ?_
        simp only [Act.put, List.setIfInBounds_toArray, List.set_cons_zero, List.set_cons_succ, List.getElem_toArray, List.getElem_cons_zero, List.getElem_cons_succ]
        refine HeldTill.take (i := 16) (n := 19) (v := undef) rfl (by kernel_rfl) (by kernel_rfl) (by kernel_rfl) (by kernel_rfl) (fun _ _ _ h => h) (Or.inr ⟨by rfl, rfl⟩) hSq2 ?_
        simp only [Act.put, List.setIfInBounds_toArray, List.set_cons_zero, List.set_cons_succ, List.getElem_toArray, List.getElem_cons_zero, List.getElem_cons_succ]
        refine HeldTill.take (i := 17) (n := 18) (v := undef) rfl (by kernel_rfl) (by kernel_rfl) (by kernel_rfl) (by kernel_rfl) (fun _ _ _ h => h) (Or.inr ⟨by rfl, rfl⟩) hSq2 ?_
        simp only [Act.put, List.setIfInBounds_toArray, List.set_cons_zero, List.set_cons_succ, List.getElem_toArray, List.getElem_cons_zero, List.getElem_cons_succ]
        refine HeldTill.take (i := 18) (n := 17) (v := undef) rfl (by kernel_rfl) (by kernel_rfl) (by kernel_rfl) (by kernel_rfl) (fun _ _ _ h => h) (Or.inr ⟨by rfl, rfl⟩) hSq2 ?_
        simp only [Act.put, List.setIfInBounds_toArray, List.set_cons_zero, List.set_cons_succ, List.getElem_toArray, List.getElem_cons_zero, List.getElem_cons_succ]
        refine HeldTill.take (i := 19) (n := 16) (v := undef) rfl (by kernel_rfl) (by kernel_rfl) (by kernel_rfl) (by kernel_rfl) (fun _ _ _ h => h) (Or.inr ⟨by rfl, rfl⟩) hSq2 ?_
        simp only [Act.put, List.setIfInBounds_toArray, List.set_cons_zero, List.set_cons_succ, List.getElem_toArray, List.getElem_cons_zero, List.getElem_cons_succ]
        refine HeldTill.take (i := 20) (n := 15) (v := ?_) rfl (by kernel_rfl) (by kernel_rfl) (by kernel_rfl) (by kernel_rfl) (fun _ _ _ h => h) (Or.inl ⟨by rfl, ?_⟩) hSq2 ?_
        rotate_left
        · intro w hSw; (try dsimp only at hSw); go_simp; (try with_reducible rfl)
        simp only [Act.put, List.setIfInBounds_toArray, List.set_cons_zero, List.set_cons_succ, List.getElem_toArray, List.getElem_cons_zero, List.getElem_cons_succ]
        refine HeldTill.take (i := 21) (n := 14) (v := ?_) rfl (by kernel_rfl) (by kernel_rfl) (by kernel_rfl) (by kernel_rfl) (fun _ _ _ h => h) (Or.inl ⟨by rfl, ?_⟩) hSq2 ?_
        rotate_left
        · intro w hSw; (try dsimp only at hSw); go_simp; (try with_reducible rfl)
        simp only [Act.put, List.setIfInBounds_toArray, List.set_cons_zero, List.set_cons_succ, List.getElem_toArray, List.getElem_cons_zero, List.getElem_cons_succ]
        refine HeldTill.take (i := 22) (n := 13) (v := ?_) rfl (by kernel_rfl) (by kernel_rfl) (by kernel_rfl) (by kernel_rfl) (fun _ _ _ h => h) (Or.inl ⟨by rfl, ?_⟩) hSq2 ?_
        rotate_left
        · intro w hSw; (try dsimp only at hSw); go_simp; (try with_reducible rfl)
        simp only [Act.put, List.setIfInBounds_toArray, List.set_cons_zero, List.set_cons_succ, List.getElem_toArray, List.getElem_cons_zero, List.getElem_cons_succ]
        refine HeldTill.take (i := 23) (n := 12) (v := ?_) rfl (by kernel_rfl) (by kernel_rfl) (by kernel_rfl) (by kernel_rfl) (fun _ _ _ h => h) (Or.inl ⟨by rfl, ?_⟩) hSq2 ?_
        rotate_left
        · intro w hSw; (try dsimp only at hSw); go_simp; (try with_reducible rfl)
        simp only [Act.put, List.setIfInBounds_toArray, List.set_cons_zero, List.set_cons_succ, List.getElem_toArray, List.getElem_cons_zero, List.getElem_cons_succ]
        refine HeldTill.take (i := 24) (n := 11) (v := ?_) rfl (by kernel_rfl) (by kernel_rfl) (by kernel_rfl) (by kernel_rfl) (fun _ _ _ h => h) (Or.inl ⟨by rfl, ?_⟩) hSq2 ?_
        rotate_left
        · intro w hSw; (try dsimp only at hSw); go_simp; (try with_reducible rfl)
        simp only [Act.put, List.setIfInBounds_toArray, List.set_cons_zero, List.set_cons_succ, List.getElem_toArray, List.getElem_cons_zero, List.getElem_cons_succ]
        refine HeldTill.take (i := 25) (n := 10) (v := ?_) rfl (by kernel_rfl) (by kernel_rfl) (by kernel_rfl) (by kernel_rfl) (fun _ _ _ h => h) (Or.inl ⟨by rfl, ?_⟩) hSq2 ?_
        rotate_left
        · intro w hSw; (try dsimp only at hSw); go_simp; (try with_reducible rfl)
        simp only [Act.put, List.setIfInBounds_toArray, List.set_cons_zero, List.set_cons_succ, List.getElem_toArray, List.getElem_cons_zero, List.getElem_cons_succ]
        refine HeldTill.take (i := 28) (n := 9) (v := ?_) rfl (by kernel_rfl) (by kernel_rfl) (by kernel_rfl) (by kernel_rfl) (fun _ _ _ h => h) (Or.inl ⟨by rfl, ?_⟩) hSq2 ?_
        rotate_left
        · intro w hSw; (try dsimp only at hSw); go_simp; (try with_reducible rfl)
        simp only [Act.put, List.setIfInBounds_toArray, List.set_cons_zero, List.set_cons_succ, List.getElem_toArray, List.getElem_cons_zero, List.getElem_cons_succ]
        refine HeldTill.take (i := 29) (n := 8) (v := ?_) rfl (by kernel_rfl) (by kernel_rfl) (by kernel_rfl) (by kernel_rfl) (fun _ _ _ h => h) (Or.inl ⟨by rfl, ?_⟩) hSq2 ?_
        rotate_left
        · intro w hSw; (try dsimp only at hSw); go_simp; (try with_reducible rfl)
        simp only [Act.put, List.setIfInBounds_toArray, List.set_cons_zero, List.set_cons_succ, List.getElem_toArray, List.getElem_cons_zero, List.getElem_cons_succ]
        refine HeldTill.next (j := 26) (n := 7) (by kernel_rfl) rfl ?_
        go_wp2_with (go_at_call 29; (with_reducible refine (htt.out _ 1 _ _ _ _ H79.out rfl).mono ?_); rintro e w80 ⟨A80, k80, rfl, hL⟩; have H80 := Aside0.mk hL; clear hL)
        have hSq3 : (fun (w' : World) => w'.cell? ⟨bc, 0, none⟩ = some (.int .i64 S) ∧ w'.cell? ⟨bc, 1, none⟩ = some (.int .i64 W) ∧ w'.cell? ⟨bc, 2, none⟩ = some (.int .i64 L) ∧ w'.cell? ⟨pa, 0, none⟩ = some (.slice A4 Xa.length k4) ∧ w'.cell? ⟨pb, 0, none⟩ = some (.slice Ab Xb.length kb) ∧ w'.cell? ⟨p8, 0, none⟩ = some (.slice A8 Xx.length k8) ∧ w'.cell? ⟨p9, 0, none⟩ = some (.slice A9 Xy.length k9)) _ := ⟨LM.cell H80.out 4 rfl 0 rfl, LM.cell H80.out 4 rfl 1 rfl, LM.cell H80.out 4 rfl 2 rfl, LM.cell H80.out 3 rfl 0 rfl, LM.cell H80.out 2 rfl 0 rfl, LM.cell H80.out 1 rfl 0 rfl, LM.cell H80.out 0 rfl 0 rfl⟩
        refine ⟨fun _ => hSq3, ?_⟩
        refine HeldTill.take (i := 27) (n := 6) (v := ?_) rfl (by kernel_rfl) (by kernel_rfl) (by kernel_rfl) (by kernel_rfl) (fun _ _ _ h => h) (Or.inl ⟨by rfl, ?_⟩) hSq3 ?_
        rotate_left
        · intro w hSw; (try dsimp only at hSw); go_simp; (try with_reducible rfl)
        simp only [Act.put, List.setIfInBounds_toArray, List.set_cons_zero, List.set_cons_succ, List.getElem_toArray, List.getElem_cons_zero, List.getElem_cons_succ]
        refine HeldTill.next (j := 30) (n := 5) (by kernel_rfl) rfl ?_
        go_wp2_with (go_at_call 33; (with_reducible refine (LM.same H80.out 0 2 rfl rfl HVx.out.fit hS8 hW4).mono ?_); rintro e w81 ⟨rfl, hL⟩; have H81 := Aside0.mk hL; clear hL)
        have hSq4 : (fun (w' : World) => w'.cell? ⟨bc, 0, none⟩ = some (.int .i64 S) ∧ w'.cell? ⟨bc, 1, none⟩ = some (.int .i64 W) ∧ w'.cell? ⟨bc, 2, none⟩ = some (.int .i64 L) ∧ w'.cell? ⟨pa, 0, none⟩ = some (.slice A4 Xa.length k4) ∧ w'.cell? ⟨pb, 0, none⟩ = some (.slice Ab Xb.length kb) ∧ w'.cell? ⟨p8, 0, none⟩ = some (.slice A8 Xx.length k8) ∧ w'.cell? ⟨p9, 0, none⟩ = some (.slice A9 Xy.length k9)) _ := ⟨LM.cell H81.out 4 rfl 0 rfl, LM.cell H81.out 4 rfl 1 rfl, LM.cell H81.out 4 rfl 2 rfl, LM.cell H81.out 3 rfl 0 rfl, LM.cell H81.out 2 rfl 0 rfl, LM.cell H81.out 1 rfl 0 rfl, LM.cell H81.out 0 rfl 0 rfl⟩
        refine ⟨fun _ => hSq4, ?_⟩
        refine HeldTill.take (i := 31) (n := 4) (v := ?_) rfl (by kernel_rfl) (by kernel_rfl) (by kernel_rfl) (by kernel_rfl) (fun _ _ _ h => h) (Or.inl ⟨by rfl, ?_⟩) hSq4 ?_
        rotate_left
        · intro w hSw; (try dsimp only at hSw); go_simp; (try with_reducible rfl)
        simp only [Act.put, List.setIfInBounds_toArray, List.set_cons_zero, List.set_cons_succ, List.getElem_toArray, List.getElem_cons_zero, List.getElem_cons_succ]
        refine HeldTill.take (i := 32) (n := 3) (v := ?_) rfl (by kernel_rfl) (by kernel_rfl) (by kernel_rfl) (by kernel_rfl) (fun _ _ _ h => h) (Or.inl ⟨by rfl, ?_⟩) hSq4 ?_
        rotate_left
        · intro w hSw; (try dsimp only at hSw); go_simp; (try with_reducible rfl)
        simp only [Act.put, List.setIfInBounds_toArray, List.set_cons_zero, List.set_cons_succ, List.getElem_toArray, List.getElem_cons_zero, List.getElem_cons_succ]
        refine HeldTill.next (j := 33) (n := 2) (by kernel_rfl) rfl ?_
        go_wp2_with (go_at_call 27; (with_reducible refine (LM.awake H81.out).mono ?_); rintro e w82 ⟨rfl, hL⟩; have H82 := Aside0.mk hL; clear hL)
        have hSq5 : (fun (w' : World) => w'.cell? ⟨bc, 0, none⟩ = some (.int .i64 S) ∧ w'.cell? ⟨bc, 1, none⟩ = some (.int .i64 W) ∧ w'.cell? ⟨bc, 2, none⟩ = some (.int .i64 L) ∧ w'.cell? ⟨pa, 0, none⟩ = some (.slice A4 Xa.length k4) ∧ w'.cell? ⟨pb, 0, none⟩ = some (.slice Ab Xb.length kb) ∧ w'.cell? ⟨p8, 0, none⟩ = some (.slice A8 Xx.length k8) ∧ w'.cell? ⟨p9, 0, none⟩ = some (.slice A9 Xy.length k9)) _ := ⟨LM.cell H82.out 4 rfl 0 rfl, LM.cell H82.out 4 rfl 1 rfl, LM.cell H82.out 4 rfl 2 rfl, LM.cell H82.out 3 rfl 0 rfl, LM.cell H82.out 2 rfl 0 rfl, LM.cell H82.out 1 rfl 0 rfl, LM.cell H82.out 0 rfl 0 rfl⟩
        refine ⟨fun _ => hSq5, ?_⟩
        refine HeldTill.take (i := 34) (n := 1) (v := ?_) rfl (by kernel_rfl) (by kernel_rfl) (by kernel_rfl) (by kernel_rfl) (fun _ _ _ h => h) (Or.inl ⟨by rfl, ?_⟩) hSq5 ?_
        rotate_left
        · intro w hSw; (try dsimp only at hSw); go_simp; (try with_reducible rfl)
        simp only [Act.put, List.setIfInBounds_toArray, List.set_cons_zero, List.set_cons_succ, List.getElem_toArray, List.getElem_cons_zero, List.getElem_cons_succ]
        refine HeldTill.take (i := 35) (n := 0) (v := ?_) rfl (by kernel_rfl) (by kernel_rfl) (by kernel_rfl) (by kernel_rfl) (fun _ _ _ h => h) (Or.inl ⟨by rfl, ?_⟩) hSq5 ?_
        rotate_left
        · intro w hSw; (try dsimp only at hSw); go_simp; (try with_reducible rfl)
        simp only [Act.put, List.setIfInBounds_toArray, List.set_cons_zero, List.set_cons_succ, List.getElem_toArray, List.getElem_cons_zero, List.getElem_cons_succ]
        refine ⟨by kernel_rfl, ?_⟩
        go_wp2
        go_ret
        exact ⟨rfl, LM.below H82.out⟩
      · have g1 : ((S : Int) == 0) = false := beq_eq_false_iff_ne.2 (by omega)
        have HN0 := Aside0.mk hS0
        clear hS0
        go_upto_region 7 with (fail)
        have Hd := Aside0.mk (LM.drew Hr.out)
        refine HeldTill.begin_ (S := fun (w' : World) => w'.cell? ⟨bc, 0, none⟩ = some (.int .i64 S) ∧ w'.cell? ⟨bc, 1, none⟩ = some (.int .i64 W) ∧ w'.cell? ⟨bc, 2, none⟩ = some (.int .i64 L) ∧ w'.cell? ⟨pa, 0, none⟩ = some (.slice A4 Xa.length k4) ∧ w'.cell? ⟨pb, 0, none⟩ = some (.slice Ab Xb.length kb) ∧ w'.cell? ⟨p8, 0, none⟩ = some (.slice A8 Xx.length k8) ∧ w'.cell? ⟨p9, 0, none⟩ = some (.slice A9 Xy.length k9)) (F := fun _ => true) (by kernel_rfl) ?_
        have hSq0 : (fun (w' : World) => w'.cell? ⟨bc, 0, none⟩ = some (.int .i64 S) ∧ w'.cell? ⟨bc, 1, none⟩ = some (.int .i64 W) ∧ w'.cell? ⟨bc, 2, none⟩ = some (.int .i64 L) ∧ w'.cell? ⟨pa, 0, none⟩ = some (.slice A4 Xa.length k4) ∧ w'.cell? ⟨pb, 0, none⟩ = some (.slice Ab Xb.length kb) ∧ w'.cell? ⟨p8, 0, none⟩ = some (.slice A8 Xx.length k8) ∧ w'.cell? ⟨p9, 0, none⟩ = some (.slice A9 Xy.length k9)) wc.drew := ⟨LM.cell Hd.out 4 rfl 0 rfl, LM.cell Hd.out 4 rfl 1 rfl, LM.cell Hd.out 4 rfl 2 rfl, LM.cell Hd.out 3 rfl 0 rfl, LM.cell Hd.out 2 rfl 0 rfl, LM.cell Hd.out 1 rfl 0 rfl, LM.cell Hd.out 0 rfl 0 rfl⟩
        refine HeldTill.take (i := 0) (n := 35) (v := ?_) rfl (by kernel_rfl) (by kernel_rfl) (by kernel_rfl) (by kernel_rfl) (fun _ _ _ h => h) (Or.inl ⟨by rfl, ?_⟩) hSq0 ?_
        rotate_left
        · intro w hSw; (try dsimp only at hSw); go_simp; (try with_reducible rfl)
        simp only [Act.put, List.setIfInBounds_toArray, List.set_cons_zero, List.set_cons_succ, List.getElem_toArray, List.getElem_cons_zero, List.getElem_cons_succ]
        refine HeldTill.take (i := 1) (n := 34) (v := ?_) rfl (by kernel_rfl) (by kernel_rfl) (by kernel_rfl) (by kernel_rfl) (fun _ _ _ h => h) (Or.inl ⟨by rfl, ?_⟩) hSq0 ?_
        rotate_left
        · intro w hSw; (try dsimp only at hSw); go_simp; (try with_reducible rfl)
        simp only [Act.put, List.setIfInBounds_toArray, List.set_cons_zero, List.set_cons_succ, List.getElem_toArray, List.getElem_cons_zero, List.getElem_cons_succ]
        refine HeldTill.take (i := 2) (n := 33) (v := ?_) rfl (by kernel_rfl) (by kernel_rfl) (by kernel_rfl) (by kernel_rfl) (fun _ _ _ h => h) (Or.inl ⟨by rfl, ?_⟩) hSq0 ?_
        rotate_left
        · intro w hSw; (try dsimp only at hSw); go_simp; (try with_reducible rfl)
        simp only [Act.put, List.setIfInBounds_toArray, List.set_cons_zero, List.set_cons_succ, List.getElem_toArray, List.getElem_cons_zero, List.getElem_cons_succ]
        refine HeldTill.next (j := 3) (n := 32) (by kernel_rfl) rfl ?_
        go_wp2_with (go_at_call 32; (with_reducible refine (LM.bel HC.out Hd.out 3 2 rfl rfl HVXa.out.fit HVb.out.fit HB1.out).mono ?_); rintro e w83 ⟨rfl, hL⟩; have H83 := Aside0.mk hL; clear hL)
        have hSq1 : (fun (w' : World) => w'.cell? ⟨bc, 0, none⟩ = some (.int .i64 S) ∧ w'.cell? ⟨bc, 1, none⟩ = some (.int .i64 W) ∧ w'.cell? ⟨bc, 2, none⟩ = some (.int .i64 L) ∧ w'.cell? ⟨pa, 0, none⟩ = some (.slice A4 Xa.length k4) ∧ w'.cell? ⟨pb, 0, none⟩ = some (.slice Ab Xb.length kb) ∧ w'.cell? ⟨p8, 0, none⟩ = some (.slice A8 Xx.length k8) ∧ w'.cell? ⟨p9, 0, none⟩ = some (.slice A9 Xy.length k9)) _ := ⟨LM.cell H83.out 4 rfl 0 rfl, LM.cell H83.out 4 rfl 1 rfl, LM.cell H83.out 4 rfl 2 rfl, LM.cell H83.out 3 rfl 0 rfl, LM.cell H83.out 2 rfl 0 rfl, LM.cell H83.out 1 rfl 0 rfl, LM.cell H83.out 0 rfl 0 rfl⟩
        refine ⟨fun _ => hSq1, ?_⟩
        refine HeldTill.take (i := 4) (n := 31) (v := ?_) rfl (by kernel_rfl) (by kernel_rfl) (by kernel_rfl) (by kernel_rfl) (fun _ _ _ h => h) (Or.inl ⟨by rfl, ?_⟩) hSq1 ?_
        rotate_left
        · intro w hSw; (try dsimp only at hSw); go_simp; (try with_reducible rfl)
        simp only [Act.put, List.setIfInBounds_toArray, List.set_cons_zero, List.set_cons_succ, List.getElem_toArray, List.getElem_cons_zero, List.getElem_cons_succ]
        refine HeldTill.take (i := 5) (n := 30) (v := ?_) rfl (by kernel_rfl) (by kernel_rfl) (by kernel_rfl) (by kernel_rfl) (fun _ _ _ h => h) (Or.inl ⟨by rfl, ?_⟩) hSq1 ?_
        rotate_left
        · intro w hSw; (try dsimp only at hSw); go_simp; (try with_reducible rfl)
        simp only [Act.put, List.setIfInBounds_toArray, List.set_cons_zero, List.set_cons_succ, List.getElem_toArray, List.getElem_cons_zero, List.getElem_cons_succ]
        refine HeldTill.take (i := 6) (n := 29) (v := ?_) rfl (by kernel_rfl) (by kernel_rfl) (by kernel_rfl) (by kernel_rfl) (fun _ _ _ h => h) (Or.inl ⟨by rfl, ?_⟩) hSq1 ?_
        rotate_left
        · intro w hSw; (try dsimp only at hSw); go_simp; (try with_reducible rfl)
        simp only [Act.put, List.setIfInBounds_toArray, List.set_cons_zero, List.set_cons_succ, List.getElem_toArray, List.getElem_cons_zero, List.getElem_cons_succ]
        refine HeldTill.take (i := 7) (n := 28) (v := ?_) rfl (by kernel_rfl) (by kernel_rfl) (by kernel_rfl) (by kernel_rfl) (fun _ _ _ h => h) (Or.inl ⟨by rfl, ?_⟩) hSq1 ?_
        rotate_left
        · intro w hSw; (try dsimp only at hSw); go_simp; (try with_reducible rfl)
        simp only [Act.put, List.setIfInBounds_toArray, List.set_cons_zero, List.set_cons_succ, List.getElem_toArray, List.getElem_cons_zero, List.getElem_cons_succ]
        refine HeldTill.next (j := 8) (n := 27) (by kernel_rfl) rfl ?_
        go_wp2_with (go_at_call 32; (with_reducible refine (LM.bel HC.out H83.out 1 0 rfl rfl HVx.out.fit HVy.out.fit HB2.out).mono ?_); rintro e w84 ⟨rfl, hL⟩; have H84 := Aside0.mk hL; clear hL)
        have hSq2 : (fun (w' : World) => w'.cell? ⟨bc, 0, none⟩ = some (.int .i64 S) ∧ w'.cell? ⟨bc, 1, none⟩ = some (.int .i64 W) ∧ w'.cell? ⟨bc, 2, none⟩ = some (.int .i64 L) ∧ w'.cell? ⟨pa, 0, none⟩ = some (.slice A4 Xa.length k4) ∧ w'.cell? ⟨pb, 0, none⟩ = some (.slice Ab Xb.length kb) ∧ w'.cell? ⟨p8, 0, none⟩ = some (.slice A8 Xx.length k8) ∧ w'.cell? ⟨p9, 0, none⟩ = some (.slice A9 Xy.length k9)) _ := ⟨LM.cell H84.out 4 rfl 0 rfl, LM.cell H84.out 4 rfl 1 rfl, LM.cell H84.out 4 rfl 2 rfl, LM.cell H84.out 3 rfl 0 rfl, LM.cell H84.out 2 rfl 0 rfl, LM.cell H84.out 1 rfl 0 rfl, LM.cell H84.out 0 rfl 0 rfl⟩
        refine ⟨fun _ => hSq2, ?_⟩
        refine HeldTill.take (i := 9) (n := 26) (v := ?_) rfl (by kernel_rfl) (by kernel_rfl) (by kernel_rfl) (by kernel_rfl) (fun _ _ _ h => h) (Or.inl ⟨by rfl, ?_⟩) hSq2 ?_
        rotate_left
        · intro w hSw; (try dsimp only at hSw); go_simp; (try with_reducible rfl)
        simp only [Act.put, List.setIfInBounds_toArray, List.set_cons_zero, List.set_cons_succ, List.getElem_toArray, List.getElem_cons_zero, List.getElem_cons_succ]
        refine HeldTill.take (i := 10) (n := 25) (v := ?_) rfl (by kernel_rfl) (by kernel_rfl) (by kernel_rfl) (by kernel_rfl) (fun _ _ _ h => h) (Or.inl ⟨by rfl, ?_⟩) hSq2 ?_
        rotate_left
        · intro w hSw; (try dsimp only at hSw); go_simp; (try with_reducible rfl)
        simp only [Act.put, List.setIfInBounds_toArray, List.set_cons_zero, List.set_cons_succ, List.getElem_toArray, List.getElem_cons_zero, List.getElem_cons_succ]
        refine HeldTill.take (i := 11) (n := 24) (v := ?_) rfl (by kernel_rfl) (by kernel_rfl) (by kernel_rfl) (by kernel_rfl) (fun _ _ _ h => h) (Or.inl ⟨by rfl, ?_⟩) hSq2 ?_
        rotate_left
        · intro w hSw; (try dsimp only at hSw); go_simp; (try with_reducible rfl)
        simp only [Act.put, List.setIfInBounds_toArray, List.set_cons_zero, List.set_cons_succ, List.getElem_toArray, List.getElem_cons_zero, List.getElem_cons_succ]
        refine HeldTill.take (i := 12) (n := 23) (v := ?_) rfl (by kernel_rfl) (by kernel_rfl) (by kernel_rfl) (by kernel_rfl) (fun _ _ _ h => h) (Or.inl ⟨by rfl, ?_⟩) hSq2 ?_
        rotate_left
        · intro w hSw; (try dsimp only at hSw); go_simp; (try with_reducible rfl)
        simp only [Act.put, List.setIfInBounds_toArray, List.set_cons_zero, List.set_cons_succ, List.getElem_toArray, List.getElem_cons_zero, List.getElem_cons_succ]
        refine HeldTill.take (i := 13) (n := 22) (v := ?_) rfl (by kernel_rfl) (by kernel_rfl) (by kernel_rfl) (by kernel_rfl) (fun _ _ _ h => h) (Or.inl ⟨by rfl, ?_⟩) hSq2 ?_
        rotate_left
        · intro w hSw; (try dsimp only at hSw); go_simp; (try with_reducible rfl)
        simp only [Act.put, List.setIfInBounds_toArray, List.set_cons_zero, List.set_cons_succ, List.getElem_toArray, List.getElem_cons_zero, List.getElem_cons_succ]
        refine HeldTill.take (i := 14) (n := 21) (v := ?_) rfl (by kernel_rfl) (by kernel_rfl) (by kernel_rfl) (by kernel_rfl) (fun _ _ _ h => h) (Or.inl ⟨by rfl, ?_⟩) hSq2 ?_
        rotate_left
        · intro w hSw; (try dsimp only at hSw); go_simp; (try with_reducible rfl)
        simp only [Act.put, List.setIfInBounds_toArray, List.set_cons_zero, List.set_cons_succ, List.getElem_toArray, List.getElem_cons_zero, List.getElem_cons_succ]
        refine HeldTill.take (i := 15) (n := 20) (v := ?_) rfl (by kernel_rfl) (by kernel_rfl) (by kernel_rfl) (by kernel_rfl) (fun _ _ _ h => h) (Or.inl ⟨by rfl, ?_⟩) hSq2 ?_
        rotate_left
        · intro w hSw; (try dsimp only at hSw); go_simp; (try with_reducible rfl)
        simp only [Act.put, List.setIfInBounds_toArray, List.set_cons_zero, List.set_cons_succ, List.getElem_toArray, List.getElem_cons_zero, List.getElem_cons_succ]
        refine HeldTill.take (i := 16) (n := 19) (v := ?_) rfl (by kernel_rfl) (by kernel_rfl) (by kernel_rfl) (by kernel_rfl) (fun _ _ _ h => h) (Or.inl ⟨by rfl, ?_⟩) hSq2 ?_
        rotate_left
        · intro w hSw; (try dsimp only at hSw); go_simp; (try with_reducible rfl)
        simp only [Act.put, List.setIfInBounds_toArray, List.set_cons_zero, List.set_cons_succ, List.getElem_toArray, List.getElem_cons_zero, List.getElem_cons_succ]
        refine HeldTill.take (i := 17) (n := 18) (v := ?_) rfl (by kernel_rfl) (by kernel_rfl) (by kernel_rfl) (by kernel_rfl) (fun _ _ _ h => h) (Or.inl ⟨by rfl, ?_⟩) hSq2 ?_
        rotate_left
        · intro w hSw; (try dsimp only at hSw); go_simp; (try with_reducible rfl)
        simp only [Act.put, List.setIfInBounds_toArray, List.set_cons_zero, List.set_cons_succ, List.getElem_toArray, List.getElem_cons_zero, List.getElem_cons_succ]
        refine HeldTill.next (j := 18) (n := 17) (by kernel_rfl) rfl ?_
        go_wp2_with (go_at_call 30; (with_reducible refine (hag.out HN0.out _ 1 _ _ _ _ H84.out rfl).mono ?_); rintro e w85 ⟨rfl, hL⟩; have H85 := Aside0.mk hL; clear hL)
        have hSq3 : (fun (w' : World) => w'.cell? ⟨bc, 0, none⟩ = some (.int .i64 S) ∧ w'.cell? ⟨bc, 1, none⟩ = some (.int .i64 W) ∧ w'.cell? ⟨bc, 2, none⟩ = some (.int .i64 L) ∧ w'.cell? ⟨pa, 0, none⟩ = some (.slice A4 Xa.length k4) ∧ w'.cell? ⟨pb, 0, none⟩ = some (.slice Ab Xb.length kb) ∧ w'.cell? ⟨p8, 0, none⟩ = some (.slice A8 Xx.length k8) ∧ w'.cell? ⟨p9, 0, none⟩ = some (.slice A9 Xy.length k9)) _ := ⟨LM.cell H85.out 4 rfl 0 rfl, LM.cell H85.out 4 rfl 1 rfl, LM.cell H85.out 4 rfl 2 rfl, LM.cell H85.out 3 rfl 0 rfl, LM.cell H85.out 2 rfl 0 rfl, LM.cell H85.out 1 rfl 0 rfl, LM.cell H85.out 0 rfl 0 rfl⟩
        refine ⟨fun _ => hSq3, ?_⟩
        refine HeldTill.take (i := 19) (n := 16) (v := ?_) rfl (by kernel_rfl) (by kernel_rfl) (by kernel_rfl) (by kernel_rfl) (fun _ _ _ h => h) (Or.inl ⟨by rfl, ?_⟩) hSq3 ?_
        rotate_left
        · intro w hSw; (try dsimp only at hSw); go_simp; (try with_reducible rfl)
        simp only [Act.put, List.setIfInBounds_toArray, List.set_cons_zero, List.set_cons_succ, List.getElem_toArray, List.getElem_cons_zero, List.getElem_cons_succ]
        refine HeldTill.take (i := 20) (n := 15) (v := ?_) rfl (by kernel_rfl) (by kernel_rfl) (by kernel_rfl) (by kernel_rfl) (fun _ _ _ h => h) (Or.inl ⟨by rfl, ?_⟩) hSq3 ?_
        rotate_left
        · intro w hSw; (try dsimp only at hSw); go_simp; (try with_reducible rfl)
        simp only [Act.put, List.setIfInBounds_toArray, List.set_cons_zero, List.set_cons_succ, List.getElem_toArray, List.getElem_cons_zero, List.getElem_cons_succ]
        refine HeldTill.take (i := 21) (n := 14) (v := ?_) rfl (by kernel_rfl) (by kernel_rfl) (by kernel_rfl) (by kernel_rfl) (fun _ _ _ h => h) (Or.inl ⟨by rfl, ?_⟩) hSq3 ?_
        rotate_left
        · intro w hSw; (try dsimp only at hSw); go_simp; (try with_reducible rfl)
        simp only [Act.put, List.setIfInBounds_toArray, List.set_cons_zero, List.set_cons_succ, List.getElem_toArray, List.getElem_cons_zero, List.getElem_cons_succ]
        refine HeldTill.take (i := 22) (n := 13) (v := ?_) rfl (by kernel_rfl) (by kernel_rfl) (by kernel_rfl) (by kernel_rfl) (fun _ _ _ h => h) (Or.inl ⟨by rfl, ?_⟩) hSq3 ?_
        rotate_left
        · intro w hSw; (try dsimp only at hSw); go_simp; (try with_reducible rfl)
        simp only [Act.put, List.setIfInBounds_toArray, List.set_cons_zero, List.set_cons_succ, List.getElem_toArray, List.getElem_cons_zero, List.getElem_cons_succ]
        refine HeldTill.take (i := 23) (n := 12) (v := ?_) rfl (by kernel_rfl) (by kernel_rfl) (by kernel_rfl) (by kernel_rfl) (fun _ _ _ h => h) (Or.inl ⟨by rfl, ?_⟩) hSq3 ?_
        rotate_left
        · intro w hSw; (try dsimp only at hSw); go_simp; (try with_reducible rfl)
        simp only [Act.put, List.setIfInBounds_toArray, List.set_cons_zero, List.set_cons_succ, List.getElem_toArray, List.getElem_cons_zero, List.getElem_cons_succ]
        refine HeldTill.take (i := 24) (n := 11) (v := ?_) rfl (by kernel_rfl) (by kernel_rfl) (by kernel_rfl) (by kernel_rfl) (fun _ _ _ h => h) (Or.inl ⟨by rfl, ?_⟩) hSq3 ?_
        rotate_left
        · intro w hSw; (try dsimp only at hSw); go_simp; (try with_reducible rfl)
        simp only [Act.put, List.setIfInBounds_toArray, List.set_cons_zero, List.set_cons_succ, List.getElem_toArray, List.getElem_cons_zero, List.getElem_cons_succ]
        refine HeldTill.take (i := 25) (n := 10) (v := ?_) rfl (by kernel_rfl) (by kernel_rfl) (by kernel_rfl) (by kernel_rfl) (fun _ _ _ h => h) (Or.inl ⟨by rfl, ?_⟩) hSq3 ?_
        rotate_left
        · intro w hSw; (try dsimp only at hSw); go_simp; (try with_reducible rfl)
        simp only [Act.put, List.setIfInBounds_toArray, List.set_cons_zero, List.set_cons_succ, List.getElem_toArray, List.getElem_cons_zero, List.getElem_cons_succ]
        refine HeldTill.take (i := 28) (n := 9) (v := ?_) rfl (by kernel_rfl) (by kernel_rfl) (by kernel_rfl) (by kernel_rfl) (fun _ _ _ h => h) (Or.inl ⟨by rfl, ?_⟩) hSq3 ?_
        rotate_left
        · intro w hSw; (try dsimp only at hSw); go_simp; (try with_reducible rfl)
        simp only [Act.put, List.setIfInBounds_toArray, List.set_cons_zero, List.set_cons_succ, List.getElem_toArray, List.getElem_cons_zero, List.getElem_cons_succ]
        refine HeldTill.take (i := 29) (n := 8) (v := ?_) rfl (by kernel_rfl) (by kernel_rfl) (by kernel_rfl) (by kernel_rfl) (fun _ _ _ h => h) (Or.inl ⟨by rfl, ?_⟩) hSq3 ?_
        rotate_left
        · intro w hSw; (try dsimp only at hSw); go_simp; (try with_reducible rfl)
        simp only [Act.put, List.setIfInBounds_toArray, List.set_cons_zero, List.set_cons_succ, List.getElem_toArray, List.getElem_cons_zero, List.getElem_cons_succ]
        refine HeldTill.next (j := 26) (n := 7) (by kernel_rfl) rfl ?_
        go_wp2_with (go_at_call 29; (with_reducible refine (htt.out _ 1 _ _ _ _ H85.out rfl).mono ?_); rintro e w86 ⟨A86, k86, rfl, hL⟩; have H86 := Aside0.mk hL; clear hL)
        have hSq4 : (fun (w' : World) => w'.cell? ⟨bc, 0, none⟩ = some (.int .i64 S) ∧ w'.cell? ⟨bc, 1, none⟩ = some (.int .i64 W) ∧ w'.cell? ⟨bc, 2, none⟩ = some (.int .i64 L) ∧ w'.cell? ⟨pa, 0, none⟩ = some (.slice A4 Xa.length k4) ∧ w'.cell? ⟨pb, 0, none⟩ = some (.slice Ab Xb.length kb) ∧ w'.cell? ⟨p8, 0, none⟩ = some (.slice A8 Xx.length k8) ∧ w'.cell? ⟨p9, 0, none⟩ = some (.slice A9 Xy.length k9)) _ := ⟨LM.cell H86.out 4 rfl 0 rfl, LM.cell H86.out 4 rfl 1 rfl, LM.cell H86.out 4 rfl 2 rfl, LM.cell H86.out 3 rfl 0 rfl, LM.cell H86.out 2 rfl 0 rfl, LM.cell H86.out 1 rfl 0 rfl, LM.cell H86.out 0 rfl 0 rfl⟩
        refine ⟨fun _ => hSq4, ?_⟩
        refine HeldTill.take (i := 27) (n := 6) (v := ?_) rfl (by kernel_rfl) (by kernel_rfl) (by kernel_rfl) (by kernel_rfl) (fun _ _ _ h => h) (Or.inl ⟨by rfl, ?_⟩) hSq4 ?_
        rotate_left
        · intro w hSw; (try dsimp only at hSw); go_simp; (try with_reducible rfl)
        simp only [Act.put, List.setIfInBounds_toArray, List.set_cons_zero, List.set_cons_succ, List.getElem_toArray, List.getElem_cons_zero, List.getElem_cons_succ]
        refine HeldTill.next (j := 30) (n := 5) (by kernel_rfl) rfl ?_
        go_wp2_with (go_at_call 33; (with_reducible refine (LM.same H86.out 0 2 rfl rfl HVx.out.fit hS8 hW4).mono ?_); rintro e w87 ⟨rfl, hL⟩; have H87 := Aside0.mk hL; clear hL)
        have hSq5 : (fun (w' : World) => w'.cell? ⟨bc, 0, none⟩ = some (.int .i64 S) ∧ w'.cell? ⟨bc, 1, none⟩ = some (.int .i64 W) ∧ w'.cell? ⟨bc, 2, none⟩ = some (.int .i64 L) ∧ w'.cell? ⟨pa, 0, none⟩ = some (.slice A4 Xa.length k4) ∧ w'.cell? ⟨pb, 0, none⟩ = some (.slice Ab Xb.length kb) ∧ w'.cell? ⟨p8, 0, none⟩ = some (.slice A8 Xx.length k8) ∧ w'.cell? ⟨p9, 0, none⟩ = some (.slice A9 Xy.length k9)) _ := ⟨LM.cell H87.out 4 rfl 0 rfl, LM.cell H87.out 4 rfl 1 rfl, LM.cell H87.out 4 rfl 2 rfl, LM.cell H87.out 3 rfl 0 rfl, LM.cell H87.out 2 rfl 0 rfl, LM.cell H87.out 1 rfl 0 rfl, LM.cell H87.out 0 rfl 0 rfl⟩
        refine ⟨fun _ => hSq5, ?_⟩
        refine HeldTill.take (i := 31) (n := 4) (v := ?_) rfl (by kernel_rfl) (by kernel_rfl) (by kernel_rfl) (by kernel_rfl) (fun _ _ _ h => h) (Or.inl ⟨by rfl, ?_⟩) hSq5 ?_
        rotate_left
        · intro w hSw; (try dsimp only at hSw); go_simp; (try with_reducible rfl)
        simp only [Act.put, List.setIfInBounds_toArray, List.set_cons_zero, List.set_cons_succ, List.getElem_toArray, List.getElem_cons_zero, List.getElem_cons_succ]
        refine HeldTill.take (i := 32) (n := 3) (v := ?_) rfl (by kernel_rfl) (by kernel_rfl) (by kernel_rfl) (by kernel_rfl) (fun _ _ _ h => h) (Or.inl ⟨by rfl, ?_⟩) hSq5 ?_
        rotate_left
        · intro w hSw; (try dsimp only at hSw); go_simp; (try with_reducible rfl)
        simp only [Act.put, List.setIfInBounds_toArray, List.set_cons_zero, List.set_cons_succ, List.getElem_toArray, List.getElem_cons_zero, List.getElem_cons_succ]
        refine HeldTill.next (j := 33) (n := 2) (by kernel_rfl) rfl ?_
        go_wp2_with (go_at_call 27; (with_reducible refine (LM.awake H87.out).mono ?_); rintro e w88 ⟨rfl, hL⟩; have H88 := Aside0.mk hL; clear hL)
        have hSq6 : (fun (w' : World) => w'.cell? ⟨bc, 0, none⟩ = some (.int .i64 S) ∧ w'.cell? ⟨bc, 1, none⟩ = some (.int .i64 W) ∧ w'.cell? ⟨bc, 2, none⟩ = some (.int .i64 L) ∧ w'.cell? ⟨pa, 0, none⟩ = some (.slice A4 Xa.length k4) ∧ w'.cell? ⟨pb, 0, none⟩ = some (.slice Ab Xb.length kb) ∧ w'.cell? ⟨p8, 0, none⟩ = some (.slice A8 Xx.length k8) ∧ w'.cell? ⟨p9, 0, none⟩ = some (.slice A9 Xy.length k9)) _ := ⟨LM.cell H88.out 4 rfl 0 rfl, LM.cell H88.out 4 rfl 1 rfl, LM.cell H88.out 4 rfl 2 rfl, LM.cell H88.out 3 rfl 0 rfl, LM.cell H88.out 2 rfl 0 rfl, LM.cell H88.out 1 rfl 0 rfl, LM.cell H88.out 0 rfl 0 rfl⟩
        refine ⟨fun _ => hSq6, ?_⟩
        refine HeldTill.take (i := 34) (n := 1) (v := ?_) rfl (by kernel_rfl) (by kernel_rfl) (by kernel_rfl) (by kernel_rfl) (fun _ _ _ h => h) (Or.inl ⟨by rfl, ?_⟩) hSq6 ?_
        rotate_left
        · intro w hSw; (try dsimp only at hSw); go_simp; (try with_reducible rfl)
        simp only [Act.put, List.setIfInBounds_toArray, List.set_cons_zero, List.set_cons_succ, List.getElem_toArray, List.getElem_cons_zero, List.getElem_cons_succ]
        refine HeldTill.take (i := 35) (n := 0) (v := ?_) rfl (by kernel_rfl) (by kernel_rfl) (by kernel_rfl) (by kernel_rfl) (fun _ _ _ h => h) (Or.inl ⟨by rfl, ?_⟩) hSq6 ?_
        rotate_left
        · intro w hSw; (try dsimp only at hSw); go_simp; (try with_reducible rfl)
        simp only [Act.put, List.setIfInBounds_toArray, List.set_cons_zero, List.set_cons_succ, List.getElem_toArray, List.getElem_cons_zero, List.getElem_cons_succ]
        refine ⟨by kernel_rfl, ?_⟩
        go_wp2
        go_ret
        exact ⟨rfl, LM.below H88.out⟩
end Go.Proofs.Ytkgocbmnjlfkoaa.M
end
section
namespace Go.Proofs.YtkgocbmnjlfkoaaW.PrintWords
open Go.ChangeShapes Go.WideShapes
theorem sized_ints {H : Type} {enc : TypeId × Value → H} {P : Program} {W : World} {base : Nat} {spare : Nat → Bool} {held : Bool} {t e : TypeId} {k : IntKind} {a : Option Addr} {len cap : Nat} {d : DataW H} {ps : List MemPlace} {ts : List TypeId} {ds : List (DataW H)} {j : Nat}
    (hsz : (DataW.weightsEach P ts ds).all (· ≤ reachBytes) = true) (ht : ts[j]? = some t) (hd : ds[j]? = some d) (hu : P.underlying t = some (.slice e)) (he : P.underlying e = some (.int k)) (hc : P.cellsOf e = 1) {B : Nat} (hB : P.bytesOf e = B)
    (h : DataW.Trod enc P W base spare held t (.slice a len cap) d ps) : len * B ≤ 140737488351232 := by
  obtain ⟨fuel, hf⟩ := h
  rcases open_ints hu he hc hf with ⟨hcs, _⟩ | ⟨x, l, c, zs, hcs, _, hl, _, hz, hx, _, _⟩
  · simp [Value.cells] at hcs
    obtain ⟨rfl, rfl, rfl⟩ := hcs
    simp
  · simp [Value.cells] at hcs
    obtain ⟨rfl, rfl, rfl⟩ := hcs
    obtain ⟨hx, _⟩ := Prod.mk.inj hx
    subst hx
    have z := sized_slice hsz ht hd hu
    rw [hB] at z
    have hl2 : len ≤ zs.length := by
      rw [hz]
      split
      · exact hl
      · exact Nat.le_refl _
    have h1 : (lits (H := H) k (zs.take len)).length + (lits (H := H) k (zs.drop len)).length = zs.length := by
      simp [lits]
      omega
    rw [h1] at z
    exact Nat.le_trans (Nat.mul_le_mul_right _ hl2) z
end Go.Proofs.YtkgocbmnjlfkoaaW.PrintWords
end
section
namespace Go.Proofs.Ytkgocbmnjlfkoaa.mustGrows
open Go.ChangeShapes Go.WideShapes Go.ChangeAt Go.RowKit
open Go.ChangeMaps (open_string shut_string)
set_option linter.unusedVariables false
theorem own : ownKnob Try.prog.godebug = none := by kernel_rfl
theorem laidOut : laidOutB Try.prog = true := by kernel_rfl
def IsRow (k : IntKind) (w : World) (a : Option Addr) (len cap : Nat) (zs : List Int) : Prop :=
  (a = none ∧ len = 0 ∧ cap = 0 ∧ zs = []) ∨
  ∃ x, a = some x ∧ len ≤ cap ∧ cap ≤ maxLen ∧ zs.length = cap ∧ (∀ i, i < zs.length → w.cell? (x.add i) = some (.int k (zs.getD i 0))) ∧ ∀ n ∈ zs, (Lit.int k n).wf = true
theorem walk (a0 : Option Addr) (len0 cap0 : Nat) (z0 : List Int) (w : World) (w0 : IsRow .i64 w a0 len0 cap0 z0) (y0 : len0 * 8 ≤ 140737488351232) :
    Calls Try.prog 6 #[.slice a0 len0 cap0] w fun e w' => e = .returned (.bool true) ∧ Below w.heap.size w w' := by
  obtain ⟨l0, rfl, hr0, hm0, hw0, hc0⟩ := Go.Proofs.YtkgocbmnjlfkoaaW.PrintWords.ReadsInt.ofRowC w0
  exact M.mustGrows_walk a0 cap0 l0 w (Go.Proofs.YtkgocbmnjlfkoaaW.PrintWords.Kd.C_of_reads (d := (0 : Int)) (h1 := fun _ => rfl) hr0) hc0 (by omega)
set_option maxRecDepth 100000 in
theorem lifted (os : Os) (started : os.Started) (H : Type) (enc : TypeId × Value → H) :
    ReturnsInHanded {} Try.checked os 6 .any (Rows.mustGrowsSpec.pre6 enc Try.prog Try.f6 Rows.mustGrowsRow.domain false) (Rows.mustGrowsSpec.post enc Try.prog Try.f6 false true false false) := by
  refine returnsInHanded_of_change_sized (C := Try.checked) own started (by kernel_rfl) Try.func6
    (ChangeSpec.witness6 (enc := enc) (C := Try.checked) false ⟨#[], #[.slice none 0 0], []⟩ 8 (by kernel_rfl) (by kernel_rfl) (by kernel_rfl) (by kernel_rfl)) ?_
  intro W base args ds gs before hval0 hW hcnd hsz0 _
  have hsz : (DataW.weightsEach Try.prog (Try.f6.params.toList ++ Rows.mustGrowsSpec.plain.varTypes Try.prog) (ds ++ gs)).all (· ≤ reachBytes) = true := hsz0
  have hval : ∀ (j : Nat) t v, Try.f6.params[j]? = some t → args[j]? = some v → Value.okWide Try.prog W .any base t v := hval0
  have hW' := hW
  obtain ⟨p, q, hA0, hV, rfl, hfz, hnd⟩ := hW
  have hA : DataW.TrodAll enc Try.prog W 0 (fun _ => true) true Try.f6.params.toList args.toList ds p := hA0
  rw [Try.params6] at hA hval hsz
  obtain ⟨v0, vs0, d0, ds0, p0, q0, hargs, rfl, rfl, h0, r0⟩ := trodAll_cons hA
  obtain ⟨rfl, rfl, rfl⟩ := trodAll_nil r0
  obtain rfl : args = #[v0] := by cases args; simp_all
  obtain ⟨rfl, rfl⟩ := trodVars_none hV
  obtain ⟨a0, len0, cap0, rfl⟩ := okWide_slice Try.underlying22 (hval 0 22 v0 rfl rfl)
  have k0 := h0
  have lt0 : ∀ x ∈ p0, x.block < W.heap.size := by obtain ⟨m, hm⟩ := k0; exact DataW.trod_lt m _ _ _ hm
  obtain ⟨z0, w0⟩ : ∃ zs, IsRow .i64 W a0 len0 cap0 zs := by
    obtain ⟨fuel, hf⟩ := h0
    rcases open_ints Try.underlying22 Try.underlying3 (by kernel_rfl) hf with ⟨hcs, _⟩ | ⟨x, l, c, zs, hcs, _, hl, hm, hz, _, hcell, hwz⟩
    · simp [Value.cells] at hcs
      obtain ⟨rfl, rfl, rfl⟩ := hcs
      exact ⟨[], .inl ⟨rfl, rfl, rfl, rfl⟩⟩
    · simp [Value.cells] at hcs
      obtain ⟨rfl, rfl, rfl⟩ := hcs
      exact ⟨zs, .inr ⟨_, rfl, hl, hm, by simpa using hz, hcell, hwz⟩⟩
  have y0 : len0 * 8 ≤ 140737488351232 := Go.Proofs.YtkgocbmnjlfkoaaW.PrintWords.sized_ints hsz (j := 0) (t := 22) rfl rfl Try.underlying22 Try.underlying3 (by kernel_rfl) (by kernel_rfl) h0
  clear hA0 hval0 hsz0 hsz
  refine (walk a0 len0 cap0 z0 W w0 y0).mono fun e W' ⟨he, bel⟩ => ?_
  subst he
  exact ⟨_, rfl, _, _, _, [], _, [], hW', trodAll_mk1 (shut_bool Try.underlying4 _), (trodAll_cons_mk (Below.trod laidOut (by kernel_rfl) (of_decide_eq_true (by kernel_rfl)) k0 bel lt0) trodAll_mk0), rfl, bel.frame _, fun h => by cases h⟩
theorem over : Rows.mustGrowsRow.holds Try.pinned (OpenSpec.ofChange Rows.mustGrowsSpec) :=
  OpenClaim.holds_of_wide 6 Try.f6 rfl rfl rfl rfl rfl rfl rfl ⟨rfl, rfl, rfl, rfl, rfl⟩ rfl rfl rfl rfl rfl (by kernel_rfl) Try.func6 (by kernel_rfl)
    (of_decide_eq_true (by kernel_rfl)) (by unfold Func.isWrapper; first | (rw [if_pos (by decide +kernel)]; kernel_rfl) | (rw [if_neg (by decide +kernel)]; exact ⟨rfl, rfl⟩))
    (fun os started H enc _ => lifted os started H enc)
theorem proved : Rows.MustGrowsSaid := over
#print axioms proved
end Go.Proofs.Ytkgocbmnjlfkoaa.mustGrows
namespace Go.Proofs.Ytkgocbmnjlfkoaa
theorem mustGrows_holds : Rows.MustGrowsSaid := mustGrows.proved
end Go.Proofs.Ytkgocbmnjlfkoaa
end
