import Derived.Test.YtilddfgifjejbaaRows
import Derived.Test.YtilddfgifjejbaaCal11
import Derived.Test.YtilddfgifjejbaaPure1
import Derived.Test.YtilddfgifjejbaaPure2
import Derived.Test.YtilddfgifjejbaaPure3
import Derived.Test.YtilddfgifjejbaaPure4
import Derived.Test.YtilddfgifjejbaaA1
import Derived.Test.YtilddfgifjejbaaA2
import Derived.Test.YtilddfgifjejbaaA3
import Derived.Test.YtilddfgifjejbaaA4
import Derived.Test.YtilddfgifjejbaaA11
namespace Go.Proofs.Ytilddfgifjejbaa.A12
open Go Go.RowKit Go.L
theorem mix : Try.prog.follows .mixedOrders = true := by kernel_rfl
theorem cf21 : CallF Try.prog 21 := fun w vs => by kernel_rfl
theorem cf22 : CallF Try.prog 22 := fun w vs => by kernel_rfl
theorem cf23 : CallF Try.prog 23 := fun w vs => by kernel_rfl
theorem cf24 : CallF Try.prog 24 := fun w vs => by kernel_rfl
theorem cf25 : CallF Try.prog 25 := fun w vs => by kernel_rfl
theorem cf26 : CallF Try.prog 26 := fun w vs => by kernel_rfl
theorem cf27 : CallF Try.prog 27 := fun w vs => by kernel_rfl
theorem cf28 : CallF Try.prog 28 := fun w vs => by kernel_rfl
theorem cf29 : CallF Try.prog 29 := fun w vs => by kernel_rfl
theorem ts42 : TS Try.prog 42 3 1 := ⟨by kernel_rfl, by kernel_rfl⟩
end Go.Proofs.Ytilddfgifjejbaa.A12
namespace Go.Proofs.Ytilddfgifjejbaa
open Go Go.RowKit Go.L A12
theorem heldInts_nil (k : Int) : heldInts [] k = k := by simp [heldInts, allN]
set_option maxRecDepth 8000 in
theorem law_valid (G : Kin) (hr : ∀ g ∈ G, ∀ t ∈ g, TyOk t) (a : Int) (hv : kinOk G = true ∧ 0 ≤ a ∧ a < kcnt G) : FnC Try.prog 6 [A.sl 1 cGrp G, A.int a] (A.bool true) := by
  have hll := kline_len G.flatten a
  have hle : (kinLine G a).length = (kline G.flatten a).length := by simp [kinLine]
  refine Fn_of_W Try.func6 rfl rfl fun r w => ?_
  refine W_seq ?_
  refine W_region ?_  -- R0 exact.go:2350
  refine WL_ac rfl ?_
  refine WL_nil ?_
  refine Fin_then ?_
  refine W_seq ?_
  refine W_region ?_  -- R1 exact.go:2351
  refine WL_ac rfl ?_
  refine WL_nil ?_
  refine Fin_then ?_
  refine W_seq ?_
  refine W_region ?_  -- R2 exact.go:2352
  refine WL_mv rfl rfl ?_
  refine WL_mv rfl rfl ?_
  refine WL_step (S_plain (O_call cf22 (laws_szTypeSS _ _ (by omega) (by omega)) rfl) ⟨T1 rfl, T1 rfl, trivial⟩ rfl rfl) ?_
  refine WL_as rfl rfl ?_
  refine WL_nil ?_
  refine Fin_then ?_
  refine W_seq ?_
  refine W_seq ?_
  refine W_region ?_  -- R3 exact.go:2353
  refine WL_mv rfl rfl ?_
  refine WL_step (S_plain O_lss ⟨T1 rfl, C1, trivial⟩ rfl rfl) ?_
  refine WL_nil ?_
  refine Fin_then ?_
  refine W_cond rfl (fun h0 => ?_) (fun h0 => ?_)
  · skip
    simp only [decide_eq_true_eq, decide_eq_false_iff_not] at h0
    refine W_seq ?_
    refine W_region ?_  -- R4 exact.go:2354
    refine WL_ac rfl ?_
    refine WL_nil ?_
    refine Fin_then ?_
    refine W_ret ?_
    refine Fin_then_ret ?_
    exact RetC rfl (Res1 rfl (RV.tmp rfl (by first | exact Imp.refl | exact Imp.slv | exact Imp.nil | exact Imp.int (by omega) | exact Imp.int (by simp; done) | exact Imp.bool (by simp_all; done))))
  · skip
    simp only [decide_eq_true_eq, decide_eq_false_iff_not] at h0
    have hb : bKin G ≤ 1048576 := by unfold neg1 at h0; split at h0 <;> omega
    have hG := small_of hb hr
    have hm := mKin_le G
    have hcc := hG.kcnt
    have hfl := from_length 1 (kinLine G a).length
    refine W_skip ?_
    refine Fin_then ?_
    refine W_seq ?_
    refine W_region ?_  -- R5 exact.go:2356
    refine WL_mv rfl rfl ?_
    refine WL_step (S_plain (O_call cf24 (FnN.fnC (laws_toTypeSS _ (by omega))) rfl) ⟨T1 rfl, trivial⟩ rfl rfl) ?_
    refine WL_mv rfl rfl ?_
    refine WL_step (S_plain (OpN.post (O_call cf23 (spec_KinLine _ (by assumption) _) rfl) (show Imp _ (A.sl 1 cInt (kinLine G a)) from Imp.eq (by rw [if_pos (by grind)]))) ⟨T1 rfl, T1 rfl, trivial⟩ rfl rfl) ?_
    refine WL_as rfl rfl ?_
    refine WL_cp [0, 6] fun c1 hc1 => ?_
    have hE : ∀ a, r a ≠ none → c1 a = none → a.spot = none → False := fun a h1 h2 _ => hc1 a h1 h2
    refine WL_nil ?_
    refine Fin_then ?_
    refine W_seq ?_
    refine W_region ?_  -- R6 exact.go:2357
    refine WL_mv rfl rfl ?_
    refine WL_step (S_plain (O_callL (us := [_]) [] c1 (List.Mem.head _) cf24 (laws_toTypeSS _ (by omega)) rfl ⟨(Lend.imp Imp.at_), trivial⟩) ⟨T1 rfl, trivial⟩ rfl rfl) ?_
    refine WL_as rfl rfl ?_
    refine WL_nil ?_
    refine Fin_then ?_
    refine W_seq ?_
    refine W_region ?_  -- R7 exact.go:2358
    refine WL_mv rfl rfl ?_
    refine WL_imp 24 rfl Imp.nw ?_
    refine WL_mv rfl rfl ?_
    refine WL_callX [] [] [] cf21 (impl_KinLine _ (by assumption) _ hv) rfl ⟨T1 rfl, T1 rfl, trivial⟩ OSub.nil rfl rfl rfl rfl fun x26 => ?_
    refine WL_st 26 rfl fun hq26 => ?_
    refine WL_as rfl rfl ?_
    refine WL_nil ?_
    refine Fin_then ?_
    refine W_seq ?_
    refine W_seq ?_
    refine W_region ?_  -- R8 exact.go:2359
    refine WL_mv rfl rfl ?_
    refine WL_mv rfl rfl ?_
    refine WL_step (S_plain (OpN.pureNw Pure.val (O_callL (us := [_, _]) [0] c1 (List.Mem.head _) cf25 (FnC.fnN Pure.val (laws_eqIntS _ _)) rfl ⟨(Lend.osI 0 rfl (by first | rfl | simp [from_length]) (by omega) (by omega)), (Lend.imp Imp.at_), trivial⟩)) ⟨T1 rfl, T1 rfl, trivial⟩ rfl rfl) ?_
    refine WL_step (S_plain O_not ⟨T1 rfl, trivial⟩ rfl rfl) ?_
    refine WL_nil ?_
    refine Fin_then ?_
    refine W_cond rfl (fun h1 => ?_) (fun h1 => ?_)
    · skip
      exfalso; simp at h1
    · skip
      refine W_skip ?_
      refine Fin_then ?_
      refine W_seq ?_
      refine W_seq ?_
      refine W_region ?_  -- R10 exact.go:2362
      refine WL_mv rfl rfl ?_
      refine WL_mv rfl rfl ?_
      refine WL_step (S_plain ((O_callL (us := [_]) [] c1 (List.Mem.head _) cf24 (laws_toTypeSS _ (by omega)) rfl ⟨(Lend.imp Imp.at_), trivial⟩).post Imp.nw) ⟨T1 rfl, trivial⟩ rfl rfl) ?_
      refine WL_step (S_plain (OpN.pureNw Pure.val (O_callL (us := [_, _]) [] c1 (List.Mem.head _) cf26 (FnC.fnN Pure.val (laws_eqTypeSS _ _)) rfl ⟨(Lend.imp Imp.nw), Lend.refl, trivial⟩)) ⟨T1 rfl, T1 rfl, trivial⟩ rfl rfl) ?_
      refine WL_step (S_plain O_not ⟨T1 rfl, trivial⟩ rfl rfl) ?_
      refine WL_nil ?_
      refine Fin_then ?_
      refine W_cond rfl (fun h2 => ?_) (fun h2 => ?_)
      · skip
        exfalso; simp at h2
      · skip
        refine W_skip ?_
        refine Fin_then ?_
        refine W_seq ?_
        refine W_region ?_  -- R12 exact.go:2365
        refine WL_ac rfl ?_
        refine WL_nil ?_
        refine Fin_then ?_
        refine W_seq ?_
        refine W_region ?_  -- R13 exact.go:2366
        refine WL_mv rfl rfl ?_
        refine WL_imp 36 rfl (Imp.nwi (Imp.sli sGrp_imp)) ?_
        refine WL_mv rfl rfl ?_
        refine WL_callK (us := [_, _]) c1 [(0, true, _), (1, true, _), (6, true, _), (8, true, _)] _ cf27 (laws_markTypeSS _ _ (by omega) (by omega)) rfl ⟨T1 rfl, T1 rfl, trivial⟩ ⟨NwI.nw, NwI.val, trivial⟩ (List.Mem.head _) hE ⟨⟨rfl, _, rfl, KI.at_⟩, ⟨rfl, _, rfl, KI.val⟩, ⟨rfl, _, rfl, KI.at_⟩, ⟨rfl, _, rfl, KI.val⟩, trivial⟩ (OKI.cons (AllKI.pure (AllPure.intsp _ _)) OKI.nil) rfl rfl ?_
        refine WL_as rfl rfl ?_
        refine WL_nil ?_
        refine Fin_then ?_
        refine W_seq ?_
        refine W_seq ?_
        refine W_region ?_  -- R14 exact.go:2367
        refine WL_mv rfl rfl ?_
        refine WL_step (S_plain O_lss ⟨T1 rfl, C1, trivial⟩ rfl rfl) ?_
        refine WL_mv rfl rfl ?_
        refine WL_step (S_f1 rfl rfl (fun hc => O_move) ⟨⟨_, rfl, (by first | exact fun _ _ => rfl | exact fun h _ => h | exact fun _ h => h | exact fun h k => band h k | exact fun h _ => bandl h | exact fun h _ => bandr h)⟩, trivial⟩ rfl rfl rfl) ?_
        refine WL_step (S_f1 rfl rfl (fun hc => O_move) ⟨⟨_, rfl, (by first | exact fun _ _ => rfl | exact fun h _ => h | exact fun _ h => h | exact fun h k => band h k | exact fun h _ => bandl h | exact fun h _ => bandr h)⟩, trivial⟩ rfl rfl rfl) ?_
        refine WL_step (S_f1 rfl rfl (fun hc => (OpN.pureNw Pure.val (O_callL (us := [_, _]) [0] c1 (List.Mem.head _) cf25 (FnC.fnN Pure.val (laws_eqIntS _ _)) rfl ⟨(Lend.osI 0 rfl (by first | rfl | simp [from_length]) (by omega) (by omega)), (Lend.imp Imp.at_), trivial⟩))) ⟨⟨_, rfl, (by first | exact fun _ _ => rfl | exact fun h _ => h | exact fun _ h => h | exact fun h k => band h k | exact fun h _ => bandl h | exact fun h _ => bandr h)⟩, ⟨_, rfl, (by first | exact fun _ _ => rfl | exact fun h _ => h | exact fun _ h => h | exact fun h k => band h k | exact fun h _ => bandl h | exact fun h _ => bandr h)⟩, trivial⟩ rfl rfl rfl) ?_
        refine WL_step (S_f1 rfl rfl (fun hc => O_not) ⟨⟨_, rfl, (by first | exact fun _ _ => rfl | exact fun h _ => h | exact fun _ h => h | exact fun h k => band h k | exact fun h _ => bandl h | exact fun h _ => bandr h)⟩, trivial⟩ rfl rfl rfl) ?_
        refine WL_step (S_plain O_or ⟨T1 rfl, ⟨_, rfl, (by first | exact fun _ _ => rfl | exact fun h _ => h | exact fun _ h => h | exact fun h k => band h k | exact fun h _ => bandl h | exact fun h _ => bandr h)⟩, trivial⟩ rfl rfl) ?_
        refine WL_nil ?_
        refine Fin_then ?_
        refine W_cond rfl (fun h3 => ?_) (fun h3 => ?_)
        · skip
          exfalso; simp at h3; omega
        · skip
          refine W_skip ?_
          refine Fin_then ?_
          refine W_seq ?_
          refine W_region ?_  -- R16 exact.go:2370
          refine WL_ac rfl ?_
          refine WL_nil ?_
          refine Fin_then ?_
          refine W_seq ?_
          refine W_region ?_  -- R17 exact.go:2371
          refine WL_mv rfl rfl ?_
          refine WL_mv rfl rfl ?_
          refine WL_callX [0] [] [] cf28 (laws_markIntS _ _ _ _ _ (by omega) _ (by omega) (by omega)) rfl ⟨T1 rfl, T1 rfl, trivial⟩ (.cons AllImp.refl OSub.nil) rfl rfl rfl rfl fun x49 => ?_
          refine WL_as rfl rfl ?_
          refine WL_nil ?_
          refine Fin_then ?_
          refine W_seq ?_
          refine W_region ?_  -- R18 exact.go:2372
          refine WL_ac rfl ?_
          refine WL_nil ?_
          refine Fin_then ?_
          refine W_seq ?_
          refine W_region ?_  -- R19 exact.go:2373
          refine WL_mv rfl rfl ?_
          refine WL_mv rfl rfl ?_
          refine WL_step (S_plain (OpN.pureNw Pure.val (O_callL (us := [_, _]) [0] c1 (List.Mem.head _) cf29 (FnC.fnN Pure.val (laws_heldIntS _ _ (by omega) (by omega))) rfl ⟨(Lend.osI 0 rfl (by first | rfl | simp [from_length]) (by omega) (by omega)), Lend.refl, trivial⟩)) ⟨T1 rfl, T1 rfl, trivial⟩ rfl rfl) ?_
          refine WL_as rfl rfl ?_
          refine WL_nil ?_
          refine Fin_then ?_
          refine W_seq ?_
          refine W_seq ?_
          refine W_region ?_  -- R20 exact.go:2374
          refine WL_mv rfl rfl ?_
          refine WL_step (S_plain O_lss ⟨T1 rfl, C1, trivial⟩ rfl rfl) ?_
          refine WL_nil ?_
          refine Fin_then ?_
          refine W_cond rfl (fun h4 => ?_) (fun h4 => ?_)
          · skip
            exfalso; rw [heldInts_from] at h4; simp at h4; omega
          · skip
            refine W_skip ?_
            refine Fin_then ?_
            refine W_seq ?_
            refine W_seq ?_
            refine W_region ?_  -- R22 exact.go:2377
            refine WL_mv rfl rfl ?_
            refine WL_mv rfl rfl ?_
            refine WL_step (S_plain O_neq ⟨T1 rfl, T1 rfl, trivial⟩ rfl rfl) ?_
            refine WL_nil ?_
            refine Fin_then ?_
            refine W_cond rfl (fun h5 => ?_) (fun h5 => ?_)
            · skip
              exfalso; rw [heldInts_from] at h5; simp at h5
            · skip
              refine W_skip ?_
              refine Fin_then ?_
              refine W_seq ?_
              refine W_region ?_  -- R24 exact.go:2380
              refine WL_mv rfl rfl ?_
              refine WL_step (S_plain ((O_callL (us := [_]) [] c1 (List.Mem.head _) cf24 (laws_toTypeSS _ (by omega)) rfl ⟨(Lend.imp Imp.at_), trivial⟩).post Imp.nw) ⟨T1 rfl, trivial⟩ rfl rfl) ?_
              refine WL_mv rfl rfl ?_
              refine WL_callX [] [] [] cf21 (impl_KinLine _ (by assumption) _ hv) rfl ⟨T1 rfl, T1 rfl, trivial⟩ OSub.nil rfl rfl rfl rfl fun x61 => ?_
              refine WL_st 61 rfl fun hq61 => ?_
              refine WL_as rfl rfl ?_
              refine WL_nil ?_
              refine Fin_then ?_
              refine W_seq ?_
              refine W_seq ?_
              refine W_region ?_  -- R25 exact.go:2381
              refine WL_mv rfl rfl ?_
              refine WL_mv rfl rfl ?_
              refine WL_step (S_plain (OpN.pureNw Pure.val (O_callL (us := [_, _]) [0] c1 (List.Mem.head _) cf25 (FnC.fnN Pure.val (laws_eqIntS _ _)) rfl ⟨(Lend.osI 0 rfl (by first | rfl | simp [from_length]) (by omega) (by omega)), (Lend.imp Imp.at_), trivial⟩)) ⟨T1 rfl, T1 rfl, trivial⟩ rfl rfl) ?_
              refine WL_step (S_plain O_not ⟨T1 rfl, trivial⟩ rfl rfl) ?_
              refine WL_nil ?_
              refine Fin_then ?_
              refine W_cond rfl (fun h6 => ?_) (fun h6 => ?_)
              · skip
                exfalso; simp at h6
              · skip
                refine W_skip ?_
                refine Fin_then ?_
                refine W_seq ?_
                refine W_region ?_  -- R27 exact.go:2384
                refine WL_ac rfl ?_
                refine WL_nil ?_
                refine Fin_then ?_
                refine W_seq ?_
                refine W_region ?_  -- R28 exact.go:2385
                refine WL_mv rfl rfl ?_
                refine WL_mv rfl rfl ?_
                refine WL_step (S_plain (OpN.pureNw Pure.val (O_callL (us := [_, _]) [1] c1 (List.Mem.head _) cf29 (FnC.fnN Pure.val (laws_heldIntS _ _ (by omega) (by omega))) rfl ⟨(Lend.osI 0 rfl (by first | rfl | simp [from_length]) (by omega) (by omega)), Lend.refl, trivial⟩)) ⟨T1 rfl, T1 rfl, trivial⟩ rfl rfl) ?_
                refine WL_as rfl rfl ?_
                refine WL_nil ?_
                refine Fin_then ?_
                refine W_seq ?_
                refine W_seq ?_
                refine W_region ?_  -- R29 exact.go:2386
                refine WL_mv rfl rfl ?_
                refine WL_step (S_plain O_lss ⟨T1 rfl, C1, trivial⟩ rfl rfl) ?_
                refine WL_nil ?_
                refine Fin_then ?_
                refine W_cond rfl (fun h7 => ?_) (fun h7 => ?_)
                · skip
                  exfalso; rw [heldInts_from] at h7; simp at h7; omega
                · skip
                  refine W_skip ?_
                  refine Fin_then ?_
                  refine W_seq ?_
                  refine W_seq ?_
                  refine W_region ?_  -- R31 exact.go:2389
                  refine WL_mv rfl rfl ?_
                  refine WL_mv rfl rfl ?_
                  refine WL_step (S_plain O_neq ⟨T1 rfl, T1 rfl, trivial⟩ rfl rfl) ?_
                  refine WL_nil ?_
                  refine Fin_then ?_
                  refine W_cond rfl (fun h8 => ?_) (fun h8 => ?_)
                  · skip
                    exfalso; rw [heldInts_from] at h8; simp at h8
                  · skip
                    refine W_skip ?_
                    refine Fin_then ?_
                    refine W_seq ?_
                    refine W_region ?_  -- R33 exact.go:2392
                    refine WL_ac rfl ?_
                    refine WL_nil ?_
                    refine Fin_then ?_
                    refine W_ret ?_
                    exact RetC rfl (Res1 rfl (RV.tmp rfl (by first | exact Imp.refl | exact Imp.slv | exact Imp.nil | exact Imp.int (by omega) | exact Imp.int (by simp; done) | exact Imp.bool (by simp_all; done))))
set_option maxRecDepth 8000 in
theorem laws_markIntS_nil (k : Int) : FnC Try.prog 28 [A.val (.slice none 0 0), A.int k] (A.int k) := by
  refine Fn_of_W Try.func28 rfl rfl fun r w => ?_
  refine W_seq ?_
  refine W_region ?_  -- R0 exact.go:710
  refine WL_ac rfl ?_
  refine WL_nil ?_
  refine Fin_then ?_
  refine W_seq ?_
  refine W_seq ?_
  refine W_region ?_  -- R1 exact.go:711
  refine WL_ac rfl ?_
  refine WL_nil ?_
  refine Fin_then ?_
  refine W_block ?_
  refine W_loopk [0] (T := Nat) (fun _j => True) (fun _j => [(1, true, A.int k), (5, true, A.int 0)]) (fun _j => 0) 0 trivial ⟨⟨rfl, _, rfl, (by first | exact Imp.refl | exact Imp.slv | exact Imp.nil | exact Imp.int (by omega) | exact Imp.int (by simp; done) | exact Imp.bool (by simp_all; done))⟩, ⟨rfl, _, rfl, (by first | exact Imp.refl | exact Imp.slv | exact Imp.nil | exact Imp.int (by omega) | exact Imp.int (by simp; done) | exact Imp.bool (by simp_all; done))⟩, trivial⟩ (fun _j hx => ?_)
  refine W_seq ?_
  refine W_seq ?_
  refine W_region ?_  -- R2 exact.go:711
  refine WL_mv rfl rfl ?_
  refine WL_mv rfl rfl ?_
  refine WL_step (S_plain (O_lenv ts42) ⟨T1 rfl, trivial⟩ rfl rfl) ?_
  refine WL_step (S_plain O_lss ⟨T1 rfl, T1 rfl, trivial⟩ rfl rfl) ?_
  refine WL_nil ?_
  refine Fin_then ?_
  refine W_cond rfl (fun h0 => ?_) (fun h0 => ?_)
  · skip
    try simp only [bl] at h0
    exfalso; omega
  · skip
    try simp only [bl] at h0
    refine W_exit ?_
    refine Fin_then_exit ?_
    refine Fin_then_exit ?_
    refine Fin_block_exit ?_
    refine Fin_then ?_
    refine W_seq ?_
    refine W_region ?_  -- R6 exact.go:715
    refine WL_mv rfl rfl ?_
    refine WL_as rfl rfl ?_
    refine WL_nil ?_
    refine Fin_then ?_
    refine W_ret ?_
    exact RetC rfl (Res1 rfl (RV.tmp rfl (by first | exact Imp.refl | exact Imp.slv | exact Imp.nil | exact Imp.int (by omega) | exact Imp.int (by simp; done) | exact Imp.bool (by simp_all; done))))
set_option maxRecDepth 8000 in
theorem law_invalid (G : Kin) (hr : ∀ g ∈ G, ∀ t ∈ g, TyOk t) (a : Int) (hv : ¬ (kinOk G = true ∧ 0 ≤ a ∧ a < kcnt G)) : FnC Try.prog 6 [A.sl 1 cGrp G, A.int a] (A.bool true) := by
  refine Fn_of_W Try.func6 rfl rfl fun r w => ?_
  refine W_seq ?_
  refine W_region ?_  -- R0 exact.go:2350
  refine WL_ac rfl ?_
  refine WL_nil ?_
  refine Fin_then ?_
  refine W_seq ?_
  refine W_region ?_  -- R1 exact.go:2351
  refine WL_ac rfl ?_
  refine WL_nil ?_
  refine Fin_then ?_
  refine W_seq ?_
  refine W_region ?_  -- R2 exact.go:2352
  refine WL_mv rfl rfl ?_
  refine WL_mv rfl rfl ?_
  refine WL_step (S_plain (O_call cf22 (laws_szTypeSS _ _ (by omega) (by omega)) rfl) ⟨T1 rfl, T1 rfl, trivial⟩ rfl rfl) ?_
  refine WL_as rfl rfl ?_
  refine WL_nil ?_
  refine Fin_then ?_
  refine W_seq ?_
  refine W_seq ?_
  refine W_region ?_  -- R3 exact.go:2353
  refine WL_mv rfl rfl ?_
  refine WL_step (S_plain O_lss ⟨T1 rfl, C1, trivial⟩ rfl rfl) ?_
  refine WL_nil ?_
  refine Fin_then ?_
  refine W_cond rfl (fun h0 => ?_) (fun h0 => ?_)
  · skip
    simp only [decide_eq_true_eq, decide_eq_false_iff_not] at h0
    refine W_seq ?_
    refine W_region ?_  -- R4 exact.go:2354
    refine WL_ac rfl ?_
    refine WL_nil ?_
    refine Fin_then ?_
    refine W_ret ?_
    refine Fin_then_ret ?_
    exact RetC rfl (Res1 rfl (RV.tmp rfl (by first | exact Imp.refl | exact Imp.slv | exact Imp.nil | exact Imp.int (by omega) | exact Imp.int (by simp; done) | exact Imp.bool (by simp_all; done))))
  · skip
    simp only [decide_eq_true_eq, decide_eq_false_iff_not] at h0
    have hb : bKin G ≤ 1048576 := by unfold neg1 at h0; split at h0 <;> omega
    have hG := small_of hb hr
    have hm := mKin_le G
    have hcc := hG.kcnt
    have hfl := from_length 1 (kinLine G a).length
    refine W_skip ?_
    refine Fin_then ?_
    refine W_seq ?_
    refine W_region ?_  -- R5 exact.go:2356
    refine WL_mv rfl rfl ?_
    refine WL_step (S_plain (O_call cf24 (FnN.fnC (laws_toTypeSS _ (by omega))) rfl) ⟨T1 rfl, trivial⟩ rfl rfl) ?_
    refine WL_mv rfl rfl ?_
    refine WL_step (S_plain (OpN.post (O_call cf23 (spec_KinLine _ (by assumption) _) rfl) (show Imp _ (A.sl 1 cInt []) from Imp.eq (by rw [if_neg (by grind)]))) ⟨T1 rfl, T1 rfl, trivial⟩ rfl rfl) ?_
    refine WL_as rfl rfl ?_
    refine WL_cp [0, 6] fun c1 hc1 => ?_
    have hE : ∀ a, r a ≠ none → c1 a = none → a.spot = none → False := fun a h1 h2 _ => hc1 a h1 h2
    refine WL_nil ?_
    refine Fin_then ?_
    refine W_seq ?_
    refine W_region ?_  -- R6 exact.go:2357
    refine WL_mv rfl rfl ?_
    refine WL_step (S_plain (O_callL (us := [_]) [] c1 (List.Mem.head _) cf24 (laws_toTypeSS _ (by omega)) rfl ⟨(Lend.imp Imp.at_), trivial⟩) ⟨T1 rfl, trivial⟩ rfl rfl) ?_
    refine WL_as rfl rfl ?_
    refine WL_nil ?_
    refine Fin_then ?_
    refine W_seq ?_
    refine W_region ?_  -- R7 exact.go:2358
    refine WL_mv rfl rfl ?_
    refine WL_imp 24 rfl Imp.nw ?_
    refine WL_mv rfl rfl ?_
    refine WL_step (S_plain (O_call cf21 (impl_KinLine_no _ (by assumption) _ hv) rfl) ⟨T1 rfl, T1 rfl, trivial⟩ rfl rfl) ?_
    refine WL_as rfl rfl ?_
    refine WL_nil ?_
    refine Fin_then ?_
    refine W_seq ?_
    refine W_seq ?_
    refine W_region ?_  -- R8 exact.go:2359
    refine WL_mv rfl rfl ?_
    refine WL_mv rfl rfl ?_
    refine WL_step (S_plain (OpN.pureNw Pure.val (O_callL (us := [_, _]) [] c1 (List.Mem.head _) cf25 (FnC.fnN Pure.val (laws_eqIntS _ _)) rfl ⟨(Lend.imp Imp.nil), (Lend.imp Imp.at_), trivial⟩)) ⟨T1 rfl, T1 rfl, trivial⟩ rfl rfl) ?_
    refine WL_step (S_plain O_not ⟨T1 rfl, trivial⟩ rfl rfl) ?_
    refine WL_nil ?_
    refine Fin_then ?_
    refine W_cond rfl (fun h1 => ?_) (fun h1 => ?_)
    · skip
      exfalso; simp at h1
    · skip
      refine W_skip ?_
      refine Fin_then ?_
      refine W_seq ?_
      refine W_seq ?_
      refine W_region ?_  -- R10 exact.go:2362
      refine WL_mv rfl rfl ?_
      refine WL_mv rfl rfl ?_
      refine WL_step (S_plain ((O_callL (us := [_]) [] c1 (List.Mem.head _) cf24 (laws_toTypeSS _ (by omega)) rfl ⟨(Lend.imp Imp.at_), trivial⟩).post Imp.nw) ⟨T1 rfl, trivial⟩ rfl rfl) ?_
      refine WL_step (S_plain (OpN.pureNw Pure.val (O_callL (us := [_, _]) [] c1 (List.Mem.head _) cf26 (FnC.fnN Pure.val (laws_eqTypeSS _ _)) rfl ⟨(Lend.imp Imp.nw), Lend.refl, trivial⟩)) ⟨T1 rfl, T1 rfl, trivial⟩ rfl rfl) ?_
      refine WL_step (S_plain O_not ⟨T1 rfl, trivial⟩ rfl rfl) ?_
      refine WL_nil ?_
      refine Fin_then ?_
      refine W_cond rfl (fun h2 => ?_) (fun h2 => ?_)
      · skip
        exfalso; simp at h2
      · skip
        refine W_skip ?_
        refine Fin_then ?_
        refine W_seq ?_
        refine W_region ?_  -- R12 exact.go:2365
        refine WL_ac rfl ?_
        refine WL_nil ?_
        refine Fin_then ?_
        refine W_seq ?_
        refine W_region ?_  -- R13 exact.go:2366
        refine WL_mv rfl rfl ?_
        refine WL_imp 36 rfl (Imp.nwi (Imp.sli sGrp_imp)) ?_
        refine WL_mv rfl rfl ?_
        refine WL_callK (us := [_, _]) c1 [(0, true, _), (1, true, _), (6, true, _), (8, true, _)] _ cf27 (laws_markTypeSS _ _ (by omega) (by omega)) rfl ⟨T1 rfl, T1 rfl, trivial⟩ ⟨NwI.nw, NwI.val, trivial⟩ (List.Mem.head _) hE ⟨⟨rfl, _, rfl, KI.at_⟩, ⟨rfl, _, rfl, KI.val⟩, ⟨rfl, _, rfl, KI.at_⟩, ⟨rfl, _, rfl, KI.val⟩, trivial⟩ OKI.nil rfl rfl ?_
        refine WL_as rfl rfl ?_
        refine WL_nil ?_
        refine Fin_then ?_
        refine W_seq ?_
        refine W_seq ?_
        refine W_region ?_  -- R14 exact.go:2367
        refine WL_mv rfl rfl ?_
        refine WL_step (S_plain O_lss ⟨T1 rfl, C1, trivial⟩ rfl rfl) ?_
        refine WL_mv rfl rfl ?_
        refine WL_step (S_f1 rfl rfl (fun hc => O_move) ⟨⟨_, rfl, (by first | exact fun _ _ => rfl | exact fun h _ => h | exact fun _ h => h | exact fun h k => band h k | exact fun h _ => bandl h | exact fun h _ => bandr h)⟩, trivial⟩ rfl rfl rfl) ?_
        refine WL_step (S_f1 rfl rfl (fun hc => O_move) ⟨⟨_, rfl, (by first | exact fun _ _ => rfl | exact fun h _ => h | exact fun _ h => h | exact fun h k => band h k | exact fun h _ => bandl h | exact fun h _ => bandr h)⟩, trivial⟩ rfl rfl rfl) ?_
        refine WL_step (S_f1 rfl rfl (fun hc => (OpN.pureNw Pure.val (O_callL (us := [_, _]) [] c1 (List.Mem.head _) cf25 (FnC.fnN Pure.val (laws_eqIntS _ _)) rfl ⟨(Lend.imp Imp.nil), (Lend.imp Imp.at_), trivial⟩))) ⟨⟨_, rfl, (by first | exact fun _ _ => rfl | exact fun h _ => h | exact fun _ h => h | exact fun h k => band h k | exact fun h _ => bandl h | exact fun h _ => bandr h)⟩, ⟨_, rfl, (by first | exact fun _ _ => rfl | exact fun h _ => h | exact fun _ h => h | exact fun h k => band h k | exact fun h _ => bandl h | exact fun h _ => bandr h)⟩, trivial⟩ rfl rfl rfl) ?_
        refine WL_step (S_f1 rfl rfl (fun hc => O_not) ⟨⟨_, rfl, (by first | exact fun _ _ => rfl | exact fun h _ => h | exact fun _ h => h | exact fun h k => band h k | exact fun h _ => bandl h | exact fun h _ => bandr h)⟩, trivial⟩ rfl rfl rfl) ?_
        refine WL_step (S_plain O_or ⟨T1 rfl, ⟨_, rfl, (by first | exact fun _ _ => rfl | exact fun h _ => h | exact fun _ h => h | exact fun h k => band h k | exact fun h _ => bandl h | exact fun h _ => bandr h)⟩, trivial⟩ rfl rfl) ?_
        refine WL_nil ?_
        refine Fin_then ?_
        refine W_cond rfl (fun h3 => ?_) (fun h3 => ?_)
        · skip
          exfalso; simp at h3; omega
        · skip
          refine W_skip ?_
          refine Fin_then ?_
          refine W_seq ?_
          refine W_region ?_  -- R16 exact.go:2370
          refine WL_ac rfl ?_
          refine WL_nil ?_
          refine Fin_then ?_
          refine W_seq ?_
          refine W_region ?_  -- R17 exact.go:2371
          refine WL_mv rfl rfl ?_
          refine WL_mv rfl rfl ?_
          refine WL_step (S_plain (OpN.pureNw Pure.val (O_callL (us := [_, _]) [] c1 (List.Mem.head _) cf28 (FnC.fnN Pure.val (laws_markIntS_nil _)) rfl ⟨Lend.refl, Lend.refl, trivial⟩)) ⟨T1 rfl, T1 rfl, trivial⟩ rfl rfl) ?_
          refine WL_as rfl rfl ?_
          refine WL_nil ?_
          refine Fin_then ?_
          refine W_seq ?_
          refine W_region ?_  -- R18 exact.go:2372
          refine WL_ac rfl ?_
          refine WL_nil ?_
          refine Fin_then ?_
          refine W_seq ?_
          refine W_region ?_  -- R19 exact.go:2373
          refine WL_mv rfl rfl ?_
          refine WL_mv rfl rfl ?_
          refine WL_step (S_plain (OpN.pureNw Pure.val (O_callL (us := [_, _]) [] c1 (List.Mem.head _) cf29 (FnC.fnN Pure.val (laws_heldIntS [] _ (by omega) (by simp only [List.length_nil]; omega))) rfl ⟨(Lend.imp Imp.nil), Lend.refl, trivial⟩)) ⟨T1 rfl, T1 rfl, trivial⟩ rfl rfl) ?_
          refine WL_as rfl rfl ?_
          refine WL_nil ?_
          refine Fin_then ?_
          refine W_seq ?_
          refine W_seq ?_
          refine W_region ?_  -- R20 exact.go:2374
          refine WL_mv rfl rfl ?_
          refine WL_step (S_plain O_lss ⟨T1 rfl, C1, trivial⟩ rfl rfl) ?_
          refine WL_nil ?_
          refine Fin_then ?_
          refine W_cond rfl (fun h4 => ?_) (fun h4 => ?_)
          · skip
            exfalso; simp [heldInts_nil] at h4
          · skip
            refine W_skip ?_
            refine Fin_then ?_
            refine W_seq ?_
            refine W_seq ?_
            refine W_region ?_  -- R22 exact.go:2377
            refine WL_mv rfl rfl ?_
            refine WL_mv rfl rfl ?_
            refine WL_step (S_plain O_neq ⟨T1 rfl, T1 rfl, trivial⟩ rfl rfl) ?_
            refine WL_nil ?_
            refine Fin_then ?_
            refine W_cond rfl (fun h5 => ?_) (fun h5 => ?_)
            · skip
              exfalso; simp [heldInts_nil] at h5
            · skip
              refine W_skip ?_
              refine Fin_then ?_
              refine W_seq ?_
              refine W_region ?_  -- R24 exact.go:2380
              refine WL_mv rfl rfl ?_
              refine WL_step (S_plain ((O_callL (us := [_]) [] c1 (List.Mem.head _) cf24 (laws_toTypeSS _ (by omega)) rfl ⟨(Lend.imp Imp.at_), trivial⟩).post Imp.nw) ⟨T1 rfl, trivial⟩ rfl rfl) ?_
              refine WL_mv rfl rfl ?_
              refine WL_step (S_plain (O_call cf21 (impl_KinLine_no _ (by assumption) _ hv) rfl) ⟨T1 rfl, T1 rfl, trivial⟩ rfl rfl) ?_
              refine WL_as rfl rfl ?_
              refine WL_nil ?_
              refine Fin_then ?_
              refine W_seq ?_
              refine W_seq ?_
              refine W_region ?_  -- R25 exact.go:2381
              refine WL_mv rfl rfl ?_
              refine WL_mv rfl rfl ?_
              refine WL_step (S_plain (OpN.pureNw Pure.val (O_callL (us := [_, _]) [] c1 (List.Mem.head _) cf25 (FnC.fnN Pure.val (laws_eqIntS _ _)) rfl ⟨(Lend.imp Imp.nil), (Lend.imp Imp.at_), trivial⟩)) ⟨T1 rfl, T1 rfl, trivial⟩ rfl rfl) ?_
              refine WL_step (S_plain O_not ⟨T1 rfl, trivial⟩ rfl rfl) ?_
              refine WL_nil ?_
              refine Fin_then ?_
              refine W_cond rfl (fun h6 => ?_) (fun h6 => ?_)
              · skip
                exfalso; simp at h6
              · skip
                refine W_skip ?_
                refine Fin_then ?_
                refine W_seq ?_
                refine W_region ?_  -- R27 exact.go:2384
                refine WL_ac rfl ?_
                refine WL_nil ?_
                refine Fin_then ?_
                refine W_seq ?_
                refine W_region ?_  -- R28 exact.go:2385
                refine WL_mv rfl rfl ?_
                refine WL_mv rfl rfl ?_
                refine WL_step (S_plain (OpN.pureNw Pure.val (O_callL (us := [_, _]) [] c1 (List.Mem.head _) cf29 (FnC.fnN Pure.val (laws_heldIntS [] _ (by omega) (by simp only [List.length_nil]; omega))) rfl ⟨(Lend.imp Imp.nil), Lend.refl, trivial⟩)) ⟨T1 rfl, T1 rfl, trivial⟩ rfl rfl) ?_
                refine WL_as rfl rfl ?_
                refine WL_nil ?_
                refine Fin_then ?_
                refine W_seq ?_
                refine W_seq ?_
                refine W_region ?_  -- R29 exact.go:2386
                refine WL_mv rfl rfl ?_
                refine WL_step (S_plain O_lss ⟨T1 rfl, C1, trivial⟩ rfl rfl) ?_
                refine WL_nil ?_
                refine Fin_then ?_
                refine W_cond rfl (fun h7 => ?_) (fun h7 => ?_)
                · skip
                  exfalso; simp [heldInts_nil] at h7
                · skip
                  refine W_skip ?_
                  refine Fin_then ?_
                  refine W_seq ?_
                  refine W_seq ?_
                  refine W_region ?_  -- R31 exact.go:2389
                  refine WL_mv rfl rfl ?_
                  refine WL_mv rfl rfl ?_
                  refine WL_step (S_plain O_neq ⟨T1 rfl, T1 rfl, trivial⟩ rfl rfl) ?_
                  refine WL_nil ?_
                  refine Fin_then ?_
                  refine W_cond rfl (fun h8 => ?_) (fun h8 => ?_)
                  · skip
                    exfalso; simp [heldInts_nil] at h8
                  · skip
                    refine W_skip ?_
                    refine Fin_then ?_
                    refine W_seq ?_
                    refine W_region ?_  -- R33 exact.go:2392
                    refine WL_ac rfl ?_
                    refine WL_nil ?_
                    refine Fin_then ?_
                    refine W_ret ?_
                    exact RetC rfl (Res1 rfl (RV.tmp rfl (by first | exact Imp.refl | exact Imp.slv | exact Imp.nil | exact Imp.int (by omega) | exact Imp.int (by simp; done) | exact Imp.bool (by simp_all; done))))
end Go.Proofs.Ytilddfgifjejbaa
