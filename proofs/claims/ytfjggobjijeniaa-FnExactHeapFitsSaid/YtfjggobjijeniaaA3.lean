import Derived.Test.YtfjggobjijeniaaRows
import Derived.Test.YtfjggobjijeniaaWalk3
import Derived.Test.YtfjggobjijeniaaWalk2
import Derived.Test.YtfjggobjijeniaaPure1
namespace Go.Proofs.Ytfjggobjijeniaa.A3
open Go Go.RowKit Go.L
theorem mix : Try.prog.follows .mixedOrders = true := by kernel_rfl
theorem cf121 : CallF Try.prog 121 := fun w vs => by kernel_rfl
theorem cf30 : CallF Try.prog 30 := fun w vs => by kernel_rfl
theorem sz3 : sizeAt Try.prog 3 = some 1 := by kernel_rfl
theorem sz4 : sizeAt Try.prog 4 = some 1 := by kernel_rfl
theorem ta50 : TA Try.prog 50 := by unfold TA; kernel_rfl
theorem ta82 : TA Try.prog 82 := by unfold TA; kernel_rfl
theorem tf145_0 : TF Try.prog 145 0 0 := by unfold TF; kernel_rfl
theorem tf145_1 : TF Try.prog 145 1 1 := by unfold TF; kernel_rfl
theorem tf145_2 : TF Try.prog 145 2 2 := by unfold TF; kernel_rfl
theorem tf145_3 : TF Try.prog 145 3 3 := by unfold TF; kernel_rfl
theorem tf37_0 : TF Try.prog 37 0 0 := by unfold TF; kernel_rfl
theorem tf37_1 : TF Try.prog 37 1 1 := by unfold TF; kernel_rfl
theorem tf37_2 : TF Try.prog 37 2 2 := by unfold TF; kernel_rfl
theorem ts31 : TS Try.prog 31 82 1 := ⟨by kernel_rfl, by kernel_rfl⟩
theorem ts50 : TS Try.prog 50 37 3 := ⟨by kernel_rfl, by kernel_rfl⟩
theorem ts82 : TS Try.prog 82 145 4 := ⟨by kernel_rfl, by kernel_rfl⟩
end Go.Proofs.Ytfjggobjijeniaa.A3
namespace Go.Proofs.Ytfjggobjijeniaa
open Go Go.RowKit Go.L A3
set_option maxRecDepth 8000 in
theorem laws_markFieldS (L : (List Fld)) (k : Int) (h0 : 0 ≤ k) (hk : k + 3 * (L.length : Int) ≤ 1152921504606846976) : FnK Try.prog 30 [A.sl 3 sFld L, A.int k] (A.int (k + 3 * (L.length : Int))) := by
  refine FnK_of_W' (fun c0 => [A.nw c0 (A.sl 3 sFld L), A.int k]) Try.func30 rfl (fun _ => rfl) (fun _ => ⟨From.nw, From.val, trivial⟩) fun c0 r w => ?_
  have hE : ∀ a, r a ≠ none → c0 a = none → a.spot = none → r.beyond c0 a := fun a h1 h2 h3 => ⟨h2, h3, Option.ne_none_iff_exists'.1 h1⟩
  refine W_seq (W_region (WL_ac rfl ?_))
  refine WL_nil (Fin_then (W_seq (W_seq (W_region (WL_ac rfl ?_)))))
  refine WL_nil (Fin_then (W_block (W_loopk [0] (T := Nat) (fun j => j ≤ L.length) (fun j => [(1, true, A.int (k + 3 * (j : Int))), (5, true, A.int (j : Int))]) (fun j => L.length - j) 0 (Nat.zero_le _) ⟨⟨rfl, _, rfl, (Imp.int (by (try simp only [sumTo_zero]); omega))⟩, ⟨rfl, _, rfl, (Imp.int (by (try simp only [sumTo_zero]); omega))⟩, trivial⟩ (fun j hx => ?_))))
  refine W_seq (W_seq (W_region (WL_mv rfl rfl ?_)))
  refine WL_mv rfl rfl ?_
  refine WL_lenn ts50 rfl rfl fun hl8 => ?_
  refine ws O_lss ⟨T1 rfl, T1 rfl, trivial⟩ ?_
  refine WL_nil (Fin_then (W_cond rfl (fun h0 => ?_) (fun h0 => ?_)))
  · skip
    try simp only [bl] at h0
    refine W_skip (Fin_then (W_seq (W_block (W_seq (W_region (WL_mv rfl rfl ?_))))))
    refine WL_mv rfl rfl ?_
    refine WL_mv rfl rfl ?_
    refine ws (O_indexn ts50 (by omega)) ⟨T1 rfl, T1 rfl, trivial⟩ ?_
    refine ws (O_fieldn tf37_0) ⟨T1 rfl, trivial⟩ ?_
    refine WL_storeK c0 [(0, true, _), (1, true, _), (5, true, _)] [] ⟨T1 rfl, T1 rfl, trivial⟩ KindOf.int sz3 (List.Mem.head _) hE ⟨⟨rfl, _, rfl, (KI.nw (KS.sl (fun _ => ⟨KSc.anyI, KSc.anyI, KSc.anyB, trivial⟩)))⟩, ⟨rfl, _, rfl, KI.val⟩, ⟨rfl, _, rfl, KI.val⟩, trivial⟩ OKI.nil rfl ?_
    refine WL_nil (Fin_then (W_seq (W_region (WL_mv rfl rfl ?_))))
    refine ws (O_add (by omega)) ⟨T1 rfl, C1, trivial⟩ ?_
    refine WL_as rfl rfl ?_
    refine WL_nil (Fin_then (W_seq (W_region (WL_mv rfl rfl ?_))))
    refine WL_mv rfl rfl ?_
    refine WL_mv rfl rfl ?_
    refine ws (O_indexn ts50 (by omega)) ⟨T1 rfl, T1 rfl, trivial⟩ ?_
    refine ws (O_fieldn tf37_1) ⟨T1 rfl, trivial⟩ ?_
    refine WL_storeK c0 [(0, true, _), (1, true, _), (5, true, _)] [] ⟨T1 rfl, T1 rfl, trivial⟩ KindOf.int sz3 (List.Mem.head _) hE ⟨⟨rfl, _, rfl, (KI.nw (KS.sl (fun _ => ⟨KSc.anyI, KSc.anyI, KSc.anyB, trivial⟩)))⟩, ⟨rfl, _, rfl, KI.val⟩, ⟨rfl, _, rfl, KI.val⟩, trivial⟩ OKI.nil rfl ?_
    refine WL_nil (Fin_then (W_seq (W_region (WL_mv rfl rfl ?_))))
    refine ws (O_add (by omega)) ⟨T1 rfl, C1, trivial⟩ ?_
    refine WL_as rfl rfl ?_
    refine WL_nil (Fin_then (W_seq (W_region (WL_mv rfl rfl ?_))))
    refine WL_mv rfl rfl ?_
    refine WL_mv rfl rfl ?_
    refine ws (O_rem (by omega) (by omega)) ⟨T1 rfl, C1, trivial⟩ ?_
    refine ws O_eql ⟨T1 rfl, C1, trivial⟩ ?_
    refine ws (O_indexn ts50 (by omega)) ⟨T1 rfl, T1 rfl, trivial⟩ ?_
    refine ws (O_fieldn tf37_2) ⟨T1 rfl, trivial⟩ ?_
    refine WL_storeK c0 [(0, true, _), (1, true, _), (5, true, _)] [] ⟨T1 rfl, T1 rfl, trivial⟩ KindOf.bool sz4 (List.Mem.head _) hE ⟨⟨rfl, _, rfl, (KI.nw (KS.sl (fun _ => ⟨KSc.anyI, KSc.anyI, KSc.anyB, trivial⟩)))⟩, ⟨rfl, _, rfl, KI.val⟩, ⟨rfl, _, rfl, KI.val⟩, trivial⟩ OKI.nil rfl ?_
    refine WL_nil (Fin_then (W_region (WL_mv rfl rfl ?_)))
    refine ws (O_add (by omega)) ⟨T1 rfl, C1, trivial⟩ ?_
    refine WL_as rfl rfl ?_
    refine WL_nil (Fin_block (Fin_then (W_region (WL_mv rfl rfl ?_))))
    refine ws (O_add (by omega)) ⟨T1 rfl, C1, trivial⟩ ?_
    refine WL_as rfl rfl ?_
    exact WL_nil (Fin_back (j + 1) (by omega) (by omega) ⟨⟨rfl, _, rfl, (Imp.int (by omega))⟩, ⟨rfl, _, rfl, (Imp.int (by omega))⟩, trivial⟩ ⟨rfl, trivial⟩ rfl rfl)
  try simp only [bl] at h0
  refine W_exit (Fin_then_exit (Fin_then_exit (Fin_block_exit (Fin_then (W_seq (W_region (WL_mv rfl rfl ?_)))))))
  refine WL_as rfl rfl ?_
  exact WL_nil (Fin_then (W_ret (RetK rfl (Res1 rfl (RV.tmp rfl (Imp.int (by (try have hs5 := hs3 (by omega)); omega)))) Pure.val)))
set_option maxRecDepth 8000 in
theorem laws_markTypeS (L : (List Ty)) (k : Int) (h0 : 0 ≤ k) (hk : k + (mTys L : Int) ≤ 1152921504606846976) : FnK Try.prog 121 [A.sl 4 sTy L, A.int k] (A.int (k + (mTys L : Int))) := by
  have hu : (mTys L : Nat) = (L.map mTy).sum := rfl
  refine FnK_of_W' (fun c0 => [A.nw c0 (A.sl 4 sTy L), A.int k]) Try.func121 rfl (fun _ => rfl) (fun _ => ⟨From.nw, From.val, trivial⟩) fun c0 r w => ?_
  have hE : ∀ a, r a ≠ none → c0 a = none → a.spot = none → r.beyond c0 a := fun a h1 h2 h3 => ⟨h2, h3, Option.ne_none_iff_exists'.1 h1⟩
  refine W_seq (W_region (WL_ac rfl ?_))
  refine WL_nil (Fin_then (W_seq (W_seq (W_region (WL_ac rfl ?_)))))
  refine WL_nil (Fin_then (W_block (W_loopk [0] (T := Nat) (fun j => j ≤ L.length) (fun j => [(1, true, A.int (k + (sumTo mTy L j : Int))), (5, true, A.int (j : Int))]) (fun j => L.length - j) 0 (Nat.zero_le _) ⟨⟨rfl, _, rfl, (Imp.int (by (try simp only [sumTo_zero]); omega))⟩, ⟨rfl, _, rfl, (Imp.int (by (try simp only [sumTo_zero]); omega))⟩, trivial⟩ (fun j hx => ?_))))
  have hs := sumTo_le' mTy L (j + 1)
  have hs0 := sumTo_le' mTy L j
  have hs2 : j < L.length → sumTo mTy L (j + 1) = sumTo mTy L j + mTy (idx L (j : Int)) := sumTo_step mTy L j
  have hs3 : L.length ≤ j → sumTo mTy L j = (L.map mTy).sum := sumTo_all' mTy L j
  have hm1 : ∀ x, (mTy x : Nat) = mTy x := fun _ => rfl
  have hm2 : (mTy (idx L (j : Int)) : Nat) = 3 + 3 * (idx L (j : Int)).fields.length := rfl
  refine W_seq (W_seq (W_region (WL_mv rfl rfl ?_)))
  refine WL_mv rfl rfl ?_
  refine WL_lenn ts82 rfl rfl fun hl8 => ?_
  refine ws O_lss ⟨T1 rfl, T1 rfl, trivial⟩ ?_
  refine WL_nil (Fin_then (W_cond rfl (fun h0 => ?_) (fun h0 => ?_)))
  · skip
    try simp only [bl] at h0
    refine W_skip (Fin_then (W_seq (W_block (W_seq (W_region (WL_mv rfl rfl ?_))))))
    refine WL_mv rfl rfl ?_
    refine WL_mv rfl rfl ?_
    refine ws (O_indexn ts82 (by omega)) ⟨T1 rfl, T1 rfl, trivial⟩ ?_
    refine ws (O_fieldn tf145_0) ⟨T1 rfl, trivial⟩ ?_
    refine WL_storeK c0 [(0, true, _), (1, true, _), (5, true, _)] [] ⟨T1 rfl, T1 rfl, trivial⟩ KindOf.int sz3 (List.Mem.head _) hE ⟨⟨rfl, _, rfl, (KI.nw (KS.sl (fun _ => ⟨KSc.anyI, KSc.anyI, KSc.anyB, (KSc.sl (fun _ => ⟨KSc.anyI, KSc.anyI, KSc.anyB, trivial⟩)), trivial⟩)))⟩, ⟨rfl, _, rfl, KI.val⟩, ⟨rfl, _, rfl, KI.val⟩, trivial⟩ OKI.nil rfl ?_
    refine WL_nil (Fin_then (W_seq (W_region (WL_mv rfl rfl ?_))))
    refine ws (O_add (by omega)) ⟨T1 rfl, C1, trivial⟩ ?_
    refine WL_as rfl rfl ?_
    refine WL_nil (Fin_then (W_seq (W_region (WL_mv rfl rfl ?_))))
    refine WL_mv rfl rfl ?_
    refine WL_mv rfl rfl ?_
    refine ws (O_indexn ts82 (by omega)) ⟨T1 rfl, T1 rfl, trivial⟩ ?_
    refine ws (O_fieldn tf145_1) ⟨T1 rfl, trivial⟩ ?_
    refine WL_storeK c0 [(0, true, _), (1, true, _), (5, true, _)] [] ⟨T1 rfl, T1 rfl, trivial⟩ KindOf.int sz3 (List.Mem.head _) hE ⟨⟨rfl, _, rfl, (KI.nw (KS.sl (fun _ => ⟨KSc.anyI, KSc.anyI, KSc.anyB, (KSc.sl (fun _ => ⟨KSc.anyI, KSc.anyI, KSc.anyB, trivial⟩)), trivial⟩)))⟩, ⟨rfl, _, rfl, KI.val⟩, ⟨rfl, _, rfl, KI.val⟩, trivial⟩ OKI.nil rfl ?_
    refine WL_nil (Fin_then (W_seq (W_region (WL_mv rfl rfl ?_))))
    refine ws (O_add (by omega)) ⟨T1 rfl, C1, trivial⟩ ?_
    refine WL_as rfl rfl ?_
    refine WL_nil (Fin_then (W_seq (W_region (WL_mv rfl rfl ?_))))
    refine WL_mv rfl rfl ?_
    refine WL_mv rfl rfl ?_
    refine ws (O_rem (by omega) (by omega)) ⟨T1 rfl, C1, trivial⟩ ?_
    refine ws O_eql ⟨T1 rfl, C1, trivial⟩ ?_
    refine ws (O_indexn ts82 (by omega)) ⟨T1 rfl, T1 rfl, trivial⟩ ?_
    refine ws (O_fieldn tf145_2) ⟨T1 rfl, trivial⟩ ?_
    refine WL_storeK c0 [(0, true, _), (1, true, _), (5, true, _)] [] ⟨T1 rfl, T1 rfl, trivial⟩ KindOf.bool sz4 (List.Mem.head _) hE ⟨⟨rfl, _, rfl, (KI.nw (KS.sl (fun _ => ⟨KSc.anyI, KSc.anyI, KSc.anyB, (KSc.sl (fun _ => ⟨KSc.anyI, KSc.anyI, KSc.anyB, trivial⟩)), trivial⟩)))⟩, ⟨rfl, _, rfl, KI.val⟩, ⟨rfl, _, rfl, KI.val⟩, trivial⟩ OKI.nil rfl ?_
    refine WL_nil (Fin_then (W_seq (W_region (WL_mv rfl rfl ?_))))
    refine ws (O_add (by omega)) ⟨T1 rfl, C1, trivial⟩ ?_
    refine WL_as rfl rfl ?_
    refine WL_nil (Fin_then (W_region (WL_mv rfl rfl ?_)))
    refine WL_mv rfl rfl ?_
    refine ws (O_indexn ts82 (by omega)) ⟨T1 rfl, T1 rfl, trivial⟩ ?_
    refine ws (O_fieldn tf145_3) ⟨T1 rfl, trivial⟩ ?_
    refine ws (O_loadn ta50) ⟨T1 rfl, trivial⟩ ?_
    refine WL_mv rfl rfl ?_
    refine WL_callK (us := [_, _]) c0 [(0, true, _), (5, true, _)] _ cf30 (laws_markFieldS _ _ (by omega) (by omega)) rfl ⟨T1 rfl, T1 rfl, trivial⟩ ⟨NwI.nw, NwI.val, trivial⟩ (List.Mem.head _) hE ⟨⟨rfl, _, rfl, (KI.nw (KS.sl (fun _ => ⟨KSc.anyI, KSc.anyI, KSc.anyB, (KSc.sl (fun _ => ⟨KSc.anyI, KSc.anyI, KSc.anyB, trivial⟩)), trivial⟩)))⟩, ⟨rfl, _, rfl, KI.val⟩, trivial⟩ OKI.nil rfl rfl ?_
    refine WL_as rfl rfl ?_
    refine WL_nil (Fin_block (Fin_then (W_region (WL_mv rfl rfl ?_))))
    refine ws (O_add (by omega)) ⟨T1 rfl, C1, trivial⟩ ?_
    refine WL_as rfl rfl ?_
    refine WL_nil ?_
    have hs4 := hs2 (by omega)
    exact Fin_back (j + 1) (by omega) (by omega) ⟨⟨rfl, _, rfl, (Imp.int (by omega))⟩, ⟨rfl, _, rfl, (Imp.int (by omega))⟩, trivial⟩ ⟨rfl, trivial⟩ rfl rfl
  try simp only [bl] at h0
  refine W_exit (Fin_then_exit (Fin_then_exit (Fin_block_exit (Fin_then (W_seq (W_region (WL_mv rfl rfl ?_)))))))
  refine WL_as rfl rfl ?_
  exact WL_nil (Fin_then (W_ret (RetK rfl (Res1 rfl (RV.tmp rfl (Imp.int (by (try have hs5 := hs3 (by omega)); omega)))) Pure.val)))
set_option maxRecDepth 8000 in
theorem laws_markTypeSS (L : (List (List Ty))) (k : Int) (h0 : 0 ≤ k) (hk : k + (mKin L : Int) ≤ 1152921504606846976) : FnK Try.prog 70 [A.sl 1 sGrp L, A.int k] (A.int (k + (mKin L : Int))) := by
  have hu : (mKin L : Nat) = (L.map mTys).sum := rfl
  refine FnK_of_W' (fun c0 => [A.nw c0 (A.sl 1 sGrp L), A.int k]) Try.func70 rfl (fun _ => rfl) (fun _ => ⟨From.nw, From.val, trivial⟩) fun c0 r w => ?_
  have hE : ∀ a, r a ≠ none → c0 a = none → a.spot = none → r.beyond c0 a := fun a h1 h2 h3 => ⟨h2, h3, Option.ne_none_iff_exists'.1 h1⟩
  refine W_seq (W_region (WL_ac rfl ?_))
  refine WL_nil (Fin_then (W_seq (W_seq (W_region (WL_ac rfl ?_)))))
  refine WL_nil (Fin_then (W_block (W_loopk [0] (T := Nat) (fun j => j ≤ L.length) (fun j => [(1, true, A.int (k + (sumTo mTys L j : Int))), (5, true, A.int (j : Int))]) (fun j => L.length - j) 0 (Nat.zero_le _) ⟨⟨rfl, _, rfl, (Imp.int (by (try simp only [sumTo_zero]); omega))⟩, ⟨rfl, _, rfl, (Imp.int (by (try simp only [sumTo_zero]); omega))⟩, trivial⟩ (fun j hx => ?_))))
  have hs := sumTo_le' mTys L (j + 1)
  have hs0 := sumTo_le' mTys L j
  have hs2 : j < L.length → sumTo mTys L (j + 1) = sumTo mTys L j + mTys (idx L (j : Int)) := sumTo_step mTys L j
  have hs3 : L.length ≤ j → sumTo mTys L j = (L.map mTys).sum := sumTo_all' mTys L j
  have hm1 : ∀ x, (mTys x : Nat) = mTys x := fun _ => rfl
  refine W_seq (W_seq (W_region (WL_mv rfl rfl ?_)))
  refine WL_mv rfl rfl ?_
  refine WL_lenn ts31 rfl rfl fun hl8 => ?_
  refine ws O_lss ⟨T1 rfl, T1 rfl, trivial⟩ ?_
  refine WL_nil (Fin_then (W_cond rfl (fun h0 => ?_) (fun h0 => ?_)))
  · skip
    try simp only [bl] at h0
    refine W_skip (Fin_then (W_seq (W_block (W_region (WL_mv rfl rfl ?_)))))
    refine WL_mv rfl rfl ?_
    refine ws (O_indexn ts31 (by omega)) ⟨T1 rfl, T1 rfl, trivial⟩ ?_
    refine ws (O_loadn ta82) ⟨T1 rfl, trivial⟩ ?_
    refine WL_mv rfl rfl ?_
    refine WL_callK (us := [_, _]) c0 [(0, true, _), (5, true, _)] _ cf121 (laws_markTypeS _ _ (by omega) (by omega)) rfl ⟨T1 rfl, T1 rfl, trivial⟩ ⟨NwI.nw, NwI.val, trivial⟩ (List.Mem.head _) hE ⟨⟨rfl, _, rfl, (KI.nw (KS.sl (fun _ => ⟨(KSc.sl (fun _ => ⟨KSc.anyI, KSc.anyI, KSc.anyB, (KSc.sl (fun _ => ⟨KSc.anyI, KSc.anyI, KSc.anyB, trivial⟩)), trivial⟩)), trivial⟩)))⟩, ⟨rfl, _, rfl, KI.val⟩, trivial⟩ OKI.nil rfl rfl ?_
    refine WL_as rfl rfl ?_
    refine WL_nil (Fin_block (Fin_then (W_region (WL_mv rfl rfl ?_))))
    refine ws (O_add (by omega)) ⟨T1 rfl, C1, trivial⟩ ?_
    refine WL_as rfl rfl ?_
    refine WL_nil ?_
    have hs4 := hs2 (by omega)
    exact Fin_back (j + 1) (by omega) (by omega) ⟨⟨rfl, _, rfl, (Imp.int (by omega))⟩, ⟨rfl, _, rfl, (Imp.int (by omega))⟩, trivial⟩ ⟨rfl, trivial⟩ rfl rfl
  try simp only [bl] at h0
  refine W_exit (Fin_then_exit (Fin_then_exit (Fin_block_exit (Fin_then (W_seq (W_region (WL_mv rfl rfl ?_)))))))
  refine WL_as rfl rfl ?_
  exact WL_nil (Fin_then (W_ret (RetK rfl (Res1 rfl (RV.tmp rfl (Imp.int (by (try have hs5 := hs3 (by omega)); omega)))) Pure.val)))
end Go.Proofs.Ytfjggobjijeniaa
