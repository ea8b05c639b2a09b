import Derived.Test.YtilddfgifjejbaaRows
import Derived.Test.YtilddfgifjejbaaCal7
import Derived.Test.YtilddfgifjejbaaPure1
namespace Go.Proofs.Ytilddfgifjejbaa.A3
open Go Go.RowKit Go.L
theorem mix : Try.prog.follows .mixedOrders = true := by kernel_rfl
theorem cf54 : CallF Try.prog 54 := fun w vs => by kernel_rfl
theorem cf74 : CallF Try.prog 74 := fun w vs => by kernel_rfl
theorem sz3 : sizeAt Try.prog 3 = some 1 := by kernel_rfl
theorem sz4 : sizeAt Try.prog 4 = some 1 := by kernel_rfl
theorem ta27 : TA Try.prog 27 := by unfold TA; kernel_rfl
theorem ta3 : TA Try.prog 3 := by unfold TA; kernel_rfl
theorem ta38 : TA Try.prog 38 := by unfold TA; kernel_rfl
theorem tf29_0 : TF Try.prog 29 0 0 := by unfold TF; kernel_rfl
theorem tf29_1 : TF Try.prog 29 1 1 := by unfold TF; kernel_rfl
theorem tf29_2 : TF Try.prog 29 2 2 := by unfold TF; kernel_rfl
theorem tf29_3 : TF Try.prog 29 3 3 := by unfold TF; kernel_rfl
theorem tf33_0 : TF Try.prog 33 0 0 := by unfold TF; kernel_rfl
theorem tf33_1 : TF Try.prog 33 1 1 := by unfold TF; kernel_rfl
theorem tf33_2 : TF Try.prog 33 2 2 := by unfold TF; kernel_rfl
theorem ts23 : TS Try.prog 23 38 1 := ⟨by kernel_rfl, by kernel_rfl⟩
theorem ts27 : TS Try.prog 27 33 3 := ⟨by kernel_rfl, by kernel_rfl⟩
theorem ts38 : TS Try.prog 38 29 4 := ⟨by kernel_rfl, by kernel_rfl⟩
theorem ts42 : TS Try.prog 42 3 1 := ⟨by kernel_rfl, by kernel_rfl⟩
end Go.Proofs.Ytilddfgifjejbaa.A3
namespace Go.Proofs.Ytilddfgifjejbaa
open Go Go.RowKit Go.L A3
set_option maxRecDepth 8000 in
theorem laws_markFieldS (L : (List Fld)) (k : Int) (h0 : 0 ≤ k) (hk : k + 3 * (L.length : Int) ≤ 1152921504606846976) : FnK Try.prog 74 [A.sl 3 sFld L, A.int k] (A.int (k + 3 * (L.length : Int))) := by
  refine FnK_of_W' (fun c0 => [A.nw c0 (A.sl 3 sFld L), A.int k]) Try.func74 rfl (fun _ => rfl) (fun _ => ⟨From.nw, From.val, trivial⟩) fun c0 r w => ?_
  have hE : ∀ a, r a ≠ none → c0 a = none → a.spot = none → r.beyond c0 a := fun a h1 h2 h3 => ⟨h2, h3, Option.ne_none_iff_exists'.1 h1⟩
  refine W_seq ?_
  refine W_region ?_  -- R0 exact.go:530
  refine WL_ac rfl ?_
  refine WL_nil ?_
  refine Fin_then ?_
  refine W_seq ?_
  refine W_seq ?_
  refine W_region ?_  -- R1 exact.go:531
  refine WL_ac rfl ?_
  refine WL_nil ?_
  refine Fin_then ?_
  refine W_block ?_
  refine W_loopk [0] (T := Nat) (fun j => j ≤ L.length) (fun j => [(1, true, A.int (k + 3 * (j : Int))), (5, true, A.int (j : Int))]) (fun j => L.length - j) 0 (Nat.zero_le _) ⟨⟨rfl, _, rfl, (Imp.int (by (try simp only [sumTo_zero]); omega))⟩, ⟨rfl, _, rfl, (Imp.int (by (try simp only [sumTo_zero]); omega))⟩, trivial⟩ (fun j hx => ?_)
  refine W_seq ?_
  refine W_seq ?_
  refine W_region ?_  -- R2 exact.go:531
  refine WL_mv rfl rfl ?_
  refine WL_mv rfl rfl ?_
  refine WL_lenn ts27 rfl rfl fun hl8 => ?_
  refine WL_step (S_plain O_lss ⟨T1 rfl, T1 rfl, trivial⟩ rfl rfl) ?_
  refine WL_nil ?_
  refine Fin_then ?_
  refine W_cond rfl (fun h0 => ?_) (fun h0 => ?_)
  · skip
    try simp only [bl] at h0
    refine W_skip ?_
    refine Fin_then ?_
    refine W_seq ?_
    refine W_block ?_
    refine W_seq ?_
    refine W_region ?_  -- R4 exact.go:532
    refine WL_mv rfl rfl ?_
    refine WL_mv rfl rfl ?_
    refine WL_mv rfl rfl ?_
    refine WL_step (S_plain (O_indexn ts27 (by omega)) ⟨T1 rfl, T1 rfl, trivial⟩ rfl rfl) ?_
    refine WL_step (S_plain (O_fieldn tf33_0) ⟨T1 rfl, trivial⟩ rfl rfl) ?_
    refine WL_storeK c0 [(0, true, _), (1, true, _), (5, true, _)] [] ⟨T1 rfl, T1 rfl, trivial⟩ KindOf.int sz3 (List.Mem.head _) hE ⟨⟨rfl, _, rfl, (KI.nw (KS.sl (fun _ => ⟨KSc.anyI, KSc.anyI, KSc.anyB, trivial⟩)))⟩, ⟨rfl, _, rfl, KI.val⟩, ⟨rfl, _, rfl, KI.val⟩, trivial⟩ OKI.nil rfl ?_
    refine WL_nil ?_
    refine Fin_then ?_
    refine W_seq ?_
    refine W_region ?_  -- R5 exact.go:533
    refine WL_mv rfl rfl ?_
    refine WL_step (S_plain (O_add (by omega)) ⟨T1 rfl, C1, trivial⟩ rfl rfl) ?_
    refine WL_as rfl rfl ?_
    refine WL_nil ?_
    refine Fin_then ?_
    refine W_seq ?_
    refine W_region ?_  -- R6 exact.go:534
    refine WL_mv rfl rfl ?_
    refine WL_mv rfl rfl ?_
    refine WL_mv rfl rfl ?_
    refine WL_step (S_plain (O_indexn ts27 (by omega)) ⟨T1 rfl, T1 rfl, trivial⟩ rfl rfl) ?_
    refine WL_step (S_plain (O_fieldn tf33_1) ⟨T1 rfl, trivial⟩ rfl rfl) ?_
    refine WL_storeK c0 [(0, true, _), (1, true, _), (5, true, _)] [] ⟨T1 rfl, T1 rfl, trivial⟩ KindOf.int sz3 (List.Mem.head _) hE ⟨⟨rfl, _, rfl, (KI.nw (KS.sl (fun _ => ⟨KSc.anyI, KSc.anyI, KSc.anyB, trivial⟩)))⟩, ⟨rfl, _, rfl, KI.val⟩, ⟨rfl, _, rfl, KI.val⟩, trivial⟩ OKI.nil rfl ?_
    refine WL_nil ?_
    refine Fin_then ?_
    refine W_seq ?_
    refine W_region ?_  -- R7 exact.go:535
    refine WL_mv rfl rfl ?_
    refine WL_step (S_plain (O_add (by omega)) ⟨T1 rfl, C1, trivial⟩ rfl rfl) ?_
    refine WL_as rfl rfl ?_
    refine WL_nil ?_
    refine Fin_then ?_
    refine W_seq ?_
    refine W_region ?_  -- R8 exact.go:536
    refine WL_mv rfl rfl ?_
    refine WL_mv rfl rfl ?_
    refine WL_mv rfl rfl ?_
    refine WL_step (S_plain (O_rem (by omega) (by omega)) ⟨T1 rfl, C1, trivial⟩ rfl rfl) ?_
    refine WL_step (S_plain O_eql ⟨T1 rfl, C1, trivial⟩ rfl rfl) ?_
    refine WL_step (S_plain (O_indexn ts27 (by omega)) ⟨T1 rfl, T1 rfl, trivial⟩ rfl rfl) ?_
    refine WL_step (S_plain (O_fieldn tf33_2) ⟨T1 rfl, trivial⟩ rfl rfl) ?_
    refine WL_storeK c0 [(0, true, _), (1, true, _), (5, true, _)] [] ⟨T1 rfl, T1 rfl, trivial⟩ KindOf.bool sz4 (List.Mem.head _) hE ⟨⟨rfl, _, rfl, (KI.nw (KS.sl (fun _ => ⟨KSc.anyI, KSc.anyI, KSc.anyB, trivial⟩)))⟩, ⟨rfl, _, rfl, KI.val⟩, ⟨rfl, _, rfl, KI.val⟩, trivial⟩ OKI.nil rfl ?_
    refine WL_nil ?_
    refine Fin_then ?_
    refine W_region ?_  -- R9 exact.go:537
    refine WL_mv rfl rfl ?_
    refine WL_step (S_plain (O_add (by omega)) ⟨T1 rfl, C1, trivial⟩ rfl rfl) ?_
    refine WL_as rfl rfl ?_
    refine WL_nil ?_
    refine Fin_block ?_
    refine Fin_then ?_
    refine W_region ?_  -- R3 exact.go:531
    refine WL_mv rfl rfl ?_
    refine WL_step (S_plain (O_add (by omega)) ⟨T1 rfl, C1, trivial⟩ rfl rfl) ?_
    refine WL_as rfl rfl ?_
    refine WL_nil ?_
    exact Fin_back (j + 1) (by omega) (by omega) ⟨⟨rfl, _, rfl, (Imp.int (by omega))⟩, ⟨rfl, _, rfl, (Imp.int (by omega))⟩, trivial⟩ ⟨rfl, trivial⟩ rfl rfl
  · skip
    try simp only [bl] at h0
    refine W_exit ?_
    refine Fin_then_exit ?_
    refine Fin_then_exit ?_
    refine Fin_block_exit ?_
    refine Fin_then ?_
    refine W_seq ?_
    refine W_region ?_  -- R10 exact.go:539
    refine WL_mv rfl rfl ?_
    refine WL_as rfl rfl ?_
    refine WL_nil ?_
    refine Fin_then ?_
    refine W_ret ?_
    exact RetK rfl (Res1 rfl (RV.tmp rfl (Imp.int (by (try have hs5 := hs3 (by omega)); omega)))) Pure.val
set_option maxRecDepth 8000 in
theorem laws_markTypeS (L : (List Ty)) (k : Int) (h0 : 0 ≤ k) (hk : k + (mTys L : Int) ≤ 1152921504606846976) : FnK Try.prog 54 [A.sl 4 sTy L, A.int k] (A.int (k + (mTys L : Int))) := by
  have hu : (mTys L : Nat) = (L.map mTy).sum := rfl
  refine FnK_of_W' (fun c0 => [A.nw c0 (A.sl 4 sTy L), A.int k]) Try.func54 rfl (fun _ => rfl) (fun _ => ⟨From.nw, From.val, trivial⟩) fun c0 r w => ?_
  have hE : ∀ a, r a ≠ none → c0 a = none → a.spot = none → r.beyond c0 a := fun a h1 h2 h3 => ⟨h2, h3, Option.ne_none_iff_exists'.1 h1⟩
  refine W_seq ?_
  refine W_region ?_  -- R0 exact.go:560
  refine WL_ac rfl ?_
  refine WL_nil ?_
  refine Fin_then ?_
  refine W_seq ?_
  refine W_seq ?_
  refine W_region ?_  -- R1 exact.go:561
  refine WL_ac rfl ?_
  refine WL_nil ?_
  refine Fin_then ?_
  refine W_block ?_
  refine W_loopk [0] (T := Nat) (fun j => j ≤ L.length) (fun j => [(1, true, A.int (k + (sumTo mTy L j : Int))), (5, true, A.int (j : Int))]) (fun j => L.length - j) 0 (Nat.zero_le _) ⟨⟨rfl, _, rfl, (Imp.int (by (try simp only [sumTo_zero]); omega))⟩, ⟨rfl, _, rfl, (Imp.int (by (try simp only [sumTo_zero]); omega))⟩, trivial⟩ (fun j hx => ?_)
  have hs := sumTo_le' mTy L (j + 1)
  have hs0 := sumTo_le' mTy L j
  have hs2 : j < L.length → sumTo mTy L (j + 1) = sumTo mTy L j + mTy (idx L (j : Int)) := sumTo_step mTy L j
  have hs3 : L.length ≤ j → sumTo mTy L j = (L.map mTy).sum := sumTo_all' mTy L j
  have hm1 : ∀ x, (mTy x : Nat) = mTy x := fun _ => rfl
  have hm2 : (mTy (idx L (j : Int)) : Nat) = 3 + 3 * (idx L (j : Int)).fields.length := rfl
  refine W_seq ?_
  refine W_seq ?_
  refine W_region ?_  -- R2 exact.go:561
  refine WL_mv rfl rfl ?_
  refine WL_mv rfl rfl ?_
  refine WL_lenn ts38 rfl rfl fun hl8 => ?_
  refine WL_step (S_plain O_lss ⟨T1 rfl, T1 rfl, trivial⟩ rfl rfl) ?_
  refine WL_nil ?_
  refine Fin_then ?_
  refine W_cond rfl (fun h0 => ?_) (fun h0 => ?_)
  · skip
    try simp only [bl] at h0
    refine W_skip ?_
    refine Fin_then ?_
    refine W_seq ?_
    refine W_block ?_
    refine W_seq ?_
    refine W_region ?_  -- R4 exact.go:562
    refine WL_mv rfl rfl ?_
    refine WL_mv rfl rfl ?_
    refine WL_mv rfl rfl ?_
    refine WL_step (S_plain (O_indexn ts38 (by omega)) ⟨T1 rfl, T1 rfl, trivial⟩ rfl rfl) ?_
    refine WL_step (S_plain (O_fieldn tf29_0) ⟨T1 rfl, trivial⟩ rfl rfl) ?_
    refine WL_storeK c0 [(0, true, _), (1, true, _), (5, true, _)] [] ⟨T1 rfl, T1 rfl, trivial⟩ KindOf.int sz3 (List.Mem.head _) hE ⟨⟨rfl, _, rfl, (KI.nw (KS.sl (fun _ => ⟨KSc.anyI, KSc.anyI, KSc.anyB, (KSc.sl (fun _ => ⟨KSc.anyI, KSc.anyI, KSc.anyB, trivial⟩)), trivial⟩)))⟩, ⟨rfl, _, rfl, KI.val⟩, ⟨rfl, _, rfl, KI.val⟩, trivial⟩ OKI.nil rfl ?_
    refine WL_nil ?_
    refine Fin_then ?_
    refine W_seq ?_
    refine W_region ?_  -- R5 exact.go:563
    refine WL_mv rfl rfl ?_
    refine WL_step (S_plain (O_add (by omega)) ⟨T1 rfl, C1, trivial⟩ rfl rfl) ?_
    refine WL_as rfl rfl ?_
    refine WL_nil ?_
    refine Fin_then ?_
    refine W_seq ?_
    refine W_region ?_  -- R6 exact.go:564
    refine WL_mv rfl rfl ?_
    refine WL_mv rfl rfl ?_
    refine WL_mv rfl rfl ?_
    refine WL_step (S_plain (O_indexn ts38 (by omega)) ⟨T1 rfl, T1 rfl, trivial⟩ rfl rfl) ?_
    refine WL_step (S_plain (O_fieldn tf29_1) ⟨T1 rfl, trivial⟩ rfl rfl) ?_
    refine WL_storeK c0 [(0, true, _), (1, true, _), (5, true, _)] [] ⟨T1 rfl, T1 rfl, trivial⟩ KindOf.int sz3 (List.Mem.head _) hE ⟨⟨rfl, _, rfl, (KI.nw (KS.sl (fun _ => ⟨KSc.anyI, KSc.anyI, KSc.anyB, (KSc.sl (fun _ => ⟨KSc.anyI, KSc.anyI, KSc.anyB, trivial⟩)), trivial⟩)))⟩, ⟨rfl, _, rfl, KI.val⟩, ⟨rfl, _, rfl, KI.val⟩, trivial⟩ OKI.nil rfl ?_
    refine WL_nil ?_
    refine Fin_then ?_
    refine W_seq ?_
    refine W_region ?_  -- R7 exact.go:565
    refine WL_mv rfl rfl ?_
    refine WL_step (S_plain (O_add (by omega)) ⟨T1 rfl, C1, trivial⟩ rfl rfl) ?_
    refine WL_as rfl rfl ?_
    refine WL_nil ?_
    refine Fin_then ?_
    refine W_seq ?_
    refine W_region ?_  -- R8 exact.go:566
    refine WL_mv rfl rfl ?_
    refine WL_mv rfl rfl ?_
    refine WL_mv rfl rfl ?_
    refine WL_step (S_plain (O_rem (by omega) (by omega)) ⟨T1 rfl, C1, trivial⟩ rfl rfl) ?_
    refine WL_step (S_plain O_eql ⟨T1 rfl, C1, trivial⟩ rfl rfl) ?_
    refine WL_step (S_plain (O_indexn ts38 (by omega)) ⟨T1 rfl, T1 rfl, trivial⟩ rfl rfl) ?_
    refine WL_step (S_plain (O_fieldn tf29_2) ⟨T1 rfl, trivial⟩ rfl rfl) ?_
    refine WL_storeK c0 [(0, true, _), (1, true, _), (5, true, _)] [] ⟨T1 rfl, T1 rfl, trivial⟩ KindOf.bool sz4 (List.Mem.head _) hE ⟨⟨rfl, _, rfl, (KI.nw (KS.sl (fun _ => ⟨KSc.anyI, KSc.anyI, KSc.anyB, (KSc.sl (fun _ => ⟨KSc.anyI, KSc.anyI, KSc.anyB, trivial⟩)), trivial⟩)))⟩, ⟨rfl, _, rfl, KI.val⟩, ⟨rfl, _, rfl, KI.val⟩, trivial⟩ OKI.nil rfl ?_
    refine WL_nil ?_
    refine Fin_then ?_
    refine W_seq ?_
    refine W_region ?_  -- R9 exact.go:567
    refine WL_mv rfl rfl ?_
    refine WL_step (S_plain (O_add (by omega)) ⟨T1 rfl, C1, trivial⟩ rfl rfl) ?_
    refine WL_as rfl rfl ?_
    refine WL_nil ?_
    refine Fin_then ?_
    refine W_region ?_  -- R10 exact.go:568
    refine WL_mv rfl rfl ?_
    refine WL_mv rfl rfl ?_
    refine WL_step (S_plain (O_indexn ts38 (by omega)) ⟨T1 rfl, T1 rfl, trivial⟩ rfl rfl) ?_
    refine WL_step (S_plain (O_fieldn tf29_3) ⟨T1 rfl, trivial⟩ rfl rfl) ?_
    refine WL_step (S_plain (O_loadn ta27) ⟨T1 rfl, trivial⟩ rfl rfl) ?_
    refine WL_mv rfl rfl ?_
    refine WL_callK (us := [_, _]) c0 [(0, true, _), (5, true, _)] _ cf74 (laws_markFieldS _ _ (by omega) (by omega)) rfl ⟨T1 rfl, T1 rfl, trivial⟩ ⟨NwI.nw, NwI.val, trivial⟩ (List.Mem.head _) hE ⟨⟨rfl, _, rfl, (KI.nw (KS.sl (fun _ => ⟨KSc.anyI, KSc.anyI, KSc.anyB, (KSc.sl (fun _ => ⟨KSc.anyI, KSc.anyI, KSc.anyB, trivial⟩)), trivial⟩)))⟩, ⟨rfl, _, rfl, KI.val⟩, trivial⟩ OKI.nil rfl rfl ?_
    refine WL_as rfl rfl ?_
    refine WL_nil ?_
    refine Fin_block ?_
    refine Fin_then ?_
    refine W_region ?_  -- R3 exact.go:561
    refine WL_mv rfl rfl ?_
    refine WL_step (S_plain (O_add (by omega)) ⟨T1 rfl, C1, trivial⟩ rfl rfl) ?_
    refine WL_as rfl rfl ?_
    refine WL_nil ?_
    have hs4 := hs2 (by omega)
    exact Fin_back (j + 1) (by omega) (by omega) ⟨⟨rfl, _, rfl, (Imp.int (by omega))⟩, ⟨rfl, _, rfl, (Imp.int (by omega))⟩, trivial⟩ ⟨rfl, trivial⟩ rfl rfl
  · skip
    try simp only [bl] at h0
    refine W_exit ?_
    refine Fin_then_exit ?_
    refine Fin_then_exit ?_
    refine Fin_block_exit ?_
    refine Fin_then ?_
    refine W_seq ?_
    refine W_region ?_  -- R11 exact.go:570
    refine WL_mv rfl rfl ?_
    refine WL_as rfl rfl ?_
    refine WL_nil ?_
    refine Fin_then ?_
    refine W_ret ?_
    exact RetK rfl (Res1 rfl (RV.tmp rfl (Imp.int (by (try have hs5 := hs3 (by omega)); omega)))) Pure.val
set_option maxRecDepth 8000 in
theorem laws_markTypeSS (L : (List (List Ty))) (k : Int) (h0 : 0 ≤ k) (hk : k + (mKin L : Int) ≤ 1152921504606846976) : FnK Try.prog 27 [A.sl 1 sGrp L, A.int k] (A.int (k + (mKin L : Int))) := by
  have hu : (mKin L : Nat) = (L.map mTys).sum := rfl
  refine FnK_of_W' (fun c0 => [A.nw c0 (A.sl 1 sGrp L), A.int k]) Try.func27 rfl (fun _ => rfl) (fun _ => ⟨From.nw, From.val, trivial⟩) fun c0 r w => ?_
  have hE : ∀ a, r a ≠ none → c0 a = none → a.spot = none → r.beyond c0 a := fun a h1 h2 h3 => ⟨h2, h3, Option.ne_none_iff_exists'.1 h1⟩
  refine W_seq ?_
  refine W_region ?_  -- R0 exact.go:595
  refine WL_ac rfl ?_
  refine WL_nil ?_
  refine Fin_then ?_
  refine W_seq ?_
  refine W_seq ?_
  refine W_region ?_  -- R1 exact.go:596
  refine WL_ac rfl ?_
  refine WL_nil ?_
  refine Fin_then ?_
  refine W_block ?_
  refine W_loopk [0] (T := Nat) (fun j => j ≤ L.length) (fun j => [(1, true, A.int (k + (sumTo mTys L j : Int))), (5, true, A.int (j : Int))]) (fun j => L.length - j) 0 (Nat.zero_le _) ⟨⟨rfl, _, rfl, (Imp.int (by (try simp only [sumTo_zero]); omega))⟩, ⟨rfl, _, rfl, (Imp.int (by (try simp only [sumTo_zero]); omega))⟩, trivial⟩ (fun j hx => ?_)
  have hs := sumTo_le' mTys L (j + 1)
  have hs0 := sumTo_le' mTys L j
  have hs2 : j < L.length → sumTo mTys L (j + 1) = sumTo mTys L j + mTys (idx L (j : Int)) := sumTo_step mTys L j
  have hs3 : L.length ≤ j → sumTo mTys L j = (L.map mTys).sum := sumTo_all' mTys L j
  have hm1 : ∀ x, (mTys x : Nat) = mTys x := fun _ => rfl
  refine W_seq ?_
  refine W_seq ?_
  refine W_region ?_  -- R2 exact.go:596
  refine WL_mv rfl rfl ?_
  refine WL_mv rfl rfl ?_
  refine WL_lenn ts23 rfl rfl fun hl8 => ?_
  refine WL_step (S_plain O_lss ⟨T1 rfl, T1 rfl, trivial⟩ rfl rfl) ?_
  refine WL_nil ?_
  refine Fin_then ?_
  refine W_cond rfl (fun h0 => ?_) (fun h0 => ?_)
  · skip
    try simp only [bl] at h0
    refine W_skip ?_
    refine Fin_then ?_
    refine W_seq ?_
    refine W_block ?_
    refine W_region ?_  -- R4 exact.go:597
    refine WL_mv rfl rfl ?_
    refine WL_mv rfl rfl ?_
    refine WL_step (S_plain (O_indexn ts23 (by omega)) ⟨T1 rfl, T1 rfl, trivial⟩ rfl rfl) ?_
    refine WL_step (S_plain (O_loadn ta38) ⟨T1 rfl, trivial⟩ rfl rfl) ?_
    refine WL_mv rfl rfl ?_
    refine WL_callK (us := [_, _]) c0 [(0, true, _), (5, true, _)] _ cf54 (laws_markTypeS _ _ (by omega) (by omega)) rfl ⟨T1 rfl, T1 rfl, trivial⟩ ⟨NwI.nw, NwI.val, trivial⟩ (List.Mem.head _) hE ⟨⟨rfl, _, rfl, (KI.nw (KS.sl (fun _ => ⟨(KSc.sl (fun _ => ⟨KSc.anyI, KSc.anyI, KSc.anyB, (KSc.sl (fun _ => ⟨KSc.anyI, KSc.anyI, KSc.anyB, trivial⟩)), trivial⟩)), trivial⟩)))⟩, ⟨rfl, _, rfl, KI.val⟩, trivial⟩ OKI.nil rfl rfl ?_
    refine WL_as rfl rfl ?_
    refine WL_nil ?_
    refine Fin_block ?_
    refine Fin_then ?_
    refine W_region ?_  -- R3 exact.go:596
    refine WL_mv rfl rfl ?_
    refine WL_step (S_plain (O_add (by omega)) ⟨T1 rfl, C1, trivial⟩ rfl rfl) ?_
    refine WL_as rfl rfl ?_
    refine WL_nil ?_
    have hs4 := hs2 (by omega)
    exact Fin_back (j + 1) (by omega) (by omega) ⟨⟨rfl, _, rfl, (Imp.int (by omega))⟩, ⟨rfl, _, rfl, (Imp.int (by omega))⟩, trivial⟩ ⟨rfl, trivial⟩ rfl rfl
  · skip
    try simp only [bl] at h0
    refine W_exit ?_
    refine Fin_then_exit ?_
    refine Fin_then_exit ?_
    refine Fin_block_exit ?_
    refine Fin_then ?_
    refine W_seq ?_
    refine W_region ?_  -- R5 exact.go:599
    refine WL_mv rfl rfl ?_
    refine WL_as rfl rfl ?_
    refine WL_nil ?_
    refine Fin_then ?_
    refine W_ret ?_
    exact RetK rfl (Res1 rfl (RV.tmp rfl (Imp.int (by (try have hs5 := hs3 (by omega)); omega)))) Pure.val
set_option maxRecDepth 8000 in
theorem laws_markIntS (b n cap : Nat) (sp : List A) (L : List Int) (hn : n = L.length) (k : Int) (h0 : 0 ≤ k) (hk : k + L.length ≤ 1152921504606846976) : FnX Try.prog 28 { own := [(b, 3, L.map A.int ++ sp)] } [A.os b n cap, A.int k] (fun _ : Unit => A.int (k + L.length)) (fun _ : Unit => { own := [(b, 3, (from_ k L.length).map A.int ++ sp)] }) := by
  refine FnX_of_W Try.func28 rfl rfl fun r w => ?_
  refine W_seq ?_
  refine W_region ?_  -- R0 exact.go:710
  refine WL_ac rfl ?_
  refine WL_nil ?_
  refine Fin_then ?_
  refine W_seq ?_
  refine W_seq ?_
  refine W_region ?_  -- R1 exact.go:711
  refine WL_ac rfl ?_
  refine WL_nil ?_
  refine Fin_then ?_
  refine W_block ?_
  refine W_loopp [0] [0] [] [] (T := Nat) (fun j => j ≤ L.length) (fun j => [(1, true, A.int (k + (j : Int))), (5, true, A.int (j : Int))]) (fun j => { own := [(b, 3, (from_ k j ++ L.drop j).map A.int ++ sp)], rooms := [], maps := [] }) (fun j => L.length - j) 0 (Nat.zero_le _) ⟨⟨rfl, _, rfl, (by first | exact Imp.refl | exact Imp.slv | exact Imp.nil | exact Imp.int (by omega) | exact Imp.int (by simp; done) | exact Imp.bool (by simp_all; done))⟩, ⟨rfl, _, rfl, (by first | exact Imp.refl | exact Imp.slv | exact Imp.nil | exact Imp.int (by omega) | exact Imp.int (by simp; done) | exact Imp.bool (by simp_all; done))⟩, trivial⟩ (.cons (AllImp.eq (mark_zero L k sp)) OSub.nil) rfl rfl rfl (fun j hx => ?_)
  refine W_seq ?_
  refine W_seq ?_
  refine W_region ?_  -- R2 exact.go:711
  refine WL_mv rfl rfl ?_
  refine WL_mv rfl rfl ?_
  refine WL_step (S_plain (O_lenv ts42) ⟨T1 rfl, trivial⟩ rfl rfl) ?_
  refine WL_step (S_plain O_lss ⟨T1 rfl, T1 rfl, trivial⟩ rfl rfl) ?_
  refine WL_nil ?_
  refine Fin_then ?_
  refine W_cond rfl (fun h0 => ?_) (fun h0 => ?_)
  · skip
    try simp only [bl] at h0
    refine W_skip ?_
    refine Fin_then ?_
    refine W_seq ?_
    refine W_block ?_
    refine W_seq ?_
    refine W_region ?_  -- R4 exact.go:712
    refine WL_mv rfl rfl ?_
    refine WL_mv rfl rfl ?_
    refine WL_mv rfl rfl ?_
    refine WL_step (S_plain (O_indexo ts42 (by omega)) ⟨T1 rfl, T1 rfl, trivial⟩ rfl rfl) ?_
    refine WL_store 0 rfl ⟨T1 rfl, T1 rfl, trivial⟩ (CellsOf.one OneV.int) sz3 (by rw [mark_len L k j sp (by omega)]; (first | (show _ + 1 ≤ _; omega) | (simp; omega))) ?_
    refine WL_nil ?_
    refine Fin_then ?_
    refine W_region ?_  -- R5 exact.go:713
    refine WL_mv rfl rfl ?_
    refine WL_step (S_plain (O_add (by omega)) ⟨T1 rfl, C1, trivial⟩ rfl rfl) ?_
    refine WL_as rfl rfl ?_
    refine WL_nil ?_
    refine Fin_block ?_
    refine Fin_then ?_
    refine W_region ?_  -- R3 exact.go:711
    refine WL_mv rfl rfl ?_
    refine WL_step (S_plain (O_add (by omega)) ⟨T1 rfl, C1, trivial⟩ rfl rfl) ?_
    refine WL_as rfl rfl ?_
    refine WL_nil ?_
    exact Fin_backp [0] (j + 1) (by omega) (by omega) ⟨⟨rfl, _, rfl, (Imp.int (by omega))⟩, ⟨rfl, _, rfl, (Imp.int (by omega))⟩, trivial⟩ ⟨rfl, trivial⟩ (.cons (AllImp.eq (mark_step L k j sp (by omega)).symm) OSub.nil) rfl (List.Sublist.refl _) rfl
  · skip
    try simp only [bl] at h0
    refine W_exit ?_
    refine Fin_then_exit ?_
    refine Fin_then_exit ?_
    refine Fin_block_exit ?_
    refine Fin_then ?_
    refine W_seq ?_
    refine W_region ?_  -- R6 exact.go:715
    refine WL_mv rfl rfl ?_
    refine WL_as rfl rfl ?_
    refine WL_nil ?_
    refine Fin_then ?_
    refine W_ret ?_
    exact RetXs [0] () rfl (Res1 rfl (RV.tmp rfl (Imp.int (by omega)))) (.cons (AllImp.eq (mark_all L k j sp (by omega)).symm) .nil) rfl (List.Sublist.refl _) (List.Sublist.refl _)
set_option maxRecDepth 8000 in
theorem laws_heldIntS (L : List Int) (k : Int) (h0 : 0 ≤ k) (hk : k + L.length ≤ 1152921504606846976) : FnC Try.prog 29 [A.sl 1 cInt L, A.int k] (A.int (heldInts L k)) := by
  refine Fn_of_W Try.func29 rfl rfl fun r w => ?_
  refine W_seq ?_
  refine W_region ?_  -- R0 exact.go:718
  refine WL_ac rfl ?_
  refine WL_nil ?_
  refine Fin_then ?_
  refine W_seq ?_
  refine W_seq ?_
  refine W_region ?_  -- R1 exact.go:719
  refine WL_ac rfl ?_
  refine WL_nil ?_
  refine Fin_then ?_
  refine W_block ?_
  refine W_loopk [0] (T := Nat) (fun j => j ≤ L.length ∧ ∀ i, i < j → (fun i : Nat => decide (idx L (i : Int) = k + i)) i = true) (fun j => [(1, true, A.int (k + (j : Int))), (5, true, A.int (j : Int))]) (fun j => L.length - j) 0 ⟨Nat.zero_le _, allN_zero⟩ ⟨⟨rfl, _, rfl, (Imp.int (by omega))⟩, ⟨rfl, _, rfl, (Imp.int (by omega))⟩, trivial⟩ (fun j hx => ?_)
  have hj := hx.1
  refine W_seq ?_
  refine W_seq ?_
  refine W_region ?_  -- R2 exact.go:719
  refine WL_mv rfl rfl ?_
  refine WL_mv rfl rfl ?_
  refine WL_len ts42 rfl rfl fun hl8 => ?_
  refine WL_step (S_plain O_lss ⟨T1 rfl, T1 rfl, trivial⟩ rfl rfl) ?_
  refine WL_nil ?_
  refine Fin_then ?_
  refine W_cond rfl (fun h0 => ?_) (fun h0 => ?_)
  · skip
    try simp only [bl] at h0
    refine W_skip ?_
    refine Fin_then ?_
    refine W_seq ?_
    refine W_block ?_
    refine W_seq ?_
    refine W_seq ?_
    refine W_region ?_  -- R4 exact.go:720
    refine WL_mv rfl rfl ?_
    refine WL_mv rfl rfl ?_
    refine WL_step (S_plain (O_index ts42 (by omega)) ⟨T1 rfl, T1 rfl, trivial⟩ rfl rfl) ?_
    refine WL_step (S_plain (O_load ta3) ⟨T1 rfl, trivial⟩ rfl rfl) ?_
    refine WL_mv rfl rfl ?_
    refine WL_step (S_plain O_neq ⟨T1 rfl, T1 rfl, trivial⟩ rfl rfl) ?_
    refine WL_nil ?_
    refine Fin_then ?_
    refine W_cond rfl (fun h1 => ?_) (fun h1 => ?_)
    · skip
      try simp only [bl] at h1
      refine W_seq ?_
      refine W_region ?_  -- R5 exact.go:721
      refine WL_ac rfl ?_
      refine WL_nil ?_
      refine Fin_then ?_
      refine W_ret ?_
      refine Fin_then_ret ?_
      refine Fin_block_ret ?_
      refine Fin_then_ret ?_
      refine Fin_then_ret ?_
      refine Fin_block_ret ?_
      refine Fin_then_ret ?_
      exact RetC rfl (Res1 rfl (RV.tmp rfl (Imp.int (by unfold heldInts; rw [allN_false j (by omega) (by grind)]; rfl))))
    · skip
      try simp only [bl] at h1
      refine W_skip ?_
      refine Fin_then ?_
      refine W_region ?_  -- R6 exact.go:723
      refine WL_mv rfl rfl ?_
      refine WL_step (S_plain (O_add (by omega)) ⟨T1 rfl, C1, trivial⟩ rfl rfl) ?_
      refine WL_as rfl rfl ?_
      refine WL_nil ?_
      refine Fin_block ?_
      refine Fin_then ?_
      refine W_region ?_  -- R3 exact.go:719
      refine WL_mv rfl rfl ?_
      refine WL_step (S_plain (O_add (by omega)) ⟨T1 rfl, C1, trivial⟩ rfl rfl) ?_
      refine WL_as rfl rfl ?_
      refine WL_nil ?_
      exact Fin_back (j + 1) ⟨by omega, allN_succ hx.2 (by grind)⟩ (by omega) ⟨⟨rfl, _, rfl, (Imp.int (by omega))⟩, ⟨rfl, _, rfl, (Imp.int (by omega))⟩, trivial⟩ ⟨rfl, trivial⟩ rfl rfl
  · skip
    try simp only [bl] at h0
    refine W_exit ?_
    refine Fin_then_exit ?_
    refine Fin_then_exit ?_
    refine Fin_block_exit ?_
    refine Fin_then ?_
    refine W_seq ?_
    refine W_region ?_  -- R7 exact.go:725
    refine WL_mv rfl rfl ?_
    refine WL_as rfl rfl ?_
    refine WL_nil ?_
    refine Fin_then ?_
    refine W_ret ?_
    exact RetC rfl (Res1 rfl (RV.tmp rfl (Imp.int (by unfold heldInts; rw [allN_true (fun i q => hx.2 i (by omega)), if_pos rfl]; omega))))
end Go.Proofs.Ytilddfgifjejbaa
