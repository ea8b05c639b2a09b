import Derived.Test.YtfjggobjijeniaaRows
import Derived.Test.YtfjggobjijeniaaWalk3
import Derived.Test.YtfjggobjijeniaaWalk2
import Derived.Test.YtfjggobjijeniaaPure1
namespace Go.Proofs.Ytfjggobjijeniaa.A2
open Go Go.RowKit Go.L
theorem mix : Try.prog.follows .mixedOrders = true := by kernel_rfl
theorem cf104 : CallF Try.prog 104 := fun w vs => by kernel_rfl
theorem cf15 : CallF Try.prog 15 := fun w vs => by kernel_rfl
theorem cf28 : CallF Try.prog 28 := fun w vs => by kernel_rfl
theorem cf39 : CallF Try.prog 39 := fun w vs => by kernel_rfl
theorem cf45 : CallF Try.prog 45 := fun w vs => by kernel_rfl
theorem cf50 : CallF Try.prog 50 := fun w vs => by kernel_rfl
theorem cf55 : CallF Try.prog 55 := fun w vs => by kernel_rfl
theorem cf59 : CallF Try.prog 59 := fun w vs => by kernel_rfl
theorem cf69 : CallF Try.prog 69 := fun w vs => by kernel_rfl
theorem cf84 : CallF Try.prog 84 := fun w vs => by kernel_rfl
theorem cf91 : CallF Try.prog 91 := fun w vs => by kernel_rfl
theorem sz145 : sizeAt Try.prog 145 = some 4 := by kernel_rfl
theorem sz3 : sizeAt Try.prog 3 = some 1 := by kernel_rfl
theorem sz37 : sizeAt Try.prog 37 = some 3 := by kernel_rfl
theorem sz4 : sizeAt Try.prog 4 = some 1 := by kernel_rfl
theorem sz50 : sizeAt Try.prog 50 = some 1 := by kernel_rfl
theorem sz82 : sizeAt Try.prog 82 = some 1 := by kernel_rfl
theorem ta3 : TA Try.prog 3 := by unfold TA; kernel_rfl
theorem ta4 : TA Try.prog 4 := by unfold TA; kernel_rfl
theorem ta44 : TA Try.prog 44 := by unfold TA; kernel_rfl
theorem ta50 : TA Try.prog 50 := by unfold TA; kernel_rfl
theorem ta74 : TA Try.prog 74 := by unfold TA; kernel_rfl
theorem ta82 : TA Try.prog 82 := by unfold TA; kernel_rfl
theorem tez31 : TEZ Try.prog 31 82 1 24 [.slice none 0 0] := ⟨by kernel_rfl, by kernel_rfl⟩
theorem te31 : TE Try.prog 31 82 1 24 := tez31.te rfl
theorem tez50 : TEZ Try.prog 50 37 3 24 [.int .i64 0, .int .i64 0, .bool false] := ⟨by kernel_rfl, by kernel_rfl⟩
theorem te50 : TE Try.prog 50 37 3 24 := tez50.te rfl
theorem tez82 : TEZ Try.prog 82 145 4 48 [.int .i64 0, .int .i64 0, .bool false, .slice none 0 0] := ⟨by kernel_rfl, by kernel_rfl⟩
theorem te82 : TE Try.prog 82 145 4 48 := tez82.te rfl
theorem tf142_0 : TF Try.prog 142 0 0 := by unfold TF; kernel_rfl
theorem tf142_1 : TF Try.prog 142 1 1 := by unfold TF; kernel_rfl
theorem tf142_2 : TF Try.prog 142 2 2 := by unfold TF; kernel_rfl
theorem tf142_3 : TF Try.prog 142 3 3 := by unfold TF; kernel_rfl
theorem tf145_0 : TF Try.prog 145 0 0 := by unfold TF; kernel_rfl
theorem tf145_1 : TF Try.prog 145 1 1 := by unfold TF; kernel_rfl
theorem tf145_2 : TF Try.prog 145 2 2 := by unfold TF; kernel_rfl
theorem tf145_3 : TF Try.prog 145 3 3 := by unfold TF; kernel_rfl
theorem tf27_0 : TF Try.prog 27 0 0 := by unfold TF; kernel_rfl
theorem tf27_1 : TF Try.prog 27 1 1 := by unfold TF; kernel_rfl
theorem tf27_2 : TF Try.prog 27 2 2 := by unfold TF; kernel_rfl
theorem tf37_0 : TF Try.prog 37 0 0 := by unfold TF; kernel_rfl
theorem tf37_1 : TF Try.prog 37 1 1 := by unfold TF; kernel_rfl
theorem tf37_2 : TF Try.prog 37 2 2 := by unfold TF; kernel_rfl
theorem tg142 : TG Try.prog 142 4 := ⟨by kernel_rfl, by kernel_rfl⟩
theorem tg145 : TG Try.prog 145 4 := ⟨by kernel_rfl, by kernel_rfl⟩
theorem tg27 : TG Try.prog 27 3 := ⟨by kernel_rfl, by kernel_rfl⟩
theorem tg37 : TG Try.prog 37 3 := ⟨by kernel_rfl, by kernel_rfl⟩
theorem ts22 : TS Try.prog 22 74 1 := ⟨by kernel_rfl, by kernel_rfl⟩
theorem ts31 : TS Try.prog 31 82 1 := ⟨by kernel_rfl, by kernel_rfl⟩
theorem ts44 : TS Try.prog 44 27 3 := ⟨by kernel_rfl, by kernel_rfl⟩
theorem ts50 : TS Try.prog 50 37 3 := ⟨by kernel_rfl, by kernel_rfl⟩
theorem ts62 : TS Try.prog 62 3 1 := ⟨by kernel_rfl, by kernel_rfl⟩
theorem ts74 : TS Try.prog 74 142 4 := ⟨by kernel_rfl, by kernel_rfl⟩
theorem ts82 : TS Try.prog 82 145 4 := ⟨by kernel_rfl, by kernel_rfl⟩
theorem tz145 : TZ Try.prog 145 [.int .i64 0, .int .i64 0, .bool false, .slice none 0 0] := by unfold TZ; kernel_rfl
theorem tz37 : TZ Try.prog 37 [.int .i64 0, .int .i64 0, .bool false] := by unfold TZ; kernel_rfl
theorem ub4 : Try.prog.underlying 4 = some .bool := by kernel_rfl
end Go.Proofs.Ytfjggobjijeniaa.A2
namespace Go.Proofs.Ytfjggobjijeniaa
open Go Go.RowKit Go.L A2
set_option maxRecDepth 8000 in
theorem laws_szFieldS (L : (List Fld)) (left : Int) (h0 : 0 ≤ left) (h1 : left ≤ 1048576) : FnC Try.prog 55 [A.sl 3 cFld L, A.int left] (A.int (neg1 (left - L.length))) := by
  refine Fn_of_W Try.func55 rfl rfl fun r w => ?_
  refine W_seq (W_region (WL_ac rfl ?_))
  refine WL_nil (Fin_then (W_seq (W_region (WL_mv rfl rfl ?_))))
  refine WL_mv rfl rfl ?_
  refine WL_len ts44 rfl rfl fun hl7 => ?_
  refine ws (O_sub (by omega)) ⟨T1 rfl, T1 rfl, trivial⟩ ?_
  refine WL_as rfl rfl ?_
  refine WL_nil (Fin_then (W_seq (W_seq (W_region (WL_mv rfl rfl ?_)))))
  refine ws O_lss ⟨T1 rfl, C1, trivial⟩ ?_
  refine WL_nil (Fin_then (W_cond rfl (fun h0 => ?_) (fun h0 => ?_)))
  · skip
    try simp only [bl] at h0
    refine W_seq (W_region (WL_ac rfl ?_))
    exact WL_nil (Fin_then (W_ret (Fin_then_ret (RetC rfl (Res1 rfl (RV.tmp rfl (Imp.int (by unfold neg1; (first | rw [if_pos (by omega)] | rw [if_neg (by omega)])))))))))
  try simp only [bl] at h0
  refine W_skip (Fin_then (W_seq (W_region (WL_mv rfl rfl ?_))))
  refine WL_as rfl rfl ?_
  exact WL_nil (Fin_then (W_ret (RetC rfl (Res1 rfl (RV.tmp rfl (Imp.int (by unfold neg1; (first | rw [if_pos (by omega)] | rw [if_neg (by omega)]))))))))
set_option maxRecDepth 8000 in
theorem laws_szType (t : Ty) (left : Int) (h0 : 0 ≤ left) (h1 : left ≤ 1048576) : FnC Try.prog 84 [A.agg (cTy t), A.int left] (A.int (neg1 (left - bTy t))) := by
  have hu : bTy t = (t.fields.length) := rfl
  refine Fn_of_W Try.func84 rfl rfl fun r w => ?_
  refine W_seq (W_region (ws O_boxg ⟨T1 rfl, trivial⟩ ?_))
  refine WL_ac rfl ?_
  refine WL_nil (Fin_then (W_seq (W_region (ws (O_field tf142_3) ⟨T1 rfl, trivial⟩ ?_))))
  refine ws (O_load ta44) ⟨T1 rfl, trivial⟩ ?_
  refine WL_mv rfl rfl ?_
  refine ws (O_call cf55 (laws_szFieldS _ _ (by (first | omega | (unfold neg1 at *; grind))) (by (first | omega | (unfold neg1 at *; grind)))) rfl) ⟨T1 rfl, T1 rfl, trivial⟩ ?_
  refine WL_as rfl rfl ?_
  refine WL_nil (Fin_then (W_seq (W_seq (W_region (WL_mv rfl rfl ?_)))))
  refine ws O_lss ⟨T1 rfl, C1, trivial⟩ ?_
  refine WL_nil (Fin_then (W_cond rfl (fun h0 => ?_) (fun h0 => ?_)))
  · skip
    simp only [decide_eq_true_eq, decide_eq_false_iff_not] at h0; unfold neg1 at h0
    refine W_seq (W_region (WL_ac rfl ?_))
    exact WL_nil (Fin_then (W_ret (Fin_then_ret (RetC rfl (Res1 rfl (RV.tmp rfl (Imp.int (by unfold neg1 at *; grind))))))))
  simp only [decide_eq_true_eq, decide_eq_false_iff_not] at h0; unfold neg1 at h0
  refine W_skip (Fin_then (W_seq (W_region (WL_mv rfl rfl ?_))))
  refine WL_as rfl rfl ?_
  exact WL_nil (Fin_then (W_ret (RetC rfl (Res1 rfl (RV.tmp rfl (Imp.int (by unfold neg1 at *; grind)))))))
set_option maxRecDepth 8000 in
theorem laws_szTypeS (L : (List Ty)) (left : Int) (h0 : 0 ≤ left) (h1 : left ≤ 1048576) : FnC Try.prog 39 [A.sl 4 cTy L, A.int left] (A.int (neg1 (left - (bTys L)))) := by
  have hb := bulk_len (f := bTy) (L := L)
  have hu : ((bTys L) : Nat) = bulkL bTy L := rfl
  refine Fn_of_W Try.func39 rfl rfl fun r w => ?_
  refine W_seq (W_region (WL_ac rfl ?_))
  refine WL_nil (Fin_then (W_seq (W_region (WL_mv rfl rfl ?_))))
  refine WL_mv rfl rfl ?_
  refine WL_len ts74 rfl rfl fun hl8 => ?_
  refine ws (O_sub (by omega)) ⟨T1 rfl, T1 rfl, trivial⟩ ?_
  refine WL_as rfl rfl ?_
  refine WL_nil (Fin_then (W_seq (W_seq (W_region (WL_mv rfl rfl ?_)))))
  refine ws O_lss ⟨T1 rfl, C1, trivial⟩ ?_
  refine WL_nil (Fin_then (W_cond rfl (fun h0 => ?_) (fun h0 => ?_)))
  · skip
    try simp only [bl] at h0
    refine W_seq (W_region (WL_ac rfl ?_))
    exact WL_nil (Fin_then (W_ret (Fin_then_ret (RetC rfl (Res1 rfl (RV.tmp rfl (Imp.int (by unfold neg1 at *; grind))))))))
  try simp only [bl] at h0
  refine W_skip (Fin_then (W_seq (W_seq (W_region (WL_ac rfl ?_)))))
  refine WL_nil (Fin_then (W_block (W_loopk [0] (T := Nat) (fun k => k ≤ L.length ∧ 0 ≤ left - L.length - (sumTo bTy L k : Int)) (fun k => [(1, true, A.int (left - L.length - (sumTo bTy L k : Int))), (5, true, A.int (k : Int))]) (fun k => L.length - k) 0 ⟨Nat.zero_le _, by rw [sumTo_zero]; omega⟩ ⟨⟨rfl, _, rfl, (Imp.int (by first | (rw [sumTo_zero]; omega) | omega))⟩, ⟨rfl, _, rfl, (Imp.int (by first | (rw [sumTo_zero]; omega) | omega))⟩, trivial⟩ (fun k hx => ?_))))
  have hk := hx.1
  have hq := hx.2
  have hs := sumTo_le bTy L k
  have hs1 := sumTo_le bTy L (k + 1)
  have hs2 : k < L.length → sumTo bTy L (k + 1) = sumTo bTy L k + bTy (idx L (k : Int)) := sumTo_step bTy L k
  have hs3 : L.length ≤ k → L.length + sumTo bTy L k = bulkL bTy L := sumTo_all bTy L k
  refine W_seq (W_seq (W_region (WL_mv rfl rfl ?_)))
  refine WL_mv rfl rfl ?_
  refine WL_len ts74 rfl rfl fun hl14 => ?_
  refine ws O_lss ⟨T1 rfl, T1 rfl, trivial⟩ ?_
  refine WL_nil (Fin_then (W_cond rfl (fun h1 => ?_) (fun h1 => ?_)))
  · skip
    try simp only [bl] at h1
    refine W_skip (Fin_then (W_seq (W_block (W_seq (W_region (WL_mv rfl rfl ?_))))))
    refine WL_mv rfl rfl ?_
    refine ws (O_index ts74 (by omega)) ⟨T1 rfl, T1 rfl, trivial⟩ ?_
    refine ws (O_loadgw tg142 rfl) ⟨T1 rfl, trivial⟩ ?_
    refine WL_mv rfl rfl ?_
    refine ws (O_call cf84 (laws_szType _ _ (by omega) (by omega)) rfl) ⟨T1 rfl, T1 rfl, trivial⟩ ?_
    refine WL_as rfl rfl ?_
    refine WL_nil (Fin_then (W_seq (W_region (WL_mv rfl rfl ?_))))
    refine ws O_lss ⟨T1 rfl, C1, trivial⟩ ?_
    refine WL_nil (Fin_then (W_cond rfl (fun h2 => ?_) (fun h2 => ?_)))
    · skip
      try simp only [bl] at h2
      refine W_seq (W_region (WL_ac rfl ?_))
      exact WL_nil (Fin_then (W_ret (Fin_block_ret (Fin_then_ret (Fin_then_ret (Fin_block_ret (Fin_then_ret (RetC rfl (Res1 rfl (RV.tmp rfl (Imp.int (by unfold neg1 at *; grind))))))))))))
    try simp only [bl] at h2
    refine W_skip (Fin_block (Fin_then (W_region (WL_mv rfl rfl ?_))))
    refine ws (O_add (by omega)) ⟨T1 rfl, C1, trivial⟩ ?_
    refine WL_as rfl rfl ?_
    refine WL_nil ?_
    have hs4 := hs2 (by omega)
    unfold neg1 at h2
    exact Fin_back (k + 1) ⟨by omega, by grind⟩ (by omega) ⟨⟨rfl, _, rfl, (Imp.int (by (try unfold neg1); grind))⟩, ⟨rfl, _, rfl, (Imp.int (by (try unfold neg1); grind))⟩, trivial⟩ ⟨rfl, trivial⟩ rfl rfl
  try simp only [bl] at h1
  refine W_exit (Fin_then_exit (Fin_then_exit (Fin_block_exit (Fin_then (W_seq (W_region (WL_mv rfl rfl ?_)))))))
  refine WL_as rfl rfl ?_
  exact WL_nil (Fin_then (W_ret (RetC rfl (Res1 rfl (RV.tmp rfl (Imp.int (by unfold neg1 at *; grind)))))))
set_option maxRecDepth 8000 in
theorem laws_szTypeSS (L : (List (List Ty))) (left : Int) (h0 : 0 ≤ left) (h1 : left ≤ 1048576) : FnC Try.prog 9 [A.sl 1 cGrp L, A.int left] (A.int (neg1 (left - (bKin L)))) := by
  have hb := bulk_len (f := bTys) (L := L)
  have hu : ((bKin L) : Nat) = bulkL bTys L := rfl
  refine Fn_of_W Try.func9 rfl rfl fun r w => ?_
  refine W_seq (W_region (WL_ac rfl ?_))
  refine WL_nil (Fin_then (W_seq (W_region (WL_mv rfl rfl ?_))))
  refine WL_mv rfl rfl ?_
  refine WL_len ts22 rfl rfl fun hl8 => ?_
  refine ws (O_sub (by omega)) ⟨T1 rfl, T1 rfl, trivial⟩ ?_
  refine WL_as rfl rfl ?_
  refine WL_nil (Fin_then (W_seq (W_seq (W_region (WL_mv rfl rfl ?_)))))
  refine ws O_lss ⟨T1 rfl, C1, trivial⟩ ?_
  refine WL_nil (Fin_then (W_cond rfl (fun h0 => ?_) (fun h0 => ?_)))
  · skip
    try simp only [bl] at h0
    refine W_seq (W_region (WL_ac rfl ?_))
    exact WL_nil (Fin_then (W_ret (Fin_then_ret (RetC rfl (Res1 rfl (RV.tmp rfl (Imp.int (by unfold neg1 at *; grind))))))))
  try simp only [bl] at h0
  refine W_skip (Fin_then (W_seq (W_seq (W_region (WL_ac rfl ?_)))))
  refine WL_nil (Fin_then (W_block (W_loopk [0] (T := Nat) (fun k => k ≤ L.length ∧ 0 ≤ left - L.length - (sumTo bTys L k : Int)) (fun k => [(1, true, A.int (left - L.length - (sumTo bTys L k : Int))), (5, true, A.int (k : Int))]) (fun k => L.length - k) 0 ⟨Nat.zero_le _, by rw [sumTo_zero]; omega⟩ ⟨⟨rfl, _, rfl, (Imp.int (by first | (rw [sumTo_zero]; omega) | omega))⟩, ⟨rfl, _, rfl, (Imp.int (by first | (rw [sumTo_zero]; omega) | omega))⟩, trivial⟩ (fun k hx => ?_))))
  have hk := hx.1
  have hq := hx.2
  have hs := sumTo_le bTys L k
  have hs1 := sumTo_le bTys L (k + 1)
  have hs2 : k < L.length → sumTo bTys L (k + 1) = sumTo bTys L k + bTys (idx L (k : Int)) := sumTo_step bTys L k
  have hs3 : L.length ≤ k → L.length + sumTo bTys L k = bulkL bTys L := sumTo_all bTys L k
  refine W_seq (W_seq (W_region (WL_mv rfl rfl ?_)))
  refine WL_mv rfl rfl ?_
  refine WL_len ts22 rfl rfl fun hl14 => ?_
  refine ws O_lss ⟨T1 rfl, T1 rfl, trivial⟩ ?_
  refine WL_nil (Fin_then (W_cond rfl (fun h1 => ?_) (fun h1 => ?_)))
  · skip
    try simp only [bl] at h1
    refine W_skip (Fin_then (W_seq (W_block (W_seq (W_region (WL_mv rfl rfl ?_))))))
    refine WL_mv rfl rfl ?_
    refine ws (O_index ts22 (by omega)) ⟨T1 rfl, T1 rfl, trivial⟩ ?_
    refine ws (O_load ta74) ⟨T1 rfl, trivial⟩ ?_
    refine WL_mv rfl rfl ?_
    refine ws (O_call cf39 (laws_szTypeS _ _ (by omega) (by omega)) rfl) ⟨T1 rfl, T1 rfl, trivial⟩ ?_
    refine WL_as rfl rfl ?_
    refine WL_nil (Fin_then (W_seq (W_region (WL_mv rfl rfl ?_))))
    refine ws O_lss ⟨T1 rfl, C1, trivial⟩ ?_
    refine WL_nil (Fin_then (W_cond rfl (fun h2 => ?_) (fun h2 => ?_)))
    · skip
      try simp only [bl] at h2
      refine W_seq (W_region (WL_ac rfl ?_))
      exact WL_nil (Fin_then (W_ret (Fin_block_ret (Fin_then_ret (Fin_then_ret (Fin_block_ret (Fin_then_ret (RetC rfl (Res1 rfl (RV.tmp rfl (Imp.int (by unfold neg1 at *; grind))))))))))))
    try simp only [bl] at h2
    refine W_skip (Fin_block (Fin_then (W_region (WL_mv rfl rfl ?_))))
    refine ws (O_add (by omega)) ⟨T1 rfl, C1, trivial⟩ ?_
    refine WL_as rfl rfl ?_
    refine WL_nil ?_
    have hs4 := hs2 (by omega)
    unfold neg1 at h2
    exact Fin_back (k + 1) ⟨by omega, by grind⟩ (by omega) ⟨⟨rfl, _, rfl, (Imp.int (by (try unfold neg1); grind))⟩, ⟨rfl, _, rfl, (Imp.int (by (try unfold neg1); grind))⟩, trivial⟩ ⟨rfl, trivial⟩ rfl rfl
  try simp only [bl] at h1
  refine W_exit (Fin_then_exit (Fin_then_exit (Fin_block_exit (Fin_then (W_seq (W_region (WL_mv rfl rfl ?_)))))))
  refine WL_as rfl rfl ?_
  exact WL_nil (Fin_then (W_ret (RetC rfl (Res1 rfl (RV.tmp rfl (Imp.int (by unfold neg1 at *; grind)))))))
set_option maxRecDepth 8000 in
theorem laws_toField (t : Fld) : FnC Try.prog 15 [A.agg (cFld t)] (A.agg (cFld t)) := by
  refine Fn_of_W Try.func15 rfl rfl fun r w => ?_
  refine W_seq (W_region (ws O_boxg ⟨T1 rfl, trivial⟩ ?_))
  refine WL_alloc tz37 rfl fun b2 => ?_
  refine WL_nil (Fin_then (W_seq (W_region (WL_alloc tz37 rfl fun b3 => ?_))))
  refine WL_nil (Fin_then (W_seq (W_region (ws (O_field tf27_0) ⟨T1 rfl, trivial⟩ ?_))))
  refine ws (O_load ta3) ⟨T1 rfl, trivial⟩ ?_
  refine ws (O_fieldv tf37_0) ⟨T1 rfl, trivial⟩ ?_
  refine WL_store 0 rfl ⟨T1 rfl, T1 rfl, trivial⟩ (CellsOf.one OneV.int) sz3 (Nat.le_of_ble_eq_true rfl) ?_
  refine WL_nil (Fin_then (W_seq (W_region (ws (O_field tf27_1) ⟨T1 rfl, trivial⟩ ?_))))
  refine ws (O_load ta3) ⟨T1 rfl, trivial⟩ ?_
  refine ws (O_fieldv tf37_1) ⟨T1 rfl, trivial⟩ ?_
  refine WL_store 0 rfl ⟨T1 rfl, T1 rfl, trivial⟩ (CellsOf.one OneV.int) sz3 (Nat.le_of_ble_eq_true rfl) ?_
  refine WL_nil (Fin_then (W_seq (W_region (ws (O_field tf27_2) ⟨T1 rfl, trivial⟩ ?_))))
  refine ws (O_load ta4) ⟨T1 rfl, trivial⟩ ?_
  refine ws (O_fieldv tf37_2) ⟨T1 rfl, trivial⟩ ?_
  refine WL_store 0 rfl ⟨T1 rfl, T1 rfl, trivial⟩ (CellsOf.one OneV.bool) sz4 (Nat.le_of_ble_eq_true rfl) ?_
  refine WL_nil (Fin_then (W_seq (W_region (ws (O_loadog 0 tg37 rfl (Nat.le_of_ble_eq_true rfl)) ⟨T1 rfl, trivial⟩ ?_))))
  refine WL_store 1 rfl ⟨T1 rfl, T1 rfl, trivial⟩ (CellsOf.agg (by exact ⟨OneV.int, OneV.int, OneV.bool, trivial⟩)) sz37 (Nat.le_of_ble_eq_true rfl) ?_
  exact WL_nil (Fin_then (W_ret (RetC rfl (Res1 rfl (RV.cellg 1 rfl tg37 rfl rfl Imp.refl)))))
set_option maxRecDepth 8000 in
theorem laws_toFieldS (L : (List Fld)) (hL : (L.length) ≤ 1048576) : FnN Try.prog 59 [A.sl 3 cFld L] (A.sl 3 cFld L) := by
  refine FnN_of_W Try.func59 rfl rfl fun r w => ?_
  refine W_seq (W_region (WL_ac rfl ?_))
  refine WL_nil (Fin_then (W_seq (W_region (WL_mv rfl rfl ?_))))
  refine WL_len ts44 rfl rfl fun hl6 => ?_
  refine WL_make tez50 rfl ⟨T1 rfl, T1 rfl, trivial⟩ (by omega) (by omega) (by omega) rfl fun b7 => ?_
  refine WL_as rfl rfl ?_
  refine WL_nil (Fin_then (W_seq (W_seq (W_region (WL_ac rfl ?_)))))
  refine WL_nil (Fin_then (W_block (W_loopp [0, 3] [0] [] [] (T := Nat) (fun k => k ≤ L.length) (fun k => [(4, true, A.int (k : Int))]) (fun k => { own := [(b7, 37, filled cFld [A.val (.int .i64 0), A.val (.int .i64 0), A.val (.bool false)] L k)], rooms := [], maps := [] }) (fun k => L.length - k) 0 (Nat.zero_le _) ⟨⟨rfl, _, rfl, (by first | exact Imp.refl | exact Imp.slv | exact Imp.nil | exact Imp.int (by omega) | exact Imp.int (by simp; done) | exact Imp.bool (by simp_all; done))⟩, trivial⟩ (.cons (AllImp.eq filled_zero.symm) OSub.nil) rfl rfl rfl (fun k hx => ?_))))
  have hfl := filled_len (f := cFld) (z := [A.val (.int .i64 0), A.val (.int .i64 0), A.val (.bool false)]) (k := 3) (L := L) (j := k) (fun _ => rfl) rfl (by omega)
  refine W_seq (W_seq (W_region (WL_mv rfl rfl ?_)))
  refine WL_mv rfl rfl ?_
  refine WL_len ts44 rfl rfl fun hl10 => ?_
  refine ws O_lss ⟨T1 rfl, T1 rfl, trivial⟩ ?_
  refine WL_nil (Fin_then (W_cond rfl (fun h0 => ?_) (fun h0 => ?_)))
  · skip
    try simp only [bl] at h0
    refine W_skip (Fin_then (W_seq (W_block (W_region (WL_mv rfl rfl ?_)))))
    refine WL_mv rfl rfl ?_
    refine WL_mv rfl rfl ?_
    refine WL_mv rfl rfl ?_
    refine ws (O_index ts44 (by omega)) ⟨T1 rfl, T1 rfl, trivial⟩ ?_
    refine ws (O_loadgw tg27 rfl) ⟨T1 rfl, trivial⟩ ?_
    refine ws (O_call cf15 (laws_toField _) rfl) ⟨T1 rfl, trivial⟩ ?_
    refine ws (O_indexo ts50 (by omega)) ⟨T1 rfl, T1 rfl, trivial⟩ ?_
    refine WL_store 0 rfl ⟨T1 rfl, T1 rfl, trivial⟩ (CellsOf.agg (by exact ⟨OneV.int, OneV.int, OneV.bool, trivial⟩)) sz37 (by rw [hfl]; (first | (show _ + 3 ≤ _; omega) | (simp; omega))) ?_
    refine WL_nil (Fin_block (Fin_then (W_region (WL_mv rfl rfl ?_))))
    refine ws (O_add (by omega)) ⟨T1 rfl, C1, trivial⟩ ?_
    refine WL_as rfl rfl ?_
    exact WL_nil (Fin_backp [0] (k + 1) (by omega) (by omega) ⟨⟨rfl, _, rfl, (by first | exact Imp.refl | exact Imp.slv | exact Imp.nil | exact Imp.int (by omega) | exact Imp.int (by simp; done) | exact Imp.bool (by simp_all; done))⟩, trivial⟩ ⟨rfl, rfl, trivial⟩ (.cons (AllImp.eq (filled_step (f := cFld) (z := [A.val (.int .i64 0), A.val (.int .i64 0), A.val (.bool false)]) L k (fun _ => rfl) rfl (by omega)).symm) OSub.nil) rfl (List.Sublist.refl _) rfl)
  try simp only [bl] at h0
  refine W_exit (Fin_then_exit (Fin_then_exit (Fin_block_exit (Fin_then (W_seq (W_region (WL_freezeSl (k := 3) (L := L) (f := cFld) (f' := cFld) 0 r [] (List.Mem.head _) rfl 3 rfl (by rw [filled_all (by omega)]; simp) (by first | rfl | simp | omega) (by omega) (by simp only [maxLen]; omega) (fun _ => rfl) (fun _ => ⟨NwI.val, NwI.val, NwI.val, trivial⟩) ?_)))))))
  refine WL_mv rfl rfl ?_
  refine WL_as rfl rfl ?_
  exact WL_nil (Fin_then (W_ret (RetC rfl (Res1 rfl (RV.tmp rfl Imp.refl)))))
set_option maxRecDepth 8000 in
theorem laws_toType (t : Ty) (hL : (bTy t) ≤ 1048576) : FnN Try.prog 91 [A.agg (cTy t)] (A.agg (cTy t)) := by
  have hu : bTy t = (t.fields.length) := rfl
  refine FnN_of_W Try.func91 rfl rfl fun r w => ?_
  refine W_seq (W_region (ws O_boxg ⟨T1 rfl, trivial⟩ ?_))
  refine WL_alloc tz145 rfl fun b2 => ?_
  refine WL_nil (Fin_then (W_seq (W_region (WL_alloc tz145 rfl fun b3 => ?_))))
  refine WL_nil (Fin_then (W_seq (W_region (ws (O_field tf142_0) ⟨T1 rfl, trivial⟩ ?_))))
  refine ws (O_load ta3) ⟨T1 rfl, trivial⟩ ?_
  refine ws (O_fieldv tf145_0) ⟨T1 rfl, trivial⟩ ?_
  refine WL_store 0 rfl ⟨T1 rfl, T1 rfl, trivial⟩ (CellsOf.one OneV.int) sz3 (Nat.le_of_ble_eq_true rfl) ?_
  refine WL_nil (Fin_then (W_seq (W_region (ws (O_field tf142_1) ⟨T1 rfl, trivial⟩ ?_))))
  refine ws (O_load ta3) ⟨T1 rfl, trivial⟩ ?_
  refine ws (O_fieldv tf145_1) ⟨T1 rfl, trivial⟩ ?_
  refine WL_store 0 rfl ⟨T1 rfl, T1 rfl, trivial⟩ (CellsOf.one OneV.int) sz3 (Nat.le_of_ble_eq_true rfl) ?_
  refine WL_nil (Fin_then (W_seq (W_region (ws (O_field tf142_2) ⟨T1 rfl, trivial⟩ ?_))))
  refine ws (O_load ta4) ⟨T1 rfl, trivial⟩ ?_
  refine ws (O_fieldv tf145_2) ⟨T1 rfl, trivial⟩ ?_
  refine WL_store 0 rfl ⟨T1 rfl, T1 rfl, trivial⟩ (CellsOf.one OneV.bool) sz4 (Nat.le_of_ble_eq_true rfl) ?_
  refine WL_nil (Fin_then (W_seq (W_region (ws (O_field tf142_3) ⟨T1 rfl, trivial⟩ ?_))))
  refine ws (O_load ta44) ⟨T1 rfl, trivial⟩ ?_
  refine ws (O_callN r (List.Mem.head _) cf59 (laws_toFieldS _ (by omega)) rfl) ⟨T1 rfl, trivial⟩ ?_
  refine ws (O_fieldv tf145_3) ⟨T1 rfl, trivial⟩ ?_
  refine WL_store 0 rfl ⟨T1 rfl, T1 rfl, trivial⟩ (CellsOf.one (OneV.nw OneV.sl)) sz50 (Nat.le_of_ble_eq_true rfl) ?_
  refine WL_nil (Fin_then (W_seq (W_region (ws (O_loadog 0 tg145 rfl (Nat.le_of_ble_eq_true rfl)) ⟨T1 rfl, trivial⟩ ?_))))
  refine WL_store 1 rfl ⟨T1 rfl, T1 rfl, trivial⟩ (CellsOf.agg (by exact ⟨OneV.int, OneV.int, OneV.bool, (OneV.nw OneV.sl), trivial⟩)) sz145 (Nat.le_of_ble_eq_true rfl) ?_
  exact WL_nil (Fin_then (W_ret (RetC rfl (Res1 rfl (RV.nw (List.Mem.head _) (RV.cellg 1 rfl tg145 rfl rfl Imp.refl) (NwI.agg ⟨NwI.val, NwI.val, NwI.val, NwI.nw, trivial⟩))))))
set_option maxRecDepth 8000 in
theorem laws_toTypeS (L : (List Ty)) (hL : (bTys L) ≤ 1048576) : FnN Try.prog 45 [A.sl 4 cTy L] (A.sl 4 cTy L) := by
  have hb := bulk_len (f := bTy) (L := L)
  have hu : (bTys L) = bulkL bTy L := rfl
  refine FnN_of_W Try.func45 rfl rfl fun r w => ?_
  refine W_seq (W_region (WL_ac rfl ?_))
  refine WL_nil (Fin_then (W_seq (W_region (WL_mv rfl rfl ?_))))
  refine WL_len ts74 rfl rfl fun hl6 => ?_
  refine WL_make tez82 rfl ⟨T1 rfl, T1 rfl, trivial⟩ (by omega) (by omega) (by omega) rfl fun b7 => ?_
  refine WL_as rfl rfl ?_
  refine WL_nil (Fin_then (W_seq (W_seq (W_region (WL_ac rfl ?_)))))
  refine WL_nil (Fin_then (W_block (W_loopp [0, 3] [0] [] [] (T := Nat) (fun k => k ≤ L.length) (fun k => [(4, true, A.int (k : Int))]) (fun k => { own := [(b7, 145, filled (fun y => (cTy y).map (A.nw r)) [A.val (.int .i64 0), A.val (.int .i64 0), A.val (.bool false), A.val (.slice none 0 0)] L k)], rooms := [], maps := [] }) (fun k => L.length - k) 0 (Nat.zero_le _) ⟨⟨rfl, _, rfl, (by first | exact Imp.refl | exact Imp.slv | exact Imp.nil | exact Imp.int (by omega) | exact Imp.int (by simp; done) | exact Imp.bool (by simp_all; done))⟩, trivial⟩ (.cons (AllImp.eq filled_zero.symm) OSub.nil) rfl rfl rfl (fun k hx => ?_))))
  have hfl := filled_len (f := (fun y => (cTy y).map (A.nw r))) (z := [A.val (.int .i64 0), A.val (.int .i64 0), A.val (.bool false), A.val (.slice none 0 0)]) (k := 4) (L := L) (j := k) (fun _ => rfl) rfl (by omega)
  have hbk : (k : Int) < L.length → bTy (idx L (k : Int)) ≤ bulkL bTy L := fun h => bulk_idx (by omega) h
  refine W_seq (W_seq (W_region (WL_mv rfl rfl ?_)))
  refine WL_mv rfl rfl ?_
  refine WL_len ts74 rfl rfl fun hl10 => ?_
  refine ws O_lss ⟨T1 rfl, T1 rfl, trivial⟩ ?_
  refine WL_nil (Fin_then (W_cond rfl (fun h0 => ?_) (fun h0 => ?_)))
  · skip
    try simp only [bl] at h0
    refine W_skip (Fin_then (W_seq (W_block (W_region (WL_mv rfl rfl ?_)))))
    refine WL_mv rfl rfl ?_
    refine WL_mv rfl rfl ?_
    refine WL_mv rfl rfl ?_
    refine ws (O_index ts74 (by omega)) ⟨T1 rfl, T1 rfl, trivial⟩ ?_
    refine ws (O_loadgw tg142 rfl) ⟨T1 rfl, trivial⟩ ?_
    refine ws (O_callN r (List.Mem.head _) cf91 (laws_toType _ (by omega)) rfl) ⟨T1 rfl, trivial⟩ ?_
    refine ws (O_indexo ts82 (by omega)) ⟨T1 rfl, T1 rfl, trivial⟩ ?_
    refine WL_store 0 rfl ⟨T1 rfl, T1 rfl, trivial⟩ (AllOne.nw (by exact ⟨OneV.int, OneV.int, OneV.bool, OneV.sl, trivial⟩)) sz145 (by rw [hfl]; (first | (show _ + 4 ≤ _; omega) | (simp; omega))) ?_
    refine WL_nil (Fin_block (Fin_then (W_region (WL_mv rfl rfl ?_))))
    refine ws (O_add (by omega)) ⟨T1 rfl, C1, trivial⟩ ?_
    refine WL_as rfl rfl ?_
    exact WL_nil (Fin_backp [0] (k + 1) (by omega) (by omega) ⟨⟨rfl, _, rfl, (by first | exact Imp.refl | exact Imp.slv | exact Imp.nil | exact Imp.int (by omega) | exact Imp.int (by simp; done) | exact Imp.bool (by simp_all; done))⟩, trivial⟩ ⟨rfl, rfl, trivial⟩ (.cons (AllImp.eq (filled_step (f := (fun y => (cTy y).map (A.nw r))) (z := [A.val (.int .i64 0), A.val (.int .i64 0), A.val (.bool false), A.val (.slice none 0 0)]) L k (fun _ => rfl) rfl (by omega)).symm) OSub.nil) rfl (List.Sublist.refl _) rfl)
  try simp only [bl] at h0
  refine W_exit (Fin_then_exit (Fin_then_exit (Fin_block_exit (Fin_then (W_seq (W_region (WL_freezeSl (k := 4) (L := L) (f := (fun y => (cTy y).map (A.nw r))) (f' := cTy) 0 r [] (List.Mem.head _) rfl 3 rfl (by rw [filled_all (by omega)]; simp) (by first | rfl | simp | omega) (by omega) (by simp only [maxLen]; omega) (fun _ => rfl) (fun _ => (AllNw.nws _)) ?_)))))))
  refine WL_mv rfl rfl ?_
  refine WL_as rfl rfl ?_
  exact WL_nil (Fin_then (W_ret (RetC rfl (Res1 rfl (RV.tmp rfl Imp.refl)))))
set_option maxRecDepth 8000 in
theorem laws_toTypeSS (L : (List (List Ty))) (hL : (bKin L) ≤ 1048576) : FnN Try.prog 12 [A.sl 1 cGrp L] (A.sl 1 cGrp L) := by
  have hb := bulk_len (f := bTys) (L := L)
  have hu : (bKin L) = bulkL bTys L := rfl
  refine FnN_of_W Try.func12 rfl rfl fun r w => ?_
  refine W_seq (W_region (WL_ac rfl ?_))
  refine WL_nil (Fin_then (W_seq (W_region (WL_mv rfl rfl ?_))))
  refine WL_len ts22 rfl rfl fun hl6 => ?_
  refine WL_make tez31 rfl ⟨T1 rfl, T1 rfl, trivial⟩ (by omega) (by omega) (by omega) rfl fun b7 => ?_
  refine WL_as rfl rfl ?_
  refine WL_nil (Fin_then (W_seq (W_seq (W_region (WL_ac rfl ?_)))))
  refine WL_nil (Fin_then (W_block (W_loopp [0, 3] [0] [] [] (T := Nat) (fun k => k ≤ L.length) (fun k => [(4, true, A.int (k : Int))]) (fun k => { own := [(b7, 82, filled (fun y => (cGrp y).map (A.nw r)) [A.val (.slice none 0 0)] L k)], rooms := [], maps := [] }) (fun k => L.length - k) 0 (Nat.zero_le _) ⟨⟨rfl, _, rfl, (by first | exact Imp.refl | exact Imp.slv | exact Imp.nil | exact Imp.int (by omega) | exact Imp.int (by simp; done) | exact Imp.bool (by simp_all; done))⟩, trivial⟩ (.cons (AllImp.eq filled_zero.symm) OSub.nil) rfl rfl rfl (fun k hx => ?_))))
  have hfl := filled_len (f := (fun y => (cGrp y).map (A.nw r))) (z := [A.val (.slice none 0 0)]) (k := 1) (L := L) (j := k) (fun _ => rfl) rfl (by omega)
  have hbk : (k : Int) < L.length → bTys (idx L (k : Int)) ≤ bulkL bTys L := fun h => bulk_idx (by omega) h
  refine W_seq (W_seq (W_region (WL_mv rfl rfl ?_)))
  refine WL_mv rfl rfl ?_
  refine WL_len ts22 rfl rfl fun hl10 => ?_
  refine ws O_lss ⟨T1 rfl, T1 rfl, trivial⟩ ?_
  refine WL_nil (Fin_then (W_cond rfl (fun h0 => ?_) (fun h0 => ?_)))
  · skip
    try simp only [bl] at h0
    refine W_skip (Fin_then (W_seq (W_block (W_region (WL_mv rfl rfl ?_)))))
    refine WL_mv rfl rfl ?_
    refine WL_mv rfl rfl ?_
    refine WL_mv rfl rfl ?_
    refine ws (O_index ts22 (by omega)) ⟨T1 rfl, T1 rfl, trivial⟩ ?_
    refine ws (O_load ta74) ⟨T1 rfl, trivial⟩ ?_
    refine ws (O_callN r (List.Mem.head _) cf45 (laws_toTypeS _ (by omega)) rfl) ⟨T1 rfl, trivial⟩ ?_
    refine ws (O_indexo ts31 (by omega)) ⟨T1 rfl, T1 rfl, trivial⟩ ?_
    refine WL_store 0 rfl ⟨T1 rfl, T1 rfl, trivial⟩ (CellsOf.one (OneV.nw OneV.sl)) sz82 (by rw [hfl]; (first | (show _ + 1 ≤ _; omega) | (simp; omega))) ?_
    refine WL_nil (Fin_block (Fin_then (W_region (WL_mv rfl rfl ?_))))
    refine ws (O_add (by omega)) ⟨T1 rfl, C1, trivial⟩ ?_
    refine WL_as rfl rfl ?_
    exact WL_nil (Fin_backp [0] (k + 1) (by omega) (by omega) ⟨⟨rfl, _, rfl, (by first | exact Imp.refl | exact Imp.slv | exact Imp.nil | exact Imp.int (by omega) | exact Imp.int (by simp; done) | exact Imp.bool (by simp_all; done))⟩, trivial⟩ ⟨rfl, rfl, trivial⟩ (.cons (AllImp.eq (filled_step (f := (fun y => (cGrp y).map (A.nw r))) (z := [A.val (.slice none 0 0)]) L k (fun _ => rfl) rfl (by omega)).symm) OSub.nil) rfl (List.Sublist.refl _) rfl)
  try simp only [bl] at h0
  refine W_exit (Fin_then_exit (Fin_then_exit (Fin_block_exit (Fin_then (W_seq (W_region (WL_freezeSl (k := 1) (L := L) (f := (fun y => (cGrp y).map (A.nw r))) (f' := cGrp) 0 r [] (List.Mem.head _) rfl 3 rfl (by rw [filled_all (by omega)]; simp) (by first | rfl | simp | omega) (by omega) (by simp only [maxLen]; omega) (fun _ => rfl) (fun _ => (AllNw.nws _)) ?_)))))))
  refine WL_mv rfl rfl ?_
  refine WL_as rfl rfl ?_
  exact WL_nil (Fin_then (W_ret (RetC rfl (Res1 rfl (RV.tmp rfl Imp.refl)))))
set_option maxRecDepth 8000 in
theorem laws_eqIntS (L M : (List Int)) : FnC Try.prog 81 [A.sl 1 cInt L, A.sl 1 cInt M] (A.bool (decide (L = M))) := by
  refine Fn_of_W Try.func81 rfl rfl fun r w => ?_
  refine W_seq (W_region (WL_ac rfl ?_))
  refine WL_nil (Fin_then (W_seq (W_seq (W_region (WL_mv rfl rfl ?_)))))
  refine WL_len ts62 rfl rfl fun hl7 => ?_
  refine WL_mv rfl rfl ?_
  refine WL_len ts62 rfl rfl fun hl9 => ?_
  refine ws O_neq ⟨T1 rfl, T1 rfl, trivial⟩ ?_
  refine WL_nil (Fin_then (W_cond rfl (fun h0 => ?_) (fun h0 => ?_)))
  · skip
    try simp only [bl] at h0
    have hne : L ≠ M := fun e => by subst e; simp at h0
    refine W_seq (W_region (WL_ac rfl ?_))
    exact WL_nil (Fin_then (W_ret (Fin_then_ret (RetC rfl (Res1 rfl (RV.tmp rfl (Imp.bool (by simp [hne]))))))))
  try simp only [bl] at h0
  have hlen : L.length = M.length := by omega
  refine W_skip (Fin_then (W_seq (W_seq (W_region (WL_ac rfl ?_)))))
  refine WL_nil (Fin_then (W_block (W_loopk [0, 1] (T := Nat) (fun k => k ≤ L.length ∧ ∀ j, j < k → idx L (j : Int) = idx M (j : Int)) (fun k => [(5, true, A.int (k : Int))]) (fun k => L.length - k) 0 ⟨Nat.zero_le _, fun j h => by omega⟩ ⟨⟨rfl, _, rfl, (by first | exact Imp.refl | exact Imp.slv | exact Imp.nil | exact Imp.int (by omega) | exact Imp.int (by simp; done) | exact Imp.bool (by simp_all; done))⟩, trivial⟩ (fun k hx => ?_))))
  have hk := hx.1
  refine W_seq (W_seq (W_region (WL_mv rfl rfl ?_)))
  refine WL_mv rfl rfl ?_
  refine WL_len ts62 rfl rfl fun hl13 => ?_
  refine ws O_lss ⟨T1 rfl, T1 rfl, trivial⟩ ?_
  refine WL_nil (Fin_then (W_cond rfl (fun h1 => ?_) (fun h1 => ?_)))
  · skip
    try simp only [bl] at h1
    refine W_skip (Fin_then (W_seq (W_block (W_seq (W_draw 9 mix rfl rfl ?_)))))
    refine cs O_move ⟨T1 rfl, trivial⟩ ?_
    refine cs O_move ⟨T1 rfl, trivial⟩ ?_
    refine cs (O_index ts62 (by omega)) ⟨T1 rfl, T1 rfl, trivial⟩ ?_
    refine cs (O_load ta3) ⟨T1 rfl, trivial⟩ ?_
    refine cs O_move ⟨T1 rfl, trivial⟩ ?_
    refine cs O_move ⟨T1 rfl, trivial⟩ ?_
    refine cs (O_index ts62 (by omega)) ⟨T1 rfl, T1 rfl, trivial⟩ ?_
    refine cs (O_load ta3) ⟨T1 rfl, trivial⟩ ?_
    refine cs O_neq ⟨T1 rfl, T1 rfl, trivial⟩ ?_
    refine Chain_nil ?_
    refine WL_nil (Fin_then (W_cond rfl (fun h2 => ?_) (fun h2 => ?_)))
    · skip
      try simp only [bl] at h2
      refine W_seq (W_region (WL_ac rfl ?_))
      exact WL_nil (Fin_then (W_ret (Fin_block_ret (Fin_then_ret (Fin_then_ret (Fin_block_ret (Fin_then_ret (RetC rfl (Res1 rfl (RV.tmp rfl (Imp.bool (by simp [list_ne_of k h2]))))))))))))
    try simp only [bl] at h2
    refine W_skip (Fin_block (Fin_then (W_region (WL_mv rfl rfl ?_))))
    refine ws (O_add (by omega)) ⟨T1 rfl, C1, trivial⟩ ?_
    refine WL_as rfl rfl ?_
    exact WL_nil (Fin_back (k + 1) ⟨by omega, fun j hj => by rcases Nat.lt_or_ge j k with q | q; exact hx.2 j q; rw [show j = k from by omega]; exact h2⟩ (by omega) ⟨⟨rfl, _, rfl, (by first | exact Imp.refl | exact Imp.slv | exact Imp.nil | exact Imp.int (by omega) | exact Imp.int (by simp; done) | exact Imp.bool (by simp_all; done))⟩, trivial⟩ ⟨rfl, rfl, trivial⟩ rfl rfl)
  try simp only [bl] at h1
  refine W_exit (Fin_then_exit (Fin_then_exit (Fin_block_exit (Fin_then (W_seq (W_region (WL_ac rfl ?_)))))))
  exact WL_nil (Fin_then (W_ret (RetC rfl (Res1 rfl (RV.tmp rfl (Imp.bool (by simp [list_eq_of hlen (fun j hj => hx.2 j (by omega))])))))))
set_option maxRecDepth 8000 in
theorem laws_eqField (t u : Fld) : FnC Try.prog 69 [A.agg (cFld t), A.agg (cFld u)] (A.bool (decide (t = u))) := by
  refine Fn_of_W Try.func69 rfl rfl fun r w => ?_
  refine W_seq (W_region (ws O_boxg ⟨T1 rfl, trivial⟩ ?_))
  refine ws O_boxg ⟨T1 rfl, trivial⟩ ?_
  refine WL_ac rfl ?_
  refine WL_nil (Fin_then (W_seq (W_seq (W_region (ws (O_field tf37_0) ⟨T1 rfl, trivial⟩ ?_)))))
  refine ws (O_load ta3) ⟨T1 rfl, trivial⟩ ?_
  refine ws (O_field tf37_0) ⟨T1 rfl, trivial⟩ ?_
  refine ws (O_load ta3) ⟨T1 rfl, trivial⟩ ?_
  refine ws O_neq ⟨T1 rfl, T1 rfl, trivial⟩ ?_
  refine WL_nil (Fin_then (W_cond rfl (fun h0 => ?_) (fun h0 => ?_)))
  · skip
    try simp only [bl] at h0
    refine W_seq (W_region (WL_ac rfl ?_))
    exact WL_nil (Fin_then (W_ret (Fin_then_ret (RetC rfl (Res1 rfl (RV.tmp rfl (Imp.bool (by simp only [Fld.eqs]; grind))))))))
  try simp only [bl] at h0
  refine W_skip (Fin_then (W_seq (W_seq (W_region (ws (O_field tf37_1) ⟨T1 rfl, trivial⟩ ?_)))))
  refine ws (O_load ta3) ⟨T1 rfl, trivial⟩ ?_
  refine ws (O_field tf37_1) ⟨T1 rfl, trivial⟩ ?_
  refine ws (O_load ta3) ⟨T1 rfl, trivial⟩ ?_
  refine ws O_neq ⟨T1 rfl, T1 rfl, trivial⟩ ?_
  refine WL_nil (Fin_then (W_cond rfl (fun h1 => ?_) (fun h1 => ?_)))
  · skip
    try simp only [bl] at h1
    refine W_seq (W_region (WL_ac rfl ?_))
    exact WL_nil (Fin_then (W_ret (Fin_then_ret (RetC rfl (Res1 rfl (RV.tmp rfl (Imp.bool (by simp only [Fld.eqs]; grind))))))))
  try simp only [bl] at h1
  refine W_skip (Fin_then (W_seq (W_seq (W_region (ws (O_field tf37_2) ⟨T1 rfl, trivial⟩ ?_)))))
  refine ws (O_load ta4) ⟨T1 rfl, trivial⟩ ?_
  refine ws (O_field tf37_2) ⟨T1 rfl, trivial⟩ ?_
  refine ws (O_load ta4) ⟨T1 rfl, trivial⟩ ?_
  refine ws (O_neb ub4) ⟨T1 rfl, T1 rfl, trivial⟩ ?_
  refine WL_nil (Fin_then (W_cond rfl (fun h2 => ?_) (fun h2 => ?_)))
  · skip
    try simp only [bl] at h2
    refine W_seq (W_region (WL_ac rfl ?_))
    exact WL_nil (Fin_then (W_ret (Fin_then_ret (RetC rfl (Res1 rfl (RV.tmp rfl (Imp.bool (by simp only [Fld.eqs]; grind))))))))
  try simp only [bl] at h2
  refine W_skip (Fin_then (W_seq (W_region (WL_ac rfl ?_))))
  exact WL_nil (Fin_then (W_ret (RetC rfl (Res1 rfl (RV.tmp rfl (Imp.bool (by simp only [Fld.eqs]; grind)))))))
set_option maxRecDepth 8000 in
theorem laws_eqFieldS (L M : (List Fld)) : FnC Try.prog 28 [A.sl 3 cFld L, A.sl 3 cFld M] (A.bool (decide (L = M))) := by
  refine Fn_of_W Try.func28 rfl rfl fun r w => ?_
  refine W_seq (W_region (WL_ac rfl ?_))
  refine WL_nil (Fin_then (W_seq (W_seq (W_region (WL_mv rfl rfl ?_)))))
  refine WL_len ts50 rfl rfl fun hl7 => ?_
  refine WL_mv rfl rfl ?_
  refine WL_len ts50 rfl rfl fun hl9 => ?_
  refine ws O_neq ⟨T1 rfl, T1 rfl, trivial⟩ ?_
  refine WL_nil (Fin_then (W_cond rfl (fun h0 => ?_) (fun h0 => ?_)))
  · skip
    try simp only [bl] at h0
    have hne : L ≠ M := fun e => by subst e; simp at h0
    refine W_seq (W_region (WL_ac rfl ?_))
    exact WL_nil (Fin_then (W_ret (Fin_then_ret (RetC rfl (Res1 rfl (RV.tmp rfl (Imp.bool (by simp [hne]))))))))
  try simp only [bl] at h0
  have hlen : L.length = M.length := by omega
  refine W_skip (Fin_then (W_seq (W_seq (W_region (WL_ac rfl ?_)))))
  refine WL_nil (Fin_then (W_block (W_loopk [0, 1] (T := Nat) (fun k => k ≤ L.length ∧ ∀ j, j < k → idx L (j : Int) = idx M (j : Int)) (fun k => [(5, true, A.int (k : Int))]) (fun k => L.length - k) 0 ⟨Nat.zero_le _, fun j h => by omega⟩ ⟨⟨rfl, _, rfl, (by first | exact Imp.refl | exact Imp.slv | exact Imp.nil | exact Imp.int (by omega) | exact Imp.int (by simp; done) | exact Imp.bool (by simp_all; done))⟩, trivial⟩ (fun k hx => ?_))))
  have hk := hx.1
  refine W_seq (W_seq (W_region (WL_mv rfl rfl ?_)))
  refine WL_mv rfl rfl ?_
  refine WL_len ts50 rfl rfl fun hl13 => ?_
  refine ws O_lss ⟨T1 rfl, T1 rfl, trivial⟩ ?_
  refine WL_nil (Fin_then (W_cond rfl (fun h1 => ?_) (fun h1 => ?_)))
  · skip
    try simp only [bl] at h1
    refine W_skip (Fin_then (W_seq (W_block (W_seq (W_draw 10 mix rfl rfl ?_)))))
    refine cs O_move ⟨T1 rfl, trivial⟩ ?_
    refine cs O_move ⟨T1 rfl, trivial⟩ ?_
    refine cs (O_index ts50 (by omega)) ⟨T1 rfl, T1 rfl, trivial⟩ ?_
    refine cs (O_loadgw tg37 rfl) ⟨T1 rfl, trivial⟩ ?_
    refine cs O_move ⟨T1 rfl, trivial⟩ ?_
    refine cs O_move ⟨T1 rfl, trivial⟩ ?_
    refine cs (O_index ts50 (by omega)) ⟨T1 rfl, T1 rfl, trivial⟩ ?_
    refine cs (O_loadgw tg37 rfl) ⟨T1 rfl, trivial⟩ ?_
    refine cs (O_call cf69 (laws_eqField _ _) rfl) ⟨T1 rfl, T1 rfl, trivial⟩ ?_
    refine cs O_not ⟨T1 rfl, trivial⟩ ?_
    refine Chain_nil ?_
    refine WL_nil (Fin_then (W_cond rfl (fun h2 => ?_) (fun h2 => ?_)))
    · skip
      try simp only [bl] at h2
      refine W_seq (W_region (WL_ac rfl ?_))
      exact WL_nil (Fin_then (W_ret (Fin_block_ret (Fin_then_ret (Fin_then_ret (Fin_block_ret (Fin_then_ret (RetC rfl (Res1 rfl (RV.tmp rfl (Imp.bool (by simp [list_ne_of k h2]))))))))))))
    try simp only [bl] at h2
    refine W_skip (Fin_block (Fin_then (W_region (WL_mv rfl rfl ?_))))
    refine ws (O_add (by omega)) ⟨T1 rfl, C1, trivial⟩ ?_
    refine WL_as rfl rfl ?_
    exact WL_nil (Fin_back (k + 1) ⟨by omega, fun j hj => by rcases Nat.lt_or_ge j k with q | q; exact hx.2 j q; rw [show j = k from by omega]; exact h2⟩ (by omega) ⟨⟨rfl, _, rfl, (by first | exact Imp.refl | exact Imp.slv | exact Imp.nil | exact Imp.int (by omega) | exact Imp.int (by simp; done) | exact Imp.bool (by simp_all; done))⟩, trivial⟩ ⟨rfl, rfl, trivial⟩ rfl rfl)
  try simp only [bl] at h1
  refine W_exit (Fin_then_exit (Fin_then_exit (Fin_block_exit (Fin_then (W_seq (W_region (WL_ac rfl ?_)))))))
  exact WL_nil (Fin_then (W_ret (RetC rfl (Res1 rfl (RV.tmp rfl (Imp.bool (by simp [list_eq_of hlen (fun j hj => hx.2 j (by omega))])))))))
set_option maxRecDepth 8000 in
theorem laws_eqType (t u : Ty) : FnC Try.prog 104 [A.agg (cTy t), A.agg (cTy u)] (A.bool (decide (t = u))) := by
  refine Fn_of_W Try.func104 rfl rfl fun r w => ?_
  refine W_seq (W_region (ws O_boxg ⟨T1 rfl, trivial⟩ ?_))
  refine ws O_boxg ⟨T1 rfl, trivial⟩ ?_
  refine WL_ac rfl ?_
  refine WL_nil (Fin_then (W_seq (W_seq (W_region (ws (O_field tf145_0) ⟨T1 rfl, trivial⟩ ?_)))))
  refine ws (O_load ta3) ⟨T1 rfl, trivial⟩ ?_
  refine ws (O_field tf145_0) ⟨T1 rfl, trivial⟩ ?_
  refine ws (O_load ta3) ⟨T1 rfl, trivial⟩ ?_
  refine ws O_neq ⟨T1 rfl, T1 rfl, trivial⟩ ?_
  refine WL_nil (Fin_then (W_cond rfl (fun h0 => ?_) (fun h0 => ?_)))
  · skip
    try simp only [bl] at h0
    refine W_seq (W_region (WL_ac rfl ?_))
    exact WL_nil (Fin_then (W_ret (Fin_then_ret (RetC rfl (Res1 rfl (RV.tmp rfl (Imp.bool (by simp only [Ty.eqs]; grind))))))))
  try simp only [bl] at h0
  refine W_skip (Fin_then (W_seq (W_seq (W_region (ws (O_field tf145_1) ⟨T1 rfl, trivial⟩ ?_)))))
  refine ws (O_load ta3) ⟨T1 rfl, trivial⟩ ?_
  refine ws (O_field tf145_1) ⟨T1 rfl, trivial⟩ ?_
  refine ws (O_load ta3) ⟨T1 rfl, trivial⟩ ?_
  refine ws O_neq ⟨T1 rfl, T1 rfl, trivial⟩ ?_
  refine WL_nil (Fin_then (W_cond rfl (fun h1 => ?_) (fun h1 => ?_)))
  · skip
    try simp only [bl] at h1
    refine W_seq (W_region (WL_ac rfl ?_))
    exact WL_nil (Fin_then (W_ret (Fin_then_ret (RetC rfl (Res1 rfl (RV.tmp rfl (Imp.bool (by simp only [Ty.eqs]; grind))))))))
  try simp only [bl] at h1
  refine W_skip (Fin_then (W_seq (W_seq (W_region (ws (O_field tf145_2) ⟨T1 rfl, trivial⟩ ?_)))))
  refine ws (O_load ta4) ⟨T1 rfl, trivial⟩ ?_
  refine ws (O_field tf145_2) ⟨T1 rfl, trivial⟩ ?_
  refine ws (O_load ta4) ⟨T1 rfl, trivial⟩ ?_
  refine ws (O_neb ub4) ⟨T1 rfl, T1 rfl, trivial⟩ ?_
  refine WL_nil (Fin_then (W_cond rfl (fun h2 => ?_) (fun h2 => ?_)))
  · skip
    try simp only [bl] at h2
    refine W_seq (W_region (WL_ac rfl ?_))
    exact WL_nil (Fin_then (W_ret (Fin_then_ret (RetC rfl (Res1 rfl (RV.tmp rfl (Imp.bool (by simp only [Ty.eqs]; grind))))))))
  try simp only [bl] at h2
  refine W_skip (Fin_then (W_seq (W_seq (W_region (ws (O_field tf145_3) ⟨T1 rfl, trivial⟩ ?_)))))
  refine ws (O_load ta50) ⟨T1 rfl, trivial⟩ ?_
  refine ws (O_field tf145_3) ⟨T1 rfl, trivial⟩ ?_
  refine ws (O_load ta50) ⟨T1 rfl, trivial⟩ ?_
  refine ws (O_call cf28 (laws_eqFieldS _ _) rfl) ⟨T1 rfl, T1 rfl, trivial⟩ ?_
  refine ws O_not ⟨T1 rfl, trivial⟩ ?_
  refine WL_nil (Fin_then (W_cond rfl (fun h3 => ?_) (fun h3 => ?_)))
  · skip
    try simp only [bl] at h3
    refine W_seq (W_region (WL_ac rfl ?_))
    exact WL_nil (Fin_then (W_ret (Fin_then_ret (RetC rfl (Res1 rfl (RV.tmp rfl (Imp.bool (by simp only [Ty.eqs]; grind))))))))
  try simp only [bl] at h3
  refine W_skip (Fin_then (W_seq (W_region (WL_ac rfl ?_))))
  exact WL_nil (Fin_then (W_ret (RetC rfl (Res1 rfl (RV.tmp rfl (Imp.bool (by simp only [Ty.eqs]; grind)))))))
set_option maxRecDepth 8000 in
theorem laws_eqTypeS (L M : (List Ty)) : FnC Try.prog 50 [A.sl 4 cTy L, A.sl 4 cTy M] (A.bool (decide (L = M))) := by
  refine Fn_of_W Try.func50 rfl rfl fun r w => ?_
  refine W_seq (W_region (WL_ac rfl ?_))
  refine WL_nil (Fin_then (W_seq (W_seq (W_region (WL_mv rfl rfl ?_)))))
  refine WL_len ts82 rfl rfl fun hl7 => ?_
  refine WL_mv rfl rfl ?_
  refine WL_len ts82 rfl rfl fun hl9 => ?_
  refine ws O_neq ⟨T1 rfl, T1 rfl, trivial⟩ ?_
  refine WL_nil (Fin_then (W_cond rfl (fun h0 => ?_) (fun h0 => ?_)))
  · skip
    try simp only [bl] at h0
    have hne : L ≠ M := fun e => by subst e; simp at h0
    refine W_seq (W_region (WL_ac rfl ?_))
    exact WL_nil (Fin_then (W_ret (Fin_then_ret (RetC rfl (Res1 rfl (RV.tmp rfl (Imp.bool (by simp [hne]))))))))
  try simp only [bl] at h0
  have hlen : L.length = M.length := by omega
  refine W_skip (Fin_then (W_seq (W_seq (W_region (WL_ac rfl ?_)))))
  refine WL_nil (Fin_then (W_block (W_loopk [0, 1] (T := Nat) (fun k => k ≤ L.length ∧ ∀ j, j < k → idx L (j : Int) = idx M (j : Int)) (fun k => [(5, true, A.int (k : Int))]) (fun k => L.length - k) 0 ⟨Nat.zero_le _, fun j h => by omega⟩ ⟨⟨rfl, _, rfl, (by first | exact Imp.refl | exact Imp.slv | exact Imp.nil | exact Imp.int (by omega) | exact Imp.int (by simp; done) | exact Imp.bool (by simp_all; done))⟩, trivial⟩ (fun k hx => ?_))))
  have hk := hx.1
  refine W_seq (W_seq (W_region (WL_mv rfl rfl ?_)))
  refine WL_mv rfl rfl ?_
  refine WL_len ts82 rfl rfl fun hl13 => ?_
  refine ws O_lss ⟨T1 rfl, T1 rfl, trivial⟩ ?_
  refine WL_nil (Fin_then (W_cond rfl (fun h1 => ?_) (fun h1 => ?_)))
  · skip
    try simp only [bl] at h1
    refine W_skip (Fin_then (W_seq (W_block (W_seq (W_draw 10 mix rfl rfl ?_)))))
    refine cs O_move ⟨T1 rfl, trivial⟩ ?_
    refine cs O_move ⟨T1 rfl, trivial⟩ ?_
    refine cs (O_index ts82 (by omega)) ⟨T1 rfl, T1 rfl, trivial⟩ ?_
    refine cs (O_loadgw tg145 rfl) ⟨T1 rfl, trivial⟩ ?_
    refine cs O_move ⟨T1 rfl, trivial⟩ ?_
    refine cs O_move ⟨T1 rfl, trivial⟩ ?_
    refine cs (O_index ts82 (by omega)) ⟨T1 rfl, T1 rfl, trivial⟩ ?_
    refine cs (O_loadgw tg145 rfl) ⟨T1 rfl, trivial⟩ ?_
    refine cs (O_call cf104 (laws_eqType _ _) rfl) ⟨T1 rfl, T1 rfl, trivial⟩ ?_
    refine cs O_not ⟨T1 rfl, trivial⟩ ?_
    refine Chain_nil ?_
    refine WL_nil (Fin_then (W_cond rfl (fun h2 => ?_) (fun h2 => ?_)))
    · skip
      try simp only [bl] at h2
      refine W_seq (W_region (WL_ac rfl ?_))
      exact WL_nil (Fin_then (W_ret (Fin_block_ret (Fin_then_ret (Fin_then_ret (Fin_block_ret (Fin_then_ret (RetC rfl (Res1 rfl (RV.tmp rfl (Imp.bool (by simp [list_ne_of k h2]))))))))))))
    try simp only [bl] at h2
    refine W_skip (Fin_block (Fin_then (W_region (WL_mv rfl rfl ?_))))
    refine ws (O_add (by omega)) ⟨T1 rfl, C1, trivial⟩ ?_
    refine WL_as rfl rfl ?_
    exact WL_nil (Fin_back (k + 1) ⟨by omega, fun j hj => by rcases Nat.lt_or_ge j k with q | q; exact hx.2 j q; rw [show j = k from by omega]; exact h2⟩ (by omega) ⟨⟨rfl, _, rfl, (by first | exact Imp.refl | exact Imp.slv | exact Imp.nil | exact Imp.int (by omega) | exact Imp.int (by simp; done) | exact Imp.bool (by simp_all; done))⟩, trivial⟩ ⟨rfl, rfl, trivial⟩ rfl rfl)
  try simp only [bl] at h1
  refine W_exit (Fin_then_exit (Fin_then_exit (Fin_block_exit (Fin_then (W_seq (W_region (WL_ac rfl ?_)))))))
  exact WL_nil (Fin_then (W_ret (RetC rfl (Res1 rfl (RV.tmp rfl (Imp.bool (by simp [list_eq_of hlen (fun j hj => hx.2 j (by omega))])))))))
set_option maxRecDepth 8000 in
theorem laws_eqTypeSS (L M : (List (List Ty))) : FnC Try.prog 17 [A.sl 1 cGrp L, A.sl 1 cGrp M] (A.bool (decide (L = M))) := by
  refine Fn_of_W Try.func17 rfl rfl fun r w => ?_
  refine W_seq (W_region (WL_ac rfl ?_))
  refine WL_nil (Fin_then (W_seq (W_seq (W_region (WL_mv rfl rfl ?_)))))
  refine WL_len ts31 rfl rfl fun hl7 => ?_
  refine WL_mv rfl rfl ?_
  refine WL_len ts31 rfl rfl fun hl9 => ?_
  refine ws O_neq ⟨T1 rfl, T1 rfl, trivial⟩ ?_
  refine WL_nil (Fin_then (W_cond rfl (fun h0 => ?_) (fun h0 => ?_)))
  · skip
    try simp only [bl] at h0
    have hne : L ≠ M := fun e => by subst e; simp at h0
    refine W_seq (W_region (WL_ac rfl ?_))
    exact WL_nil (Fin_then (W_ret (Fin_then_ret (RetC rfl (Res1 rfl (RV.tmp rfl (Imp.bool (by simp [hne]))))))))
  try simp only [bl] at h0
  have hlen : L.length = M.length := by omega
  refine W_skip (Fin_then (W_seq (W_seq (W_region (WL_ac rfl ?_)))))
  refine WL_nil (Fin_then (W_block (W_loopk [0, 1] (T := Nat) (fun k => k ≤ L.length ∧ ∀ j, j < k → idx L (j : Int) = idx M (j : Int)) (fun k => [(5, true, A.int (k : Int))]) (fun k => L.length - k) 0 ⟨Nat.zero_le _, fun j h => by omega⟩ ⟨⟨rfl, _, rfl, (by first | exact Imp.refl | exact Imp.slv | exact Imp.nil | exact Imp.int (by omega) | exact Imp.int (by simp; done) | exact Imp.bool (by simp_all; done))⟩, trivial⟩ (fun k hx => ?_))))
  have hk := hx.1
  refine W_seq (W_seq (W_region (WL_mv rfl rfl ?_)))
  refine WL_mv rfl rfl ?_
  refine WL_len ts31 rfl rfl fun hl13 => ?_
  refine ws O_lss ⟨T1 rfl, T1 rfl, trivial⟩ ?_
  refine WL_nil (Fin_then (W_cond rfl (fun h1 => ?_) (fun h1 => ?_)))
  · skip
    try simp only [bl] at h1
    refine W_skip (Fin_then (W_seq (W_block (W_seq (W_draw 10 mix rfl rfl ?_)))))
    refine cs O_move ⟨T1 rfl, trivial⟩ ?_
    refine cs O_move ⟨T1 rfl, trivial⟩ ?_
    refine cs (O_index ts31 (by omega)) ⟨T1 rfl, T1 rfl, trivial⟩ ?_
    refine cs (O_load ta82) ⟨T1 rfl, trivial⟩ ?_
    refine cs O_move ⟨T1 rfl, trivial⟩ ?_
    refine cs O_move ⟨T1 rfl, trivial⟩ ?_
    refine cs (O_index ts31 (by omega)) ⟨T1 rfl, T1 rfl, trivial⟩ ?_
    refine cs (O_load ta82) ⟨T1 rfl, trivial⟩ ?_
    refine cs (O_call cf50 (laws_eqTypeS _ _) rfl) ⟨T1 rfl, T1 rfl, trivial⟩ ?_
    refine cs O_not ⟨T1 rfl, trivial⟩ ?_
    refine Chain_nil ?_
    refine WL_nil (Fin_then (W_cond rfl (fun h2 => ?_) (fun h2 => ?_)))
    · skip
      try simp only [bl] at h2
      refine W_seq (W_region (WL_ac rfl ?_))
      exact WL_nil (Fin_then (W_ret (Fin_block_ret (Fin_then_ret (Fin_then_ret (Fin_block_ret (Fin_then_ret (RetC rfl (Res1 rfl (RV.tmp rfl (Imp.bool (by simp [list_ne_of k h2]))))))))))))
    try simp only [bl] at h2
    refine W_skip (Fin_block (Fin_then (W_region (WL_mv rfl rfl ?_))))
    refine ws (O_add (by omega)) ⟨T1 rfl, C1, trivial⟩ ?_
    refine WL_as rfl rfl ?_
    exact WL_nil (Fin_back (k + 1) ⟨by omega, fun j hj => by rcases Nat.lt_or_ge j k with q | q; exact hx.2 j q; rw [show j = k from by omega]; exact h2⟩ (by omega) ⟨⟨rfl, _, rfl, (by first | exact Imp.refl | exact Imp.slv | exact Imp.nil | exact Imp.int (by omega) | exact Imp.int (by simp; done) | exact Imp.bool (by simp_all; done))⟩, trivial⟩ ⟨rfl, rfl, trivial⟩ rfl rfl)
  try simp only [bl] at h1
  refine W_exit (Fin_then_exit (Fin_then_exit (Fin_block_exit (Fin_then (W_seq (W_region (WL_ac rfl ?_)))))))
  exact WL_nil (Fin_then (W_ret (RetC rfl (Res1 rfl (RV.tmp rfl (Imp.bool (by simp [list_eq_of hlen (fun j hj => hx.2 j (by omega))])))))))
end Go.Proofs.Ytfjggobjijeniaa
