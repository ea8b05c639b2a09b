import Derived.Test.YtilddfgifjejbaaRows
import Derived.Test.YtilddfgifjejbaaCal6
import Derived.Test.YtilddfgifjejbaaPure1
namespace Go.Proofs.Ytilddfgifjejbaa.A2
open Go Go.RowKit Go.L
theorem mix : Try.prog.follows .mixedOrders = true := by kernel_rfl
theorem cf50 : CallF Try.prog 50 := fun w vs => by kernel_rfl
theorem cf52 : CallF Try.prog 52 := fun w vs => by kernel_rfl
theorem cf53 : CallF Try.prog 53 := fun w vs => by kernel_rfl
theorem cf70 : CallF Try.prog 70 := fun w vs => by kernel_rfl
theorem cf72 : CallF Try.prog 72 := fun w vs => by kernel_rfl
theorem cf73 : CallF Try.prog 73 := fun w vs => by kernel_rfl
theorem cf86 : CallF Try.prog 86 := fun w vs => by kernel_rfl
theorem cf87 : CallF Try.prog 87 := fun w vs => by kernel_rfl
theorem cf88 : CallF Try.prog 88 := fun w vs => by kernel_rfl
theorem cf95 : CallF Try.prog 95 := fun w vs => by kernel_rfl
theorem cf96 : CallF Try.prog 96 := fun w vs => by kernel_rfl
theorem sz27 : sizeAt Try.prog 27 = some 1 := by kernel_rfl
theorem sz29 : sizeAt Try.prog 29 = some 4 := by kernel_rfl
theorem sz3 : sizeAt Try.prog 3 = some 1 := by kernel_rfl
theorem sz33 : sizeAt Try.prog 33 = some 3 := by kernel_rfl
theorem sz38 : sizeAt Try.prog 38 = some 1 := by kernel_rfl
theorem sz4 : sizeAt Try.prog 4 = some 1 := by kernel_rfl
theorem ta27 : TA Try.prog 27 := by unfold TA; kernel_rfl
theorem ta3 : TA Try.prog 3 := by unfold TA; kernel_rfl
theorem ta38 : TA Try.prog 38 := by unfold TA; kernel_rfl
theorem ta4 : TA Try.prog 4 := by unfold TA; kernel_rfl
theorem ta76 : TA Try.prog 76 := by unfold TA; kernel_rfl
theorem ta90 : TA Try.prog 90 := by unfold TA; kernel_rfl
theorem tez23 : TEZ Try.prog 23 38 1 24 [.slice none 0 0] := ⟨by kernel_rfl, by kernel_rfl⟩
theorem te23 : TE Try.prog 23 38 1 24 := tez23.te rfl
theorem tez27 : TEZ Try.prog 27 33 3 24 [.int .i64 0, .int .i64 0, .bool false] := ⟨by kernel_rfl, by kernel_rfl⟩
theorem te27 : TE Try.prog 27 33 3 24 := tez27.te rfl
theorem tez38 : TEZ Try.prog 38 29 4 48 [.int .i64 0, .int .i64 0, .bool false, .slice none 0 0] := ⟨by kernel_rfl, by kernel_rfl⟩
theorem te38 : TE Try.prog 38 29 4 48 := tez38.te rfl
theorem tf120_0 : TF Try.prog 120 0 0 := by unfold TF; kernel_rfl
theorem tf120_1 : TF Try.prog 120 1 1 := by unfold TF; kernel_rfl
theorem tf120_2 : TF Try.prog 120 2 2 := by unfold TF; kernel_rfl
theorem tf29_0 : TF Try.prog 29 0 0 := by unfold TF; kernel_rfl
theorem tf29_1 : TF Try.prog 29 1 1 := by unfold TF; kernel_rfl
theorem tf29_2 : TF Try.prog 29 2 2 := by unfold TF; kernel_rfl
theorem tf29_3 : TF Try.prog 29 3 3 := by unfold TF; kernel_rfl
theorem tf33_0 : TF Try.prog 33 0 0 := by unfold TF; kernel_rfl
theorem tf33_1 : TF Try.prog 33 1 1 := by unfold TF; kernel_rfl
theorem tf33_2 : TF Try.prog 33 2 2 := by unfold TF; kernel_rfl
theorem tf92_0 : TF Try.prog 92 0 0 := by unfold TF; kernel_rfl
theorem tf92_1 : TF Try.prog 92 1 1 := by unfold TF; kernel_rfl
theorem tf92_2 : TF Try.prog 92 2 2 := by unfold TF; kernel_rfl
theorem tf92_3 : TF Try.prog 92 3 3 := by unfold TF; kernel_rfl
theorem tg120 : TG Try.prog 120 3 := ⟨by kernel_rfl, by kernel_rfl⟩
theorem tg29 : TG Try.prog 29 4 := ⟨by kernel_rfl, by kernel_rfl⟩
theorem tg33 : TG Try.prog 33 3 := ⟨by kernel_rfl, by kernel_rfl⟩
theorem tg92 : TG Try.prog 92 4 := ⟨by kernel_rfl, by kernel_rfl⟩
theorem ts23 : TS Try.prog 23 38 1 := ⟨by kernel_rfl, by kernel_rfl⟩
theorem ts27 : TS Try.prog 27 33 3 := ⟨by kernel_rfl, by kernel_rfl⟩
theorem ts38 : TS Try.prog 38 29 4 := ⟨by kernel_rfl, by kernel_rfl⟩
theorem ts42 : TS Try.prog 42 3 1 := ⟨by kernel_rfl, by kernel_rfl⟩
theorem ts45 : TS Try.prog 45 76 1 := ⟨by kernel_rfl, by kernel_rfl⟩
theorem ts76 : TS Try.prog 76 92 4 := ⟨by kernel_rfl, by kernel_rfl⟩
theorem ts90 : TS Try.prog 90 120 3 := ⟨by kernel_rfl, by kernel_rfl⟩
theorem tz29 : TZ Try.prog 29 [.int .i64 0, .int .i64 0, .bool false, .slice none 0 0] := by unfold TZ; kernel_rfl
theorem tz33 : TZ Try.prog 33 [.int .i64 0, .int .i64 0, .bool false] := by unfold TZ; kernel_rfl
theorem ub4 : Try.prog.underlying 4 = some .bool := by kernel_rfl
end Go.Proofs.Ytilddfgifjejbaa.A2
namespace Go.Proofs.Ytilddfgifjejbaa
open Go Go.RowKit Go.L A2
set_option maxRecDepth 8000 in
theorem laws_szFieldS (L : (List Fld)) (left : Int) (h0 : 0 ≤ left) (h1 : left ≤ 1048576) : FnC Try.prog 86 [A.sl 3 cFld L, A.int left] (A.int (neg1 (left - L.length))) := by
  refine Fn_of_W Try.func86 rfl rfl fun r w => ?_
  refine W_seq ?_
  refine W_region ?_  -- R0 exact.go:195
  refine WL_ac rfl ?_
  refine WL_nil ?_
  refine Fin_then ?_
  refine W_seq ?_
  refine W_region ?_  -- R1 exact.go:196
  refine WL_mv rfl rfl ?_
  refine WL_mv rfl rfl ?_
  refine WL_len ts90 rfl rfl fun hl7 => ?_
  refine WL_step (S_plain (O_sub (by omega)) ⟨T1 rfl, T1 rfl, trivial⟩ rfl rfl) ?_
  refine WL_as rfl rfl ?_
  refine WL_nil ?_
  refine Fin_then ?_
  refine W_seq ?_
  refine W_seq ?_
  refine W_region ?_  -- R2 exact.go:197
  refine WL_mv rfl rfl ?_
  refine WL_step (S_plain O_lss ⟨T1 rfl, C1, trivial⟩ rfl rfl) ?_
  refine WL_nil ?_
  refine Fin_then ?_
  refine W_cond rfl (fun h0 => ?_) (fun h0 => ?_)
  · skip
    try simp only [bl] at h0
    refine W_seq ?_
    refine W_region ?_  -- R3 exact.go:198
    refine WL_ac rfl ?_
    refine WL_nil ?_
    refine Fin_then ?_
    refine W_ret ?_
    refine Fin_then_ret ?_
    exact RetC rfl (Res1 rfl (RV.tmp rfl (Imp.int (by unfold neg1; (first | rw [if_pos (by omega)] | rw [if_neg (by omega)])))))
  · skip
    try simp only [bl] at h0
    refine W_skip ?_
    refine Fin_then ?_
    refine W_seq ?_
    refine W_region ?_  -- R4 exact.go:200
    refine WL_mv rfl rfl ?_
    refine WL_as rfl rfl ?_
    refine WL_nil ?_
    refine Fin_then ?_
    refine W_ret ?_
    exact RetC rfl (Res1 rfl (RV.tmp rfl (Imp.int (by unfold neg1; (first | rw [if_pos (by omega)] | rw [if_neg (by omega)])))))
set_option maxRecDepth 8000 in
theorem laws_szType (t : Ty) (left : Int) (h0 : 0 ≤ left) (h1 : left ≤ 1048576) : FnC Try.prog 70 [A.agg (cTy t), A.int left] (A.int (neg1 (left - bTy t))) := by
  have hu : bTy t = (t.fields.length) := rfl
  refine Fn_of_W Try.func70 rfl rfl fun r w => ?_
  refine W_seq ?_
  refine W_region ?_  -- R0 exact.go:203
  refine WL_step (S_plain O_boxg ⟨T1 rfl, trivial⟩ rfl rfl) ?_
  refine WL_ac rfl ?_
  refine WL_nil ?_
  refine Fin_then ?_
  refine W_seq ?_
  refine W_region ?_  -- R1 exact.go:204
  refine WL_step (S_plain (O_field tf92_3) ⟨T1 rfl, trivial⟩ rfl rfl) ?_
  refine WL_step (S_plain (O_load ta90) ⟨T1 rfl, trivial⟩ rfl rfl) ?_
  refine WL_mv rfl rfl ?_
  refine WL_step (S_plain (O_call cf86 (laws_szFieldS _ _ (by (first | omega | (unfold neg1 at *; grind))) (by (first | omega | (unfold neg1 at *; grind)))) rfl) ⟨T1 rfl, T1 rfl, trivial⟩ rfl rfl) ?_
  refine WL_as rfl rfl ?_
  refine WL_nil ?_
  refine Fin_then ?_
  refine W_seq ?_
  refine W_seq ?_
  refine W_region ?_  -- R2 exact.go:205
  refine WL_mv rfl rfl ?_
  refine WL_step (S_plain O_lss ⟨T1 rfl, C1, trivial⟩ rfl rfl) ?_
  refine WL_nil ?_
  refine Fin_then ?_
  refine W_cond rfl (fun h0 => ?_) (fun h0 => ?_)
  · skip
    simp only [decide_eq_true_eq, decide_eq_false_iff_not] at h0; unfold neg1 at h0
    refine W_seq ?_
    refine W_region ?_  -- R3 exact.go:206
    refine WL_ac rfl ?_
    refine WL_nil ?_
    refine Fin_then ?_
    refine W_ret ?_
    refine Fin_then_ret ?_
    exact RetC rfl (Res1 rfl (RV.tmp rfl (Imp.int (by unfold neg1 at *; grind))))
  · skip
    simp only [decide_eq_true_eq, decide_eq_false_iff_not] at h0; unfold neg1 at h0
    refine W_skip ?_
    refine Fin_then ?_
    refine W_seq ?_
    refine W_region ?_  -- R4 exact.go:208
    refine WL_mv rfl rfl ?_
    refine WL_as rfl rfl ?_
    refine WL_nil ?_
    refine Fin_then ?_
    refine W_ret ?_
    exact RetC rfl (Res1 rfl (RV.tmp rfl (Imp.int (by unfold neg1 at *; grind))))
set_option maxRecDepth 8000 in
theorem laws_szTypeS (L : (List Ty)) (left : Int) (h0 : 0 ≤ left) (h1 : left ≤ 1048576) : FnC Try.prog 50 [A.sl 4 cTy L, A.int left] (A.int (neg1 (left - (bTys L)))) := by
  have hb := bulk_len (f := bTy) (L := L)
  have hu : ((bTys L) : Nat) = bulkL bTy L := rfl
  refine Fn_of_W Try.func50 rfl rfl fun r w => ?_
  refine W_seq ?_
  refine W_region ?_  -- R0 exact.go:211
  refine WL_ac rfl ?_
  refine WL_nil ?_
  refine Fin_then ?_
  refine W_seq ?_
  refine W_region ?_  -- R1 exact.go:212
  refine WL_mv rfl rfl ?_
  refine WL_mv rfl rfl ?_
  refine WL_len ts76 rfl rfl fun hl8 => ?_
  refine WL_step (S_plain (O_sub (by omega)) ⟨T1 rfl, T1 rfl, trivial⟩ rfl rfl) ?_
  refine WL_as rfl rfl ?_
  refine WL_nil ?_
  refine Fin_then ?_
  refine W_seq ?_
  refine W_seq ?_
  refine W_region ?_  -- R2 exact.go:213
  refine WL_mv rfl rfl ?_
  refine WL_step (S_plain O_lss ⟨T1 rfl, C1, trivial⟩ rfl rfl) ?_
  refine WL_nil ?_
  refine Fin_then ?_
  refine W_cond rfl (fun h0 => ?_) (fun h0 => ?_)
  · skip
    try simp only [bl] at h0
    refine W_seq ?_
    refine W_region ?_  -- R3 exact.go:214
    refine WL_ac rfl ?_
    refine WL_nil ?_
    refine Fin_then ?_
    refine W_ret ?_
    refine Fin_then_ret ?_
    exact RetC rfl (Res1 rfl (RV.tmp rfl (Imp.int (by unfold neg1 at *; grind))))
  · skip
    try simp only [bl] at h0
    refine W_skip ?_
    refine Fin_then ?_
    refine W_seq ?_
    refine W_seq ?_
    refine W_region ?_  -- R4 exact.go:216
    refine WL_ac rfl ?_
    refine WL_nil ?_
    refine Fin_then ?_
    refine W_block ?_
    refine W_loopk [0] (T := Nat) (fun k => k ≤ L.length ∧ 0 ≤ left - L.length - (sumTo bTy L k : Int)) (fun k => [(1, true, A.int (left - L.length - (sumTo bTy L k : Int))), (5, true, A.int (k : Int))]) (fun k => L.length - k) 0 ⟨Nat.zero_le _, by rw [sumTo_zero]; omega⟩ ⟨⟨rfl, _, rfl, (Imp.int (by first | (rw [sumTo_zero]; omega) | omega))⟩, ⟨rfl, _, rfl, (Imp.int (by first | (rw [sumTo_zero]; omega) | omega))⟩, trivial⟩ (fun k hx => ?_)
    have hk := hx.1
    have hq := hx.2
    have hs := sumTo_le bTy L k
    have hs1 := sumTo_le bTy L (k + 1)
    have hs2 : k < L.length → sumTo bTy L (k + 1) = sumTo bTy L k + bTy (idx L (k : Int)) := sumTo_step bTy L k
    have hs3 : L.length ≤ k → L.length + sumTo bTy L k = bulkL bTy L := sumTo_all bTy L k
    refine W_seq ?_
    refine W_seq ?_
    refine W_region ?_  -- R5 exact.go:216
    refine WL_mv rfl rfl ?_
    refine WL_mv rfl rfl ?_
    refine WL_len ts76 rfl rfl fun hl14 => ?_
    refine WL_step (S_plain O_lss ⟨T1 rfl, T1 rfl, trivial⟩ rfl rfl) ?_
    refine WL_nil ?_
    refine Fin_then ?_
    refine W_cond rfl (fun h1 => ?_) (fun h1 => ?_)
    · skip
      try simp only [bl] at h1
      refine W_skip ?_
      refine Fin_then ?_
      refine W_seq ?_
      refine W_block ?_
      refine W_seq ?_
      refine W_region ?_  -- R7 exact.go:217
      refine WL_mv rfl rfl ?_
      refine WL_mv rfl rfl ?_
      refine WL_step (S_plain (O_index ts76 (by omega)) ⟨T1 rfl, T1 rfl, trivial⟩ rfl rfl) ?_
      refine WL_step (S_plain (O_loadgw tg92 rfl) ⟨T1 rfl, trivial⟩ rfl rfl) ?_
      refine WL_mv rfl rfl ?_
      refine WL_step (S_plain (O_call cf70 (laws_szType _ _ (by omega) (by omega)) rfl) ⟨T1 rfl, T1 rfl, trivial⟩ rfl rfl) ?_
      refine WL_as rfl rfl ?_
      refine WL_nil ?_
      refine Fin_then ?_
      refine W_seq ?_
      refine W_region ?_  -- R8 exact.go:218
      refine WL_mv rfl rfl ?_
      refine WL_step (S_plain O_lss ⟨T1 rfl, C1, trivial⟩ rfl rfl) ?_
      refine WL_nil ?_
      refine Fin_then ?_
      refine W_cond rfl (fun h2 => ?_) (fun h2 => ?_)
      · skip
        try simp only [bl] at h2
        refine W_seq ?_
        refine W_region ?_  -- R9 exact.go:219
        refine WL_ac rfl ?_
        refine WL_nil ?_
        refine Fin_then ?_
        refine W_ret ?_
        refine Fin_block_ret ?_
        refine Fin_then_ret ?_
        refine Fin_then_ret ?_
        refine Fin_block_ret ?_
        refine Fin_then_ret ?_
        exact RetC rfl (Res1 rfl (RV.tmp rfl (Imp.int (by unfold neg1 at *; grind))))
      · skip
        try simp only [bl] at h2
        refine W_skip ?_
        refine Fin_block ?_
        refine Fin_then ?_
        refine W_region ?_  -- R6 exact.go:216
        refine WL_mv rfl rfl ?_
        refine WL_step (S_plain (O_add (by omega)) ⟨T1 rfl, C1, trivial⟩ rfl rfl) ?_
        refine WL_as rfl rfl ?_
        refine WL_nil ?_
        have hs4 := hs2 (by omega)
        unfold neg1 at h2
        exact Fin_back (k + 1) ⟨by omega, by grind⟩ (by omega) ⟨⟨rfl, _, rfl, (Imp.int (by (try unfold neg1); grind))⟩, ⟨rfl, _, rfl, (Imp.int (by (try unfold neg1); grind))⟩, trivial⟩ ⟨rfl, trivial⟩ rfl rfl
    · skip
      try simp only [bl] at h1
      refine W_exit ?_
      refine Fin_then_exit ?_
      refine Fin_then_exit ?_
      refine Fin_block_exit ?_
      refine Fin_then ?_
      refine W_seq ?_
      refine W_region ?_  -- R10 exact.go:222
      refine WL_mv rfl rfl ?_
      refine WL_as rfl rfl ?_
      refine WL_nil ?_
      refine Fin_then ?_
      refine W_ret ?_
      exact RetC rfl (Res1 rfl (RV.tmp rfl (Imp.int (by unfold neg1 at *; grind))))
set_option maxRecDepth 8000 in
theorem laws_szTypeSS (L : (List (List Ty))) (left : Int) (h0 : 0 ≤ left) (h1 : left ≤ 1048576) : FnC Try.prog 22 [A.sl 1 cGrp L, A.int left] (A.int (neg1 (left - (bKin L)))) := by
  have hb := bulk_len (f := bTys) (L := L)
  have hu : ((bKin L) : Nat) = bulkL bTys L := rfl
  refine Fn_of_W Try.func22 rfl rfl fun r w => ?_
  refine W_seq ?_
  refine W_region ?_  -- R0 exact.go:225
  refine WL_ac rfl ?_
  refine WL_nil ?_
  refine Fin_then ?_
  refine W_seq ?_
  refine W_region ?_  -- R1 exact.go:226
  refine WL_mv rfl rfl ?_
  refine WL_mv rfl rfl ?_
  refine WL_len ts45 rfl rfl fun hl8 => ?_
  refine WL_step (S_plain (O_sub (by omega)) ⟨T1 rfl, T1 rfl, trivial⟩ rfl rfl) ?_
  refine WL_as rfl rfl ?_
  refine WL_nil ?_
  refine Fin_then ?_
  refine W_seq ?_
  refine W_seq ?_
  refine W_region ?_  -- R2 exact.go:227
  refine WL_mv rfl rfl ?_
  refine WL_step (S_plain O_lss ⟨T1 rfl, C1, trivial⟩ rfl rfl) ?_
  refine WL_nil ?_
  refine Fin_then ?_
  refine W_cond rfl (fun h0 => ?_) (fun h0 => ?_)
  · skip
    try simp only [bl] at h0
    refine W_seq ?_
    refine W_region ?_  -- R3 exact.go:228
    refine WL_ac rfl ?_
    refine WL_nil ?_
    refine Fin_then ?_
    refine W_ret ?_
    refine Fin_then_ret ?_
    exact RetC rfl (Res1 rfl (RV.tmp rfl (Imp.int (by unfold neg1 at *; grind))))
  · skip
    try simp only [bl] at h0
    refine W_skip ?_
    refine Fin_then ?_
    refine W_seq ?_
    refine W_seq ?_
    refine W_region ?_  -- R4 exact.go:230
    refine WL_ac rfl ?_
    refine WL_nil ?_
    refine Fin_then ?_
    refine W_block ?_
    refine W_loopk [0] (T := Nat) (fun k => k ≤ L.length ∧ 0 ≤ left - L.length - (sumTo bTys L k : Int)) (fun k => [(1, true, A.int (left - L.length - (sumTo bTys L k : Int))), (5, true, A.int (k : Int))]) (fun k => L.length - k) 0 ⟨Nat.zero_le _, by rw [sumTo_zero]; omega⟩ ⟨⟨rfl, _, rfl, (Imp.int (by first | (rw [sumTo_zero]; omega) | omega))⟩, ⟨rfl, _, rfl, (Imp.int (by first | (rw [sumTo_zero]; omega) | omega))⟩, trivial⟩ (fun k hx => ?_)
    have hk := hx.1
    have hq := hx.2
    have hs := sumTo_le bTys L k
    have hs1 := sumTo_le bTys L (k + 1)
    have hs2 : k < L.length → sumTo bTys L (k + 1) = sumTo bTys L k + bTys (idx L (k : Int)) := sumTo_step bTys L k
    have hs3 : L.length ≤ k → L.length + sumTo bTys L k = bulkL bTys L := sumTo_all bTys L k
    refine W_seq ?_
    refine W_seq ?_
    refine W_region ?_  -- R5 exact.go:230
    refine WL_mv rfl rfl ?_
    refine WL_mv rfl rfl ?_
    refine WL_len ts45 rfl rfl fun hl14 => ?_
    refine WL_step (S_plain O_lss ⟨T1 rfl, T1 rfl, trivial⟩ rfl rfl) ?_
    refine WL_nil ?_
    refine Fin_then ?_
    refine W_cond rfl (fun h1 => ?_) (fun h1 => ?_)
    · skip
      try simp only [bl] at h1
      refine W_skip ?_
      refine Fin_then ?_
      refine W_seq ?_
      refine W_block ?_
      refine W_seq ?_
      refine W_region ?_  -- R7 exact.go:231
      refine WL_mv rfl rfl ?_
      refine WL_mv rfl rfl ?_
      refine WL_step (S_plain (O_index ts45 (by omega)) ⟨T1 rfl, T1 rfl, trivial⟩ rfl rfl) ?_
      refine WL_step (S_plain (O_load ta76) ⟨T1 rfl, trivial⟩ rfl rfl) ?_
      refine WL_mv rfl rfl ?_
      refine WL_step (S_plain (O_call cf50 (laws_szTypeS _ _ (by omega) (by omega)) rfl) ⟨T1 rfl, T1 rfl, trivial⟩ rfl rfl) ?_
      refine WL_as rfl rfl ?_
      refine WL_nil ?_
      refine Fin_then ?_
      refine W_seq ?_
      refine W_region ?_  -- R8 exact.go:232
      refine WL_mv rfl rfl ?_
      refine WL_step (S_plain O_lss ⟨T1 rfl, C1, trivial⟩ rfl rfl) ?_
      refine WL_nil ?_
      refine Fin_then ?_
      refine W_cond rfl (fun h2 => ?_) (fun h2 => ?_)
      · skip
        try simp only [bl] at h2
        refine W_seq ?_
        refine W_region ?_  -- R9 exact.go:233
        refine WL_ac rfl ?_
        refine WL_nil ?_
        refine Fin_then ?_
        refine W_ret ?_
        refine Fin_block_ret ?_
        refine Fin_then_ret ?_
        refine Fin_then_ret ?_
        refine Fin_block_ret ?_
        refine Fin_then_ret ?_
        exact RetC rfl (Res1 rfl (RV.tmp rfl (Imp.int (by unfold neg1 at *; grind))))
      · skip
        try simp only [bl] at h2
        refine W_skip ?_
        refine Fin_block ?_
        refine Fin_then ?_
        refine W_region ?_  -- R6 exact.go:230
        refine WL_mv rfl rfl ?_
        refine WL_step (S_plain (O_add (by omega)) ⟨T1 rfl, C1, trivial⟩ rfl rfl) ?_
        refine WL_as rfl rfl ?_
        refine WL_nil ?_
        have hs4 := hs2 (by omega)
        unfold neg1 at h2
        exact Fin_back (k + 1) ⟨by omega, by grind⟩ (by omega) ⟨⟨rfl, _, rfl, (Imp.int (by (try unfold neg1); grind))⟩, ⟨rfl, _, rfl, (Imp.int (by (try unfold neg1); grind))⟩, trivial⟩ ⟨rfl, trivial⟩ rfl rfl
    · skip
      try simp only [bl] at h1
      refine W_exit ?_
      refine Fin_then_exit ?_
      refine Fin_then_exit ?_
      refine Fin_block_exit ?_
      refine Fin_then ?_
      refine W_seq ?_
      refine W_region ?_  -- R10 exact.go:236
      refine WL_mv rfl rfl ?_
      refine WL_as rfl rfl ?_
      refine WL_nil ?_
      refine Fin_then ?_
      refine W_ret ?_
      exact RetC rfl (Res1 rfl (RV.tmp rfl (Imp.int (by unfold neg1 at *; grind))))
set_option maxRecDepth 8000 in
theorem laws_toField (t : Fld) : FnC Try.prog 95 [A.agg (cFld t)] (A.agg (cFld t)) := by
  refine Fn_of_W Try.func95 rfl rfl fun r w => ?_
  refine W_seq ?_
  refine W_region ?_  -- R0 exact.go:113
  refine WL_step (S_plain O_boxg ⟨T1 rfl, trivial⟩ rfl rfl) ?_
  refine WL_alloc tz33 rfl fun b2 => ?_
  refine WL_nil ?_
  refine Fin_then ?_
  refine W_seq ?_
  refine W_region ?_  -- R1 exact.go:114
  refine WL_alloc tz33 rfl fun b3 => ?_
  refine WL_nil ?_
  refine Fin_then ?_
  refine W_seq ?_
  refine W_region ?_  -- R2 exact.go:115
  refine WL_step (S_plain (O_field tf120_0) ⟨T1 rfl, trivial⟩ rfl rfl) ?_
  refine WL_step (S_plain (O_load ta3) ⟨T1 rfl, trivial⟩ rfl rfl) ?_
  refine WL_step (S_plain (O_fieldv tf33_0) ⟨T1 rfl, trivial⟩ rfl rfl) ?_
  refine WL_store 0 rfl ⟨T1 rfl, T1 rfl, trivial⟩ (CellsOf.one OneV.int) sz3 (Nat.le_of_ble_eq_true rfl) ?_
  refine WL_nil ?_
  refine Fin_then ?_
  refine W_seq ?_
  refine W_region ?_  -- R3 exact.go:116
  refine WL_step (S_plain (O_field tf120_1) ⟨T1 rfl, trivial⟩ rfl rfl) ?_
  refine WL_step (S_plain (O_load ta3) ⟨T1 rfl, trivial⟩ rfl rfl) ?_
  refine WL_step (S_plain (O_fieldv tf33_1) ⟨T1 rfl, trivial⟩ rfl rfl) ?_
  refine WL_store 0 rfl ⟨T1 rfl, T1 rfl, trivial⟩ (CellsOf.one OneV.int) sz3 (Nat.le_of_ble_eq_true rfl) ?_
  refine WL_nil ?_
  refine Fin_then ?_
  refine W_seq ?_
  refine W_region ?_  -- R4 exact.go:117
  refine WL_step (S_plain (O_field tf120_2) ⟨T1 rfl, trivial⟩ rfl rfl) ?_
  refine WL_step (S_plain (O_load ta4) ⟨T1 rfl, trivial⟩ rfl rfl) ?_
  refine WL_step (S_plain (O_fieldv tf33_2) ⟨T1 rfl, trivial⟩ rfl rfl) ?_
  refine WL_store 0 rfl ⟨T1 rfl, T1 rfl, trivial⟩ (CellsOf.one OneV.bool) sz4 (Nat.le_of_ble_eq_true rfl) ?_
  refine WL_nil ?_
  refine Fin_then ?_
  refine W_seq ?_
  refine W_region ?_  -- R5 exact.go:118
  refine WL_step (S_plain (O_loadog 0 tg33 rfl (Nat.le_of_ble_eq_true rfl)) ⟨T1 rfl, trivial⟩ rfl rfl) ?_
  refine WL_store 1 rfl ⟨T1 rfl, T1 rfl, trivial⟩ (CellsOf.agg (by exact ⟨OneV.int, OneV.int, OneV.bool, trivial⟩)) sz33 (Nat.le_of_ble_eq_true rfl) ?_
  refine WL_nil ?_
  refine Fin_then ?_
  refine W_ret ?_
  exact RetC rfl (Res1 rfl (RV.cellg 1 rfl tg33 rfl rfl Imp.refl))
set_option maxRecDepth 8000 in
theorem laws_toFieldS (L : (List Fld)) (hL : (L.length) ≤ 1048576) : FnN Try.prog 87 [A.sl 3 cFld L] (A.sl 3 cFld L) := by
  refine FnN_of_W Try.func87 rfl rfl fun r w => ?_
  refine W_seq ?_
  refine W_region ?_  -- R0 exact.go:121
  refine WL_ac rfl ?_
  refine WL_nil ?_
  refine Fin_then ?_
  refine W_seq ?_
  refine W_region ?_  -- R1 exact.go:122
  refine WL_mv rfl rfl ?_
  refine WL_len ts90 rfl rfl fun hl6 => ?_
  refine WL_make tez27 rfl ⟨T1 rfl, T1 rfl, trivial⟩ (by omega) (by omega) (by omega) rfl fun b7 => ?_
  refine WL_as rfl rfl ?_
  refine WL_nil ?_
  refine Fin_then ?_
  refine W_seq ?_
  refine W_seq ?_
  refine W_region ?_  -- R2 exact.go:123
  refine WL_ac rfl ?_
  refine WL_nil ?_
  refine Fin_then ?_
  refine W_block ?_
  refine W_loopp [0, 3] [0] [] [] (T := Nat) (fun k => k ≤ L.length) (fun k => [(4, true, A.int (k : Int))]) (fun k => { own := [(b7, 33, filled cFld [A.val (.int .i64 0), A.val (.int .i64 0), A.val (.bool false)] L k)], rooms := [], maps := [] }) (fun k => L.length - k) 0 (Nat.zero_le _) ⟨⟨rfl, _, rfl, (by first | exact Imp.refl | exact Imp.slv | exact Imp.nil | exact Imp.int (by omega) | exact Imp.int (by simp; done) | exact Imp.bool (by simp_all; done))⟩, trivial⟩ (.cons (AllImp.eq filled_zero.symm) OSub.nil) rfl rfl rfl (fun k hx => ?_)
  have hfl := filled_len (f := cFld) (z := [A.val (.int .i64 0), A.val (.int .i64 0), A.val (.bool false)]) (k := 3) (L := L) (j := k) (fun _ => rfl) rfl (by omega)
  refine W_seq ?_
  refine W_seq ?_
  refine W_region ?_  -- R3 exact.go:123
  refine WL_mv rfl rfl ?_
  refine WL_mv rfl rfl ?_
  refine WL_len ts90 rfl rfl fun hl10 => ?_
  refine WL_step (S_plain O_lss ⟨T1 rfl, T1 rfl, trivial⟩ rfl rfl) ?_
  refine WL_nil ?_
  refine Fin_then ?_
  refine W_cond rfl (fun h0 => ?_) (fun h0 => ?_)
  · skip
    try simp only [bl] at h0
    refine W_skip ?_
    refine Fin_then ?_
    refine W_seq ?_
    refine W_block ?_
    refine W_region ?_  -- R5 exact.go:124
    refine WL_mv rfl rfl ?_
    refine WL_mv rfl rfl ?_
    refine WL_mv rfl rfl ?_
    refine WL_mv rfl rfl ?_
    refine WL_step (S_plain (O_index ts90 (by omega)) ⟨T1 rfl, T1 rfl, trivial⟩ rfl rfl) ?_
    refine WL_step (S_plain (O_loadgw tg120 rfl) ⟨T1 rfl, trivial⟩ rfl rfl) ?_
    refine WL_step (S_plain (O_call cf95 (laws_toField _) rfl) ⟨T1 rfl, trivial⟩ rfl rfl) ?_
    refine WL_step (S_plain (O_indexo ts27 (by omega)) ⟨T1 rfl, T1 rfl, trivial⟩ rfl rfl) ?_
    refine WL_store 0 rfl ⟨T1 rfl, T1 rfl, trivial⟩ (CellsOf.agg (by exact ⟨OneV.int, OneV.int, OneV.bool, trivial⟩)) sz33 (by rw [hfl]; (first | (show _ + 3 ≤ _; omega) | (simp; omega))) ?_
    refine WL_nil ?_
    refine Fin_block ?_
    refine Fin_then ?_
    refine W_region ?_  -- R4 exact.go:123
    refine WL_mv rfl rfl ?_
    refine WL_step (S_plain (O_add (by omega)) ⟨T1 rfl, C1, trivial⟩ rfl rfl) ?_
    refine WL_as rfl rfl ?_
    refine WL_nil ?_
    exact Fin_backp [0] (k + 1) (by omega) (by omega) ⟨⟨rfl, _, rfl, (by first | exact Imp.refl | exact Imp.slv | exact Imp.nil | exact Imp.int (by omega) | exact Imp.int (by simp; done) | exact Imp.bool (by simp_all; done))⟩, trivial⟩ ⟨rfl, rfl, trivial⟩ (.cons (AllImp.eq (filled_step (f := cFld) (z := [A.val (.int .i64 0), A.val (.int .i64 0), A.val (.bool false)]) L k (fun _ => rfl) rfl (by omega)).symm) OSub.nil) rfl (List.Sublist.refl _) rfl
  · skip
    try simp only [bl] at h0
    refine W_exit ?_
    refine Fin_then_exit ?_
    refine Fin_then_exit ?_
    refine Fin_block_exit ?_
    refine Fin_then ?_
    refine W_seq ?_
    refine W_region ?_  -- R6 exact.go:126
    refine WL_freezeSl (k := 3) (L := L) (f := cFld) (f' := cFld) 0 r [] (List.Mem.head _) rfl 3 rfl (by rw [filled_all (by omega)]; simp) (by first | rfl | simp | omega) (by omega) (by simp only [maxLen]; omega) (fun _ => rfl) (fun _ => ⟨NwI.val, NwI.val, NwI.val, trivial⟩) ?_
    refine WL_mv rfl rfl ?_
    refine WL_as rfl rfl ?_
    refine WL_nil ?_
    refine Fin_then ?_
    refine W_ret ?_
    exact RetC rfl (Res1 rfl (RV.tmp rfl Imp.refl))
set_option maxRecDepth 8000 in
theorem laws_toType (t : Ty) (hL : (bTy t) ≤ 1048576) : FnN Try.prog 72 [A.agg (cTy t)] (A.agg (cTy t)) := by
  have hu : bTy t = (t.fields.length) := rfl
  refine FnN_of_W Try.func72 rfl rfl fun r w => ?_
  refine W_seq ?_
  refine W_region ?_  -- R0 exact.go:129
  refine WL_step (S_plain O_boxg ⟨T1 rfl, trivial⟩ rfl rfl) ?_
  refine WL_alloc tz29 rfl fun b2 => ?_
  refine WL_nil ?_
  refine Fin_then ?_
  refine W_seq ?_
  refine W_region ?_  -- R1 exact.go:130
  refine WL_alloc tz29 rfl fun b3 => ?_
  refine WL_nil ?_
  refine Fin_then ?_
  refine W_seq ?_
  refine W_region ?_  -- R2 exact.go:131
  refine WL_step (S_plain (O_field tf92_0) ⟨T1 rfl, trivial⟩ rfl rfl) ?_
  refine WL_step (S_plain (O_load ta3) ⟨T1 rfl, trivial⟩ rfl rfl) ?_
  refine WL_step (S_plain (O_fieldv tf29_0) ⟨T1 rfl, trivial⟩ rfl rfl) ?_
  refine WL_store 0 rfl ⟨T1 rfl, T1 rfl, trivial⟩ (CellsOf.one OneV.int) sz3 (Nat.le_of_ble_eq_true rfl) ?_
  refine WL_nil ?_
  refine Fin_then ?_
  refine W_seq ?_
  refine W_region ?_  -- R3 exact.go:132
  refine WL_step (S_plain (O_field tf92_1) ⟨T1 rfl, trivial⟩ rfl rfl) ?_
  refine WL_step (S_plain (O_load ta3) ⟨T1 rfl, trivial⟩ rfl rfl) ?_
  refine WL_step (S_plain (O_fieldv tf29_1) ⟨T1 rfl, trivial⟩ rfl rfl) ?_
  refine WL_store 0 rfl ⟨T1 rfl, T1 rfl, trivial⟩ (CellsOf.one OneV.int) sz3 (Nat.le_of_ble_eq_true rfl) ?_
  refine WL_nil ?_
  refine Fin_then ?_
  refine W_seq ?_
  refine W_region ?_  -- R4 exact.go:133
  refine WL_step (S_plain (O_field tf92_2) ⟨T1 rfl, trivial⟩ rfl rfl) ?_
  refine WL_step (S_plain (O_load ta4) ⟨T1 rfl, trivial⟩ rfl rfl) ?_
  refine WL_step (S_plain (O_fieldv tf29_2) ⟨T1 rfl, trivial⟩ rfl rfl) ?_
  refine WL_store 0 rfl ⟨T1 rfl, T1 rfl, trivial⟩ (CellsOf.one OneV.bool) sz4 (Nat.le_of_ble_eq_true rfl) ?_
  refine WL_nil ?_
  refine Fin_then ?_
  refine W_seq ?_
  refine W_region ?_  -- R5 exact.go:134
  refine WL_step (S_plain (O_field tf92_3) ⟨T1 rfl, trivial⟩ rfl rfl) ?_
  refine WL_step (S_plain (O_load ta90) ⟨T1 rfl, trivial⟩ rfl rfl) ?_
  refine WL_step (S_plain (O_callN r (List.Mem.head _) cf87 (laws_toFieldS _ (by omega)) rfl) ⟨T1 rfl, trivial⟩ rfl rfl) ?_
  refine WL_step (S_plain (O_fieldv tf29_3) ⟨T1 rfl, trivial⟩ rfl rfl) ?_
  refine WL_store 0 rfl ⟨T1 rfl, T1 rfl, trivial⟩ (CellsOf.one (OneV.nw OneV.sl)) sz27 (Nat.le_of_ble_eq_true rfl) ?_
  refine WL_nil ?_
  refine Fin_then ?_
  refine W_seq ?_
  refine W_region ?_  -- R6 exact.go:135
  refine WL_step (S_plain (O_loadog 0 tg29 rfl (Nat.le_of_ble_eq_true rfl)) ⟨T1 rfl, trivial⟩ rfl rfl) ?_
  refine WL_store 1 rfl ⟨T1 rfl, T1 rfl, trivial⟩ (CellsOf.agg (by exact ⟨OneV.int, OneV.int, OneV.bool, (OneV.nw OneV.sl), trivial⟩)) sz29 (Nat.le_of_ble_eq_true rfl) ?_
  refine WL_nil ?_
  refine Fin_then ?_
  refine W_ret ?_
  exact RetC rfl (Res1 rfl (RV.nw (List.Mem.head _) (RV.cellg 1 rfl tg29 rfl rfl Imp.refl) (NwI.agg ⟨NwI.val, NwI.val, NwI.val, NwI.nw, trivial⟩)))
set_option maxRecDepth 8000 in
theorem laws_toTypeS (L : (List Ty)) (hL : (bTys L) ≤ 1048576) : FnN Try.prog 52 [A.sl 4 cTy L] (A.sl 4 cTy L) := by
  have hb := bulk_len (f := bTy) (L := L)
  have hu : (bTys L) = bulkL bTy L := rfl
  refine FnN_of_W Try.func52 rfl rfl fun r w => ?_
  refine W_seq ?_
  refine W_region ?_  -- R0 exact.go:138
  refine WL_ac rfl ?_
  refine WL_nil ?_
  refine Fin_then ?_
  refine W_seq ?_
  refine W_region ?_  -- R1 exact.go:139
  refine WL_mv rfl rfl ?_
  refine WL_len ts76 rfl rfl fun hl6 => ?_
  refine WL_make tez38 rfl ⟨T1 rfl, T1 rfl, trivial⟩ (by omega) (by omega) (by omega) rfl fun b7 => ?_
  refine WL_as rfl rfl ?_
  refine WL_nil ?_
  refine Fin_then ?_
  refine W_seq ?_
  refine W_seq ?_
  refine W_region ?_  -- R2 exact.go:140
  refine WL_ac rfl ?_
  refine WL_nil ?_
  refine Fin_then ?_
  refine W_block ?_
  refine W_loopp [0, 3] [0] [] [] (T := Nat) (fun k => k ≤ L.length) (fun k => [(4, true, A.int (k : Int))]) (fun k => { own := [(b7, 29, filled (fun y => (cTy y).map (A.nw r)) [A.val (.int .i64 0), A.val (.int .i64 0), A.val (.bool false), A.val (.slice none 0 0)] L k)], rooms := [], maps := [] }) (fun k => L.length - k) 0 (Nat.zero_le _) ⟨⟨rfl, _, rfl, (by first | exact Imp.refl | exact Imp.slv | exact Imp.nil | exact Imp.int (by omega) | exact Imp.int (by simp; done) | exact Imp.bool (by simp_all; done))⟩, trivial⟩ (.cons (AllImp.eq filled_zero.symm) OSub.nil) rfl rfl rfl (fun k hx => ?_)
  have hfl := filled_len (f := (fun y => (cTy y).map (A.nw r))) (z := [A.val (.int .i64 0), A.val (.int .i64 0), A.val (.bool false), A.val (.slice none 0 0)]) (k := 4) (L := L) (j := k) (fun _ => rfl) rfl (by omega)
  have hbk : (k : Int) < L.length → bTy (idx L (k : Int)) ≤ bulkL bTy L := fun h => bulk_idx (by omega) h
  refine W_seq ?_
  refine W_seq ?_
  refine W_region ?_  -- R3 exact.go:140
  refine WL_mv rfl rfl ?_
  refine WL_mv rfl rfl ?_
  refine WL_len ts76 rfl rfl fun hl10 => ?_
  refine WL_step (S_plain O_lss ⟨T1 rfl, T1 rfl, trivial⟩ rfl rfl) ?_
  refine WL_nil ?_
  refine Fin_then ?_
  refine W_cond rfl (fun h0 => ?_) (fun h0 => ?_)
  · skip
    try simp only [bl] at h0
    refine W_skip ?_
    refine Fin_then ?_
    refine W_seq ?_
    refine W_block ?_
    refine W_region ?_  -- R5 exact.go:141
    refine WL_mv rfl rfl ?_
    refine WL_mv rfl rfl ?_
    refine WL_mv rfl rfl ?_
    refine WL_mv rfl rfl ?_
    refine WL_step (S_plain (O_index ts76 (by omega)) ⟨T1 rfl, T1 rfl, trivial⟩ rfl rfl) ?_
    refine WL_step (S_plain (O_loadgw tg92 rfl) ⟨T1 rfl, trivial⟩ rfl rfl) ?_
    refine WL_step (S_plain (O_callN r (List.Mem.head _) cf72 (laws_toType _ (by omega)) rfl) ⟨T1 rfl, trivial⟩ rfl rfl) ?_
    refine WL_step (S_plain (O_indexo ts38 (by omega)) ⟨T1 rfl, T1 rfl, trivial⟩ rfl rfl) ?_
    refine WL_store 0 rfl ⟨T1 rfl, T1 rfl, trivial⟩ (AllOne.nw (by exact ⟨OneV.int, OneV.int, OneV.bool, OneV.sl, trivial⟩)) sz29 (by rw [hfl]; (first | (show _ + 4 ≤ _; omega) | (simp; omega))) ?_
    refine WL_nil ?_
    refine Fin_block ?_
    refine Fin_then ?_
    refine W_region ?_  -- R4 exact.go:140
    refine WL_mv rfl rfl ?_
    refine WL_step (S_plain (O_add (by omega)) ⟨T1 rfl, C1, trivial⟩ rfl rfl) ?_
    refine WL_as rfl rfl ?_
    refine WL_nil ?_
    exact Fin_backp [0] (k + 1) (by omega) (by omega) ⟨⟨rfl, _, rfl, (by first | exact Imp.refl | exact Imp.slv | exact Imp.nil | exact Imp.int (by omega) | exact Imp.int (by simp; done) | exact Imp.bool (by simp_all; done))⟩, trivial⟩ ⟨rfl, rfl, trivial⟩ (.cons (AllImp.eq (filled_step (f := (fun y => (cTy y).map (A.nw r))) (z := [A.val (.int .i64 0), A.val (.int .i64 0), A.val (.bool false), A.val (.slice none 0 0)]) L k (fun _ => rfl) rfl (by omega)).symm) OSub.nil) rfl (List.Sublist.refl _) rfl
  · skip
    try simp only [bl] at h0
    refine W_exit ?_
    refine Fin_then_exit ?_
    refine Fin_then_exit ?_
    refine Fin_block_exit ?_
    refine Fin_then ?_
    refine W_seq ?_
    refine W_region ?_  -- R6 exact.go:143
    refine WL_freezeSl (k := 4) (L := L) (f := (fun y => (cTy y).map (A.nw r))) (f' := cTy) 0 r [] (List.Mem.head _) rfl 3 rfl (by rw [filled_all (by omega)]; simp) (by first | rfl | simp | omega) (by omega) (by simp only [maxLen]; omega) (fun _ => rfl) (fun _ => (AllNw.nws _)) ?_
    refine WL_mv rfl rfl ?_
    refine WL_as rfl rfl ?_
    refine WL_nil ?_
    refine Fin_then ?_
    refine W_ret ?_
    exact RetC rfl (Res1 rfl (RV.tmp rfl Imp.refl))
set_option maxRecDepth 8000 in
theorem laws_toTypeSS (L : (List (List Ty))) (hL : (bKin L) ≤ 1048576) : FnN Try.prog 24 [A.sl 1 cGrp L] (A.sl 1 cGrp L) := by
  have hb := bulk_len (f := bTys) (L := L)
  have hu : (bKin L) = bulkL bTys L := rfl
  refine FnN_of_W Try.func24 rfl rfl fun r w => ?_
  refine W_seq ?_
  refine W_region ?_  -- R0 exact.go:146
  refine WL_ac rfl ?_
  refine WL_nil ?_
  refine Fin_then ?_
  refine W_seq ?_
  refine W_region ?_  -- R1 exact.go:147
  refine WL_mv rfl rfl ?_
  refine WL_len ts45 rfl rfl fun hl6 => ?_
  refine WL_make tez23 rfl ⟨T1 rfl, T1 rfl, trivial⟩ (by omega) (by omega) (by omega) rfl fun b7 => ?_
  refine WL_as rfl rfl ?_
  refine WL_nil ?_
  refine Fin_then ?_
  refine W_seq ?_
  refine W_seq ?_
  refine W_region ?_  -- R2 exact.go:148
  refine WL_ac rfl ?_
  refine WL_nil ?_
  refine Fin_then ?_
  refine W_block ?_
  refine W_loopp [0, 3] [0] [] [] (T := Nat) (fun k => k ≤ L.length) (fun k => [(4, true, A.int (k : Int))]) (fun k => { own := [(b7, 38, filled (fun y => (cGrp y).map (A.nw r)) [A.val (.slice none 0 0)] L k)], rooms := [], maps := [] }) (fun k => L.length - k) 0 (Nat.zero_le _) ⟨⟨rfl, _, rfl, (by first | exact Imp.refl | exact Imp.slv | exact Imp.nil | exact Imp.int (by omega) | exact Imp.int (by simp; done) | exact Imp.bool (by simp_all; done))⟩, trivial⟩ (.cons (AllImp.eq filled_zero.symm) OSub.nil) rfl rfl rfl (fun k hx => ?_)
  have hfl := filled_len (f := (fun y => (cGrp y).map (A.nw r))) (z := [A.val (.slice none 0 0)]) (k := 1) (L := L) (j := k) (fun _ => rfl) rfl (by omega)
  have hbk : (k : Int) < L.length → bTys (idx L (k : Int)) ≤ bulkL bTys L := fun h => bulk_idx (by omega) h
  refine W_seq ?_
  refine W_seq ?_
  refine W_region ?_  -- R3 exact.go:148
  refine WL_mv rfl rfl ?_
  refine WL_mv rfl rfl ?_
  refine WL_len ts45 rfl rfl fun hl10 => ?_
  refine WL_step (S_plain O_lss ⟨T1 rfl, T1 rfl, trivial⟩ rfl rfl) ?_
  refine WL_nil ?_
  refine Fin_then ?_
  refine W_cond rfl (fun h0 => ?_) (fun h0 => ?_)
  · skip
    try simp only [bl] at h0
    refine W_skip ?_
    refine Fin_then ?_
    refine W_seq ?_
    refine W_block ?_
    refine W_region ?_  -- R5 exact.go:149
    refine WL_mv rfl rfl ?_
    refine WL_mv rfl rfl ?_
    refine WL_mv rfl rfl ?_
    refine WL_mv rfl rfl ?_
    refine WL_step (S_plain (O_index ts45 (by omega)) ⟨T1 rfl, T1 rfl, trivial⟩ rfl rfl) ?_
    refine WL_step (S_plain (O_load ta76) ⟨T1 rfl, trivial⟩ rfl rfl) ?_
    refine WL_step (S_plain (O_callN r (List.Mem.head _) cf52 (laws_toTypeS _ (by omega)) rfl) ⟨T1 rfl, trivial⟩ rfl rfl) ?_
    refine WL_step (S_plain (O_indexo ts23 (by omega)) ⟨T1 rfl, T1 rfl, trivial⟩ rfl rfl) ?_
    refine WL_store 0 rfl ⟨T1 rfl, T1 rfl, trivial⟩ (CellsOf.one (OneV.nw OneV.sl)) sz38 (by rw [hfl]; (first | (show _ + 1 ≤ _; omega) | (simp; omega))) ?_
    refine WL_nil ?_
    refine Fin_block ?_
    refine Fin_then ?_
    refine W_region ?_  -- R4 exact.go:148
    refine WL_mv rfl rfl ?_
    refine WL_step (S_plain (O_add (by omega)) ⟨T1 rfl, C1, trivial⟩ rfl rfl) ?_
    refine WL_as rfl rfl ?_
    refine WL_nil ?_
    exact Fin_backp [0] (k + 1) (by omega) (by omega) ⟨⟨rfl, _, rfl, (by first | exact Imp.refl | exact Imp.slv | exact Imp.nil | exact Imp.int (by omega) | exact Imp.int (by simp; done) | exact Imp.bool (by simp_all; done))⟩, trivial⟩ ⟨rfl, rfl, trivial⟩ (.cons (AllImp.eq (filled_step (f := (fun y => (cGrp y).map (A.nw r))) (z := [A.val (.slice none 0 0)]) L k (fun _ => rfl) rfl (by omega)).symm) OSub.nil) rfl (List.Sublist.refl _) rfl
  · skip
    try simp only [bl] at h0
    refine W_exit ?_
    refine Fin_then_exit ?_
    refine Fin_then_exit ?_
    refine Fin_block_exit ?_
    refine Fin_then ?_
    refine W_seq ?_
    refine W_region ?_  -- R6 exact.go:151
    refine WL_freezeSl (k := 1) (L := L) (f := (fun y => (cGrp y).map (A.nw r))) (f' := cGrp) 0 r [] (List.Mem.head _) rfl 3 rfl (by rw [filled_all (by omega)]; simp) (by first | rfl | simp | omega) (by omega) (by simp only [maxLen]; omega) (fun _ => rfl) (fun _ => (AllNw.nws _)) ?_
    refine WL_mv rfl rfl ?_
    refine WL_as rfl rfl ?_
    refine WL_nil ?_
    refine Fin_then ?_
    refine W_ret ?_
    exact RetC rfl (Res1 rfl (RV.tmp rfl Imp.refl))
set_option maxRecDepth 8000 in
theorem laws_eqIntS (L M : (List Int)) : FnC Try.prog 25 [A.sl 1 cInt L, A.sl 1 cInt M] (A.bool (decide (L = M))) := by
  refine Fn_of_W Try.func25 rfl rfl fun r w => ?_
  refine W_seq ?_
  refine W_region ?_  -- R0 exact.go:293
  refine WL_ac rfl ?_
  refine WL_nil ?_
  refine Fin_then ?_
  refine W_seq ?_
  refine W_seq ?_
  refine W_region ?_  -- R1 exact.go:294
  refine WL_mv rfl rfl ?_
  refine WL_len ts42 rfl rfl fun hl7 => ?_
  refine WL_mv rfl rfl ?_
  refine WL_len ts42 rfl rfl fun hl9 => ?_
  refine WL_step (S_plain O_neq ⟨T1 rfl, T1 rfl, trivial⟩ rfl rfl) ?_
  refine WL_nil ?_
  refine Fin_then ?_
  refine W_cond rfl (fun h0 => ?_) (fun h0 => ?_)
  · skip
    try simp only [bl] at h0
    have hne : L ≠ M := fun e => by subst e; simp at h0
    refine W_seq ?_
    refine W_region ?_  -- R2 exact.go:295
    refine WL_ac rfl ?_
    refine WL_nil ?_
    refine Fin_then ?_
    refine W_ret ?_
    refine Fin_then_ret ?_
    exact RetC rfl (Res1 rfl (RV.tmp rfl (Imp.bool (by simp [hne]))))
  · skip
    try simp only [bl] at h0
    have hlen : L.length = M.length := by omega
    refine W_skip ?_
    refine Fin_then ?_
    refine W_seq ?_
    refine W_seq ?_
    refine W_region ?_  -- R3 exact.go:297
    refine WL_ac rfl ?_
    refine WL_nil ?_
    refine Fin_then ?_
    refine W_block ?_
    refine W_loopk [0, 1] (T := Nat) (fun k => k ≤ L.length ∧ ∀ j, j < k → idx L (j : Int) = idx M (j : Int)) (fun k => [(5, true, A.int (k : Int))]) (fun k => L.length - k) 0 ⟨Nat.zero_le _, fun j h => by omega⟩ ⟨⟨rfl, _, rfl, (by first | exact Imp.refl | exact Imp.slv | exact Imp.nil | exact Imp.int (by omega) | exact Imp.int (by simp; done) | exact Imp.bool (by simp_all; done))⟩, trivial⟩ (fun k hx => ?_)
    have hk := hx.1
    refine W_seq ?_
    refine W_seq ?_
    refine W_region ?_  -- R4 exact.go:297
    refine WL_mv rfl rfl ?_
    refine WL_mv rfl rfl ?_
    refine WL_len ts42 rfl rfl fun hl13 => ?_
    refine WL_step (S_plain O_lss ⟨T1 rfl, T1 rfl, trivial⟩ rfl rfl) ?_
    refine WL_nil ?_
    refine Fin_then ?_
    refine W_cond rfl (fun h1 => ?_) (fun h1 => ?_)
    · skip
      try simp only [bl] at h1
      refine W_skip ?_
      refine Fin_then ?_
      refine W_seq ?_
      refine W_block ?_
      refine W_seq ?_
      refine W_draw 9 mix rfl rfl ?_  -- R6 exact.go:298
      refine Chain_cons (S_plain O_move ⟨T1 rfl, trivial⟩ rfl rfl) ?_
      refine Chain_cons (S_plain O_move ⟨T1 rfl, trivial⟩ rfl rfl) ?_
      refine Chain_cons (S_plain (O_index ts42 (by omega)) ⟨T1 rfl, T1 rfl, trivial⟩ rfl rfl) ?_
      refine Chain_cons (S_plain (O_load ta3) ⟨T1 rfl, trivial⟩ rfl rfl) ?_
      refine Chain_cons (S_plain O_move ⟨T1 rfl, trivial⟩ rfl rfl) ?_
      refine Chain_cons (S_plain O_move ⟨T1 rfl, trivial⟩ rfl rfl) ?_
      refine Chain_cons (S_plain (O_index ts42 (by omega)) ⟨T1 rfl, T1 rfl, trivial⟩ rfl rfl) ?_
      refine Chain_cons (S_plain (O_load ta3) ⟨T1 rfl, trivial⟩ rfl rfl) ?_
      refine Chain_cons (S_plain O_neq ⟨T1 rfl, T1 rfl, trivial⟩ rfl rfl) ?_
      refine Chain_nil ?_
      refine WL_nil ?_
      refine Fin_then ?_
      refine W_cond rfl (fun h2 => ?_) (fun h2 => ?_)
      · skip
        try simp only [bl] at h2
        refine W_seq ?_
        refine W_region ?_  -- R7 exact.go:299
        refine WL_ac rfl ?_
        refine WL_nil ?_
        refine Fin_then ?_
        refine W_ret ?_
        refine Fin_block_ret ?_
        refine Fin_then_ret ?_
        refine Fin_then_ret ?_
        refine Fin_block_ret ?_
        refine Fin_then_ret ?_
        exact RetC rfl (Res1 rfl (RV.tmp rfl (Imp.bool (by simp [list_ne_of k h2]))))
      · skip
        try simp only [bl] at h2
        refine W_skip ?_
        refine Fin_block ?_
        refine Fin_then ?_
        refine W_region ?_  -- R5 exact.go:297
        refine WL_mv rfl rfl ?_
        refine WL_step (S_plain (O_add (by omega)) ⟨T1 rfl, C1, trivial⟩ rfl rfl) ?_
        refine WL_as rfl rfl ?_
        refine WL_nil ?_
        exact Fin_back (k + 1) ⟨by omega, fun j hj => by rcases Nat.lt_or_ge j k with q | q; exact hx.2 j q; rw [show j = k from by omega]; exact h2⟩ (by omega) ⟨⟨rfl, _, rfl, (by first | exact Imp.refl | exact Imp.slv | exact Imp.nil | exact Imp.int (by omega) | exact Imp.int (by simp; done) | exact Imp.bool (by simp_all; done))⟩, trivial⟩ ⟨rfl, rfl, trivial⟩ rfl rfl
    · skip
      try simp only [bl] at h1
      refine W_exit ?_
      refine Fin_then_exit ?_
      refine Fin_then_exit ?_
      refine Fin_block_exit ?_
      refine Fin_then ?_
      refine W_seq ?_
      refine W_region ?_  -- R8 exact.go:302
      refine WL_ac rfl ?_
      refine WL_nil ?_
      refine Fin_then ?_
      refine W_ret ?_
      exact RetC rfl (Res1 rfl (RV.tmp rfl (Imp.bool (by simp [list_eq_of hlen (fun j hj => hx.2 j (by omega))]))))
set_option maxRecDepth 8000 in
theorem laws_eqField (t u : Fld) : FnC Try.prog 96 [A.agg (cFld t), A.agg (cFld u)] (A.bool (decide (t = u))) := by
  refine Fn_of_W Try.func96 rfl rfl fun r w => ?_
  refine W_seq ?_
  refine W_region ?_  -- R0 exact.go:399
  refine WL_step (S_plain O_boxg ⟨T1 rfl, trivial⟩ rfl rfl) ?_
  refine WL_step (S_plain O_boxg ⟨T1 rfl, trivial⟩ rfl rfl) ?_
  refine WL_ac rfl ?_
  refine WL_nil ?_
  refine Fin_then ?_
  refine W_seq ?_
  refine W_seq ?_
  refine W_region ?_  -- R1 exact.go:400
  refine WL_step (S_plain (O_field tf33_0) ⟨T1 rfl, trivial⟩ rfl rfl) ?_
  refine WL_step (S_plain (O_load ta3) ⟨T1 rfl, trivial⟩ rfl rfl) ?_
  refine WL_step (S_plain (O_field tf33_0) ⟨T1 rfl, trivial⟩ rfl rfl) ?_
  refine WL_step (S_plain (O_load ta3) ⟨T1 rfl, trivial⟩ rfl rfl) ?_
  refine WL_step (S_plain O_neq ⟨T1 rfl, T1 rfl, trivial⟩ rfl rfl) ?_
  refine WL_nil ?_
  refine Fin_then ?_
  refine W_cond rfl (fun h0 => ?_) (fun h0 => ?_)
  · skip
    try simp only [bl] at h0
    refine W_seq ?_
    refine W_region ?_  -- R2 exact.go:401
    refine WL_ac rfl ?_
    refine WL_nil ?_
    refine Fin_then ?_
    refine W_ret ?_
    refine Fin_then_ret ?_
    exact RetC rfl (Res1 rfl (RV.tmp rfl (Imp.bool (by simp only [Fld.eqs]; grind))))
  · skip
    try simp only [bl] at h0
    refine W_skip ?_
    refine Fin_then ?_
    refine W_seq ?_
    refine W_seq ?_
    refine W_region ?_  -- R3 exact.go:403
    refine WL_step (S_plain (O_field tf33_1) ⟨T1 rfl, trivial⟩ rfl rfl) ?_
    refine WL_step (S_plain (O_load ta3) ⟨T1 rfl, trivial⟩ rfl rfl) ?_
    refine WL_step (S_plain (O_field tf33_1) ⟨T1 rfl, trivial⟩ rfl rfl) ?_
    refine WL_step (S_plain (O_load ta3) ⟨T1 rfl, trivial⟩ rfl rfl) ?_
    refine WL_step (S_plain O_neq ⟨T1 rfl, T1 rfl, trivial⟩ rfl rfl) ?_
    refine WL_nil ?_
    refine Fin_then ?_
    refine W_cond rfl (fun h1 => ?_) (fun h1 => ?_)
    · skip
      try simp only [bl] at h1
      refine W_seq ?_
      refine W_region ?_  -- R4 exact.go:404
      refine WL_ac rfl ?_
      refine WL_nil ?_
      refine Fin_then ?_
      refine W_ret ?_
      refine Fin_then_ret ?_
      exact RetC rfl (Res1 rfl (RV.tmp rfl (Imp.bool (by simp only [Fld.eqs]; grind))))
    · skip
      try simp only [bl] at h1
      refine W_skip ?_
      refine Fin_then ?_
      refine W_seq ?_
      refine W_seq ?_
      refine W_region ?_  -- R5 exact.go:406
      refine WL_step (S_plain (O_field tf33_2) ⟨T1 rfl, trivial⟩ rfl rfl) ?_
      refine WL_step (S_plain (O_load ta4) ⟨T1 rfl, trivial⟩ rfl rfl) ?_
      refine WL_step (S_plain (O_field tf33_2) ⟨T1 rfl, trivial⟩ rfl rfl) ?_
      refine WL_step (S_plain (O_load ta4) ⟨T1 rfl, trivial⟩ rfl rfl) ?_
      refine WL_step (S_plain (O_neb ub4) ⟨T1 rfl, T1 rfl, trivial⟩ rfl rfl) ?_
      refine WL_nil ?_
      refine Fin_then ?_
      refine W_cond rfl (fun h2 => ?_) (fun h2 => ?_)
      · skip
        try simp only [bl] at h2
        refine W_seq ?_
        refine W_region ?_  -- R6 exact.go:407
        refine WL_ac rfl ?_
        refine WL_nil ?_
        refine Fin_then ?_
        refine W_ret ?_
        refine Fin_then_ret ?_
        exact RetC rfl (Res1 rfl (RV.tmp rfl (Imp.bool (by simp only [Fld.eqs]; grind))))
      · skip
        try simp only [bl] at h2
        refine W_skip ?_
        refine Fin_then ?_
        refine W_seq ?_
        refine W_region ?_  -- R7 exact.go:409
        refine WL_ac rfl ?_
        refine WL_nil ?_
        refine Fin_then ?_
        refine W_ret ?_
        exact RetC rfl (Res1 rfl (RV.tmp rfl (Imp.bool (by simp only [Fld.eqs]; grind))))
set_option maxRecDepth 8000 in
theorem laws_eqFieldS (L M : (List Fld)) : FnC Try.prog 88 [A.sl 3 cFld L, A.sl 3 cFld M] (A.bool (decide (L = M))) := by
  refine Fn_of_W Try.func88 rfl rfl fun r w => ?_
  refine W_seq ?_
  refine W_region ?_  -- R0 exact.go:412
  refine WL_ac rfl ?_
  refine WL_nil ?_
  refine Fin_then ?_
  refine W_seq ?_
  refine W_seq ?_
  refine W_region ?_  -- R1 exact.go:413
  refine WL_mv rfl rfl ?_
  refine WL_len ts27 rfl rfl fun hl7 => ?_
  refine WL_mv rfl rfl ?_
  refine WL_len ts27 rfl rfl fun hl9 => ?_
  refine WL_step (S_plain O_neq ⟨T1 rfl, T1 rfl, trivial⟩ rfl rfl) ?_
  refine WL_nil ?_
  refine Fin_then ?_
  refine W_cond rfl (fun h0 => ?_) (fun h0 => ?_)
  · skip
    try simp only [bl] at h0
    have hne : L ≠ M := fun e => by subst e; simp at h0
    refine W_seq ?_
    refine W_region ?_  -- R2 exact.go:414
    refine WL_ac rfl ?_
    refine WL_nil ?_
    refine Fin_then ?_
    refine W_ret ?_
    refine Fin_then_ret ?_
    exact RetC rfl (Res1 rfl (RV.tmp rfl (Imp.bool (by simp [hne]))))
  · skip
    try simp only [bl] at h0
    have hlen : L.length = M.length := by omega
    refine W_skip ?_
    refine Fin_then ?_
    refine W_seq ?_
    refine W_seq ?_
    refine W_region ?_  -- R3 exact.go:416
    refine WL_ac rfl ?_
    refine WL_nil ?_
    refine Fin_then ?_
    refine W_block ?_
    refine W_loopk [0, 1] (T := Nat) (fun k => k ≤ L.length ∧ ∀ j, j < k → idx L (j : Int) = idx M (j : Int)) (fun k => [(5, true, A.int (k : Int))]) (fun k => L.length - k) 0 ⟨Nat.zero_le _, fun j h => by omega⟩ ⟨⟨rfl, _, rfl, (by first | exact Imp.refl | exact Imp.slv | exact Imp.nil | exact Imp.int (by omega) | exact Imp.int (by simp; done) | exact Imp.bool (by simp_all; done))⟩, trivial⟩ (fun k hx => ?_)
    have hk := hx.1
    refine W_seq ?_
    refine W_seq ?_
    refine W_region ?_  -- R4 exact.go:416
    refine WL_mv rfl rfl ?_
    refine WL_mv rfl rfl ?_
    refine WL_len ts27 rfl rfl fun hl13 => ?_
    refine WL_step (S_plain O_lss ⟨T1 rfl, T1 rfl, trivial⟩ rfl rfl) ?_
    refine WL_nil ?_
    refine Fin_then ?_
    refine W_cond rfl (fun h1 => ?_) (fun h1 => ?_)
    · skip
      try simp only [bl] at h1
      refine W_skip ?_
      refine Fin_then ?_
      refine W_seq ?_
      refine W_block ?_
      refine W_seq ?_
      refine W_draw 10 mix rfl rfl ?_  -- R6 exact.go:417
      refine Chain_cons (S_plain O_move ⟨T1 rfl, trivial⟩ rfl rfl) ?_
      refine Chain_cons (S_plain O_move ⟨T1 rfl, trivial⟩ rfl rfl) ?_
      refine Chain_cons (S_plain (O_index ts27 (by omega)) ⟨T1 rfl, T1 rfl, trivial⟩ rfl rfl) ?_
      refine Chain_cons (S_plain (O_loadgw tg33 rfl) ⟨T1 rfl, trivial⟩ rfl rfl) ?_
      refine Chain_cons (S_plain O_move ⟨T1 rfl, trivial⟩ rfl rfl) ?_
      refine Chain_cons (S_plain O_move ⟨T1 rfl, trivial⟩ rfl rfl) ?_
      refine Chain_cons (S_plain (O_index ts27 (by omega)) ⟨T1 rfl, T1 rfl, trivial⟩ rfl rfl) ?_
      refine Chain_cons (S_plain (O_loadgw tg33 rfl) ⟨T1 rfl, trivial⟩ rfl rfl) ?_
      refine Chain_cons (S_plain (O_call cf96 (laws_eqField _ _) rfl) ⟨T1 rfl, T1 rfl, trivial⟩ rfl rfl) ?_
      refine Chain_cons (S_plain O_not ⟨T1 rfl, trivial⟩ rfl rfl) ?_
      refine Chain_nil ?_
      refine WL_nil ?_
      refine Fin_then ?_
      refine W_cond rfl (fun h2 => ?_) (fun h2 => ?_)
      · skip
        try simp only [bl] at h2
        refine W_seq ?_
        refine W_region ?_  -- R7 exact.go:418
        refine WL_ac rfl ?_
        refine WL_nil ?_
        refine Fin_then ?_
        refine W_ret ?_
        refine Fin_block_ret ?_
        refine Fin_then_ret ?_
        refine Fin_then_ret ?_
        refine Fin_block_ret ?_
        refine Fin_then_ret ?_
        exact RetC rfl (Res1 rfl (RV.tmp rfl (Imp.bool (by simp [list_ne_of k h2]))))
      · skip
        try simp only [bl] at h2
        refine W_skip ?_
        refine Fin_block ?_
        refine Fin_then ?_
        refine W_region ?_  -- R5 exact.go:416
        refine WL_mv rfl rfl ?_
        refine WL_step (S_plain (O_add (by omega)) ⟨T1 rfl, C1, trivial⟩ rfl rfl) ?_
        refine WL_as rfl rfl ?_
        refine WL_nil ?_
        exact Fin_back (k + 1) ⟨by omega, fun j hj => by rcases Nat.lt_or_ge j k with q | q; exact hx.2 j q; rw [show j = k from by omega]; exact h2⟩ (by omega) ⟨⟨rfl, _, rfl, (by first | exact Imp.refl | exact Imp.slv | exact Imp.nil | exact Imp.int (by omega) | exact Imp.int (by simp; done) | exact Imp.bool (by simp_all; done))⟩, trivial⟩ ⟨rfl, rfl, trivial⟩ rfl rfl
    · skip
      try simp only [bl] at h1
      refine W_exit ?_
      refine Fin_then_exit ?_
      refine Fin_then_exit ?_
      refine Fin_block_exit ?_
      refine Fin_then ?_
      refine W_seq ?_
      refine W_region ?_  -- R8 exact.go:421
      refine WL_ac rfl ?_
      refine WL_nil ?_
      refine Fin_then ?_
      refine W_ret ?_
      exact RetC rfl (Res1 rfl (RV.tmp rfl (Imp.bool (by simp [list_eq_of hlen (fun j hj => hx.2 j (by omega))]))))
set_option maxRecDepth 8000 in
theorem laws_eqType (t u : Ty) : FnC Try.prog 73 [A.agg (cTy t), A.agg (cTy u)] (A.bool (decide (t = u))) := by
  refine Fn_of_W Try.func73 rfl rfl fun r w => ?_
  refine W_seq ?_
  refine W_region ?_  -- R0 exact.go:424
  refine WL_step (S_plain O_boxg ⟨T1 rfl, trivial⟩ rfl rfl) ?_
  refine WL_step (S_plain O_boxg ⟨T1 rfl, trivial⟩ rfl rfl) ?_
  refine WL_ac rfl ?_
  refine WL_nil ?_
  refine Fin_then ?_
  refine W_seq ?_
  refine W_seq ?_
  refine W_region ?_  -- R1 exact.go:425
  refine WL_step (S_plain (O_field tf29_0) ⟨T1 rfl, trivial⟩ rfl rfl) ?_
  refine WL_step (S_plain (O_load ta3) ⟨T1 rfl, trivial⟩ rfl rfl) ?_
  refine WL_step (S_plain (O_field tf29_0) ⟨T1 rfl, trivial⟩ rfl rfl) ?_
  refine WL_step (S_plain (O_load ta3) ⟨T1 rfl, trivial⟩ rfl rfl) ?_
  refine WL_step (S_plain O_neq ⟨T1 rfl, T1 rfl, trivial⟩ rfl rfl) ?_
  refine WL_nil ?_
  refine Fin_then ?_
  refine W_cond rfl (fun h0 => ?_) (fun h0 => ?_)
  · skip
    try simp only [bl] at h0
    refine W_seq ?_
    refine W_region ?_  -- R2 exact.go:426
    refine WL_ac rfl ?_
    refine WL_nil ?_
    refine Fin_then ?_
    refine W_ret ?_
    refine Fin_then_ret ?_
    exact RetC rfl (Res1 rfl (RV.tmp rfl (Imp.bool (by simp only [Ty.eqs]; grind))))
  · skip
    try simp only [bl] at h0
    refine W_skip ?_
    refine Fin_then ?_
    refine W_seq ?_
    refine W_seq ?_
    refine W_region ?_  -- R3 exact.go:428
    refine WL_step (S_plain (O_field tf29_1) ⟨T1 rfl, trivial⟩ rfl rfl) ?_
    refine WL_step (S_plain (O_load ta3) ⟨T1 rfl, trivial⟩ rfl rfl) ?_
    refine WL_step (S_plain (O_field tf29_1) ⟨T1 rfl, trivial⟩ rfl rfl) ?_
    refine WL_step (S_plain (O_load ta3) ⟨T1 rfl, trivial⟩ rfl rfl) ?_
    refine WL_step (S_plain O_neq ⟨T1 rfl, T1 rfl, trivial⟩ rfl rfl) ?_
    refine WL_nil ?_
    refine Fin_then ?_
    refine W_cond rfl (fun h1 => ?_) (fun h1 => ?_)
    · skip
      try simp only [bl] at h1
      refine W_seq ?_
      refine W_region ?_  -- R4 exact.go:429
      refine WL_ac rfl ?_
      refine WL_nil ?_
      refine Fin_then ?_
      refine W_ret ?_
      refine Fin_then_ret ?_
      exact RetC rfl (Res1 rfl (RV.tmp rfl (Imp.bool (by simp only [Ty.eqs]; grind))))
    · skip
      try simp only [bl] at h1
      refine W_skip ?_
      refine Fin_then ?_
      refine W_seq ?_
      refine W_seq ?_
      refine W_region ?_  -- R5 exact.go:431
      refine WL_step (S_plain (O_field tf29_2) ⟨T1 rfl, trivial⟩ rfl rfl) ?_
      refine WL_step (S_plain (O_load ta4) ⟨T1 rfl, trivial⟩ rfl rfl) ?_
      refine WL_step (S_plain (O_field tf29_2) ⟨T1 rfl, trivial⟩ rfl rfl) ?_
      refine WL_step (S_plain (O_load ta4) ⟨T1 rfl, trivial⟩ rfl rfl) ?_
      refine WL_step (S_plain (O_neb ub4) ⟨T1 rfl, T1 rfl, trivial⟩ rfl rfl) ?_
      refine WL_nil ?_
      refine Fin_then ?_
      refine W_cond rfl (fun h2 => ?_) (fun h2 => ?_)
      · skip
        try simp only [bl] at h2
        refine W_seq ?_
        refine W_region ?_  -- R6 exact.go:432
        refine WL_ac rfl ?_
        refine WL_nil ?_
        refine Fin_then ?_
        refine W_ret ?_
        refine Fin_then_ret ?_
        exact RetC rfl (Res1 rfl (RV.tmp rfl (Imp.bool (by simp only [Ty.eqs]; grind))))
      · skip
        try simp only [bl] at h2
        refine W_skip ?_
        refine Fin_then ?_
        refine W_seq ?_
        refine W_seq ?_
        refine W_region ?_  -- R7 exact.go:434
        refine WL_step (S_plain (O_field tf29_3) ⟨T1 rfl, trivial⟩ rfl rfl) ?_
        refine WL_step (S_plain (O_load ta27) ⟨T1 rfl, trivial⟩ rfl rfl) ?_
        refine WL_step (S_plain (O_field tf29_3) ⟨T1 rfl, trivial⟩ rfl rfl) ?_
        refine WL_step (S_plain (O_load ta27) ⟨T1 rfl, trivial⟩ rfl rfl) ?_
        refine WL_step (S_plain (O_call cf88 (laws_eqFieldS _ _) rfl) ⟨T1 rfl, T1 rfl, trivial⟩ rfl rfl) ?_
        refine WL_step (S_plain O_not ⟨T1 rfl, trivial⟩ rfl rfl) ?_
        refine WL_nil ?_
        refine Fin_then ?_
        refine W_cond rfl (fun h3 => ?_) (fun h3 => ?_)
        · skip
          try simp only [bl] at h3
          refine W_seq ?_
          refine W_region ?_  -- R8 exact.go:435
          refine WL_ac rfl ?_
          refine WL_nil ?_
          refine Fin_then ?_
          refine W_ret ?_
          refine Fin_then_ret ?_
          exact RetC rfl (Res1 rfl (RV.tmp rfl (Imp.bool (by simp only [Ty.eqs]; grind))))
        · skip
          try simp only [bl] at h3
          refine W_skip ?_
          refine Fin_then ?_
          refine W_seq ?_
          refine W_region ?_  -- R9 exact.go:437
          refine WL_ac rfl ?_
          refine WL_nil ?_
          refine Fin_then ?_
          refine W_ret ?_
          exact RetC rfl (Res1 rfl (RV.tmp rfl (Imp.bool (by simp only [Ty.eqs]; grind))))
set_option maxRecDepth 8000 in
theorem laws_eqTypeS (L M : (List Ty)) : FnC Try.prog 53 [A.sl 4 cTy L, A.sl 4 cTy M] (A.bool (decide (L = M))) := by
  refine Fn_of_W Try.func53 rfl rfl fun r w => ?_
  refine W_seq ?_
  refine W_region ?_  -- R0 exact.go:440
  refine WL_ac rfl ?_
  refine WL_nil ?_
  refine Fin_then ?_
  refine W_seq ?_
  refine W_seq ?_
  refine W_region ?_  -- R1 exact.go:441
  refine WL_mv rfl rfl ?_
  refine WL_len ts38 rfl rfl fun hl7 => ?_
  refine WL_mv rfl rfl ?_
  refine WL_len ts38 rfl rfl fun hl9 => ?_
  refine WL_step (S_plain O_neq ⟨T1 rfl, T1 rfl, trivial⟩ rfl rfl) ?_
  refine WL_nil ?_
  refine Fin_then ?_
  refine W_cond rfl (fun h0 => ?_) (fun h0 => ?_)
  · skip
    try simp only [bl] at h0
    have hne : L ≠ M := fun e => by subst e; simp at h0
    refine W_seq ?_
    refine W_region ?_  -- R2 exact.go:442
    refine WL_ac rfl ?_
    refine WL_nil ?_
    refine Fin_then ?_
    refine W_ret ?_
    refine Fin_then_ret ?_
    exact RetC rfl (Res1 rfl (RV.tmp rfl (Imp.bool (by simp [hne]))))
  · skip
    try simp only [bl] at h0
    have hlen : L.length = M.length := by omega
    refine W_skip ?_
    refine Fin_then ?_
    refine W_seq ?_
    refine W_seq ?_
    refine W_region ?_  -- R3 exact.go:444
    refine WL_ac rfl ?_
    refine WL_nil ?_
    refine Fin_then ?_
    refine W_block ?_
    refine W_loopk [0, 1] (T := Nat) (fun k => k ≤ L.length ∧ ∀ j, j < k → idx L (j : Int) = idx M (j : Int)) (fun k => [(5, true, A.int (k : Int))]) (fun k => L.length - k) 0 ⟨Nat.zero_le _, fun j h => by omega⟩ ⟨⟨rfl, _, rfl, (by first | exact Imp.refl | exact Imp.slv | exact Imp.nil | exact Imp.int (by omega) | exact Imp.int (by simp; done) | exact Imp.bool (by simp_all; done))⟩, trivial⟩ (fun k hx => ?_)
    have hk := hx.1
    refine W_seq ?_
    refine W_seq ?_
    refine W_region ?_  -- R4 exact.go:444
    refine WL_mv rfl rfl ?_
    refine WL_mv rfl rfl ?_
    refine WL_len ts38 rfl rfl fun hl13 => ?_
    refine WL_step (S_plain O_lss ⟨T1 rfl, T1 rfl, trivial⟩ rfl rfl) ?_
    refine WL_nil ?_
    refine Fin_then ?_
    refine W_cond rfl (fun h1 => ?_) (fun h1 => ?_)
    · skip
      try simp only [bl] at h1
      refine W_skip ?_
      refine Fin_then ?_
      refine W_seq ?_
      refine W_block ?_
      refine W_seq ?_
      refine W_draw 10 mix rfl rfl ?_  -- R6 exact.go:445
      refine Chain_cons (S_plain O_move ⟨T1 rfl, trivial⟩ rfl rfl) ?_
      refine Chain_cons (S_plain O_move ⟨T1 rfl, trivial⟩ rfl rfl) ?_
      refine Chain_cons (S_plain (O_index ts38 (by omega)) ⟨T1 rfl, T1 rfl, trivial⟩ rfl rfl) ?_
      refine Chain_cons (S_plain (O_loadgw tg29 rfl) ⟨T1 rfl, trivial⟩ rfl rfl) ?_
      refine Chain_cons (S_plain O_move ⟨T1 rfl, trivial⟩ rfl rfl) ?_
      refine Chain_cons (S_plain O_move ⟨T1 rfl, trivial⟩ rfl rfl) ?_
      refine Chain_cons (S_plain (O_index ts38 (by omega)) ⟨T1 rfl, T1 rfl, trivial⟩ rfl rfl) ?_
      refine Chain_cons (S_plain (O_loadgw tg29 rfl) ⟨T1 rfl, trivial⟩ rfl rfl) ?_
      refine Chain_cons (S_plain (O_call cf73 (laws_eqType _ _) rfl) ⟨T1 rfl, T1 rfl, trivial⟩ rfl rfl) ?_
      refine Chain_cons (S_plain O_not ⟨T1 rfl, trivial⟩ rfl rfl) ?_
      refine Chain_nil ?_
      refine WL_nil ?_
      refine Fin_then ?_
      refine W_cond rfl (fun h2 => ?_) (fun h2 => ?_)
      · skip
        try simp only [bl] at h2
        refine W_seq ?_
        refine W_region ?_  -- R7 exact.go:446
        refine WL_ac rfl ?_
        refine WL_nil ?_
        refine Fin_then ?_
        refine W_ret ?_
        refine Fin_block_ret ?_
        refine Fin_then_ret ?_
        refine Fin_then_ret ?_
        refine Fin_block_ret ?_
        refine Fin_then_ret ?_
        exact RetC rfl (Res1 rfl (RV.tmp rfl (Imp.bool (by simp [list_ne_of k h2]))))
      · skip
        try simp only [bl] at h2
        refine W_skip ?_
        refine Fin_block ?_
        refine Fin_then ?_
        refine W_region ?_  -- R5 exact.go:444
        refine WL_mv rfl rfl ?_
        refine WL_step (S_plain (O_add (by omega)) ⟨T1 rfl, C1, trivial⟩ rfl rfl) ?_
        refine WL_as rfl rfl ?_
        refine WL_nil ?_
        exact Fin_back (k + 1) ⟨by omega, fun j hj => by rcases Nat.lt_or_ge j k with q | q; exact hx.2 j q; rw [show j = k from by omega]; exact h2⟩ (by omega) ⟨⟨rfl, _, rfl, (by first | exact Imp.refl | exact Imp.slv | exact Imp.nil | exact Imp.int (by omega) | exact Imp.int (by simp; done) | exact Imp.bool (by simp_all; done))⟩, trivial⟩ ⟨rfl, rfl, trivial⟩ rfl rfl
    · skip
      try simp only [bl] at h1
      refine W_exit ?_
      refine Fin_then_exit ?_
      refine Fin_then_exit ?_
      refine Fin_block_exit ?_
      refine Fin_then ?_
      refine W_seq ?_
      refine W_region ?_  -- R8 exact.go:449
      refine WL_ac rfl ?_
      refine WL_nil ?_
      refine Fin_then ?_
      refine W_ret ?_
      exact RetC rfl (Res1 rfl (RV.tmp rfl (Imp.bool (by simp [list_eq_of hlen (fun j hj => hx.2 j (by omega))]))))
set_option maxRecDepth 8000 in
theorem laws_eqTypeSS (L M : (List (List Ty))) : FnC Try.prog 26 [A.sl 1 cGrp L, A.sl 1 cGrp M] (A.bool (decide (L = M))) := by
  refine Fn_of_W Try.func26 rfl rfl fun r w => ?_
  refine W_seq ?_
  refine W_region ?_  -- R0 exact.go:452
  refine WL_ac rfl ?_
  refine WL_nil ?_
  refine Fin_then ?_
  refine W_seq ?_
  refine W_seq ?_
  refine W_region ?_  -- R1 exact.go:453
  refine WL_mv rfl rfl ?_
  refine WL_len ts23 rfl rfl fun hl7 => ?_
  refine WL_mv rfl rfl ?_
  refine WL_len ts23 rfl rfl fun hl9 => ?_
  refine WL_step (S_plain O_neq ⟨T1 rfl, T1 rfl, trivial⟩ rfl rfl) ?_
  refine WL_nil ?_
  refine Fin_then ?_
  refine W_cond rfl (fun h0 => ?_) (fun h0 => ?_)
  · skip
    try simp only [bl] at h0
    have hne : L ≠ M := fun e => by subst e; simp at h0
    refine W_seq ?_
    refine W_region ?_  -- R2 exact.go:454
    refine WL_ac rfl ?_
    refine WL_nil ?_
    refine Fin_then ?_
    refine W_ret ?_
    refine Fin_then_ret ?_
    exact RetC rfl (Res1 rfl (RV.tmp rfl (Imp.bool (by simp [hne]))))
  · skip
    try simp only [bl] at h0
    have hlen : L.length = M.length := by omega
    refine W_skip ?_
    refine Fin_then ?_
    refine W_seq ?_
    refine W_seq ?_
    refine W_region ?_  -- R3 exact.go:456
    refine WL_ac rfl ?_
    refine WL_nil ?_
    refine Fin_then ?_
    refine W_block ?_
    refine W_loopk [0, 1] (T := Nat) (fun k => k ≤ L.length ∧ ∀ j, j < k → idx L (j : Int) = idx M (j : Int)) (fun k => [(5, true, A.int (k : Int))]) (fun k => L.length - k) 0 ⟨Nat.zero_le _, fun j h => by omega⟩ ⟨⟨rfl, _, rfl, (by first | exact Imp.refl | exact Imp.slv | exact Imp.nil | exact Imp.int (by omega) | exact Imp.int (by simp; done) | exact Imp.bool (by simp_all; done))⟩, trivial⟩ (fun k hx => ?_)
    have hk := hx.1
    refine W_seq ?_
    refine W_seq ?_
    refine W_region ?_  -- R4 exact.go:456
    refine WL_mv rfl rfl ?_
    refine WL_mv rfl rfl ?_
    refine WL_len ts23 rfl rfl fun hl13 => ?_
    refine WL_step (S_plain O_lss ⟨T1 rfl, T1 rfl, trivial⟩ rfl rfl) ?_
    refine WL_nil ?_
    refine Fin_then ?_
    refine W_cond rfl (fun h1 => ?_) (fun h1 => ?_)
    · skip
      try simp only [bl] at h1
      refine W_skip ?_
      refine Fin_then ?_
      refine W_seq ?_
      refine W_block ?_
      refine W_seq ?_
      refine W_draw 10 mix rfl rfl ?_  -- R6 exact.go:457
      refine Chain_cons (S_plain O_move ⟨T1 rfl, trivial⟩ rfl rfl) ?_
      refine Chain_cons (S_plain O_move ⟨T1 rfl, trivial⟩ rfl rfl) ?_
      refine Chain_cons (S_plain (O_index ts23 (by omega)) ⟨T1 rfl, T1 rfl, trivial⟩ rfl rfl) ?_
      refine Chain_cons (S_plain (O_load ta38) ⟨T1 rfl, trivial⟩ rfl rfl) ?_
      refine Chain_cons (S_plain O_move ⟨T1 rfl, trivial⟩ rfl rfl) ?_
      refine Chain_cons (S_plain O_move ⟨T1 rfl, trivial⟩ rfl rfl) ?_
      refine Chain_cons (S_plain (O_index ts23 (by omega)) ⟨T1 rfl, T1 rfl, trivial⟩ rfl rfl) ?_
      refine Chain_cons (S_plain (O_load ta38) ⟨T1 rfl, trivial⟩ rfl rfl) ?_
      refine Chain_cons (S_plain (O_call cf53 (laws_eqTypeS _ _) rfl) ⟨T1 rfl, T1 rfl, trivial⟩ rfl rfl) ?_
      refine Chain_cons (S_plain O_not ⟨T1 rfl, trivial⟩ rfl rfl) ?_
      refine Chain_nil ?_
      refine WL_nil ?_
      refine Fin_then ?_
      refine W_cond rfl (fun h2 => ?_) (fun h2 => ?_)
      · skip
        try simp only [bl] at h2
        refine W_seq ?_
        refine W_region ?_  -- R7 exact.go:458
        refine WL_ac rfl ?_
        refine WL_nil ?_
        refine Fin_then ?_
        refine W_ret ?_
        refine Fin_block_ret ?_
        refine Fin_then_ret ?_
        refine Fin_then_ret ?_
        refine Fin_block_ret ?_
        refine Fin_then_ret ?_
        exact RetC rfl (Res1 rfl (RV.tmp rfl (Imp.bool (by simp [list_ne_of k h2]))))
      · skip
        try simp only [bl] at h2
        refine W_skip ?_
        refine Fin_block ?_
        refine Fin_then ?_
        refine W_region ?_  -- R5 exact.go:456
        refine WL_mv rfl rfl ?_
        refine WL_step (S_plain (O_add (by omega)) ⟨T1 rfl, C1, trivial⟩ rfl rfl) ?_
        refine WL_as rfl rfl ?_
        refine WL_nil ?_
        exact Fin_back (k + 1) ⟨by omega, fun j hj => by rcases Nat.lt_or_ge j k with q | q; exact hx.2 j q; rw [show j = k from by omega]; exact h2⟩ (by omega) ⟨⟨rfl, _, rfl, (by first | exact Imp.refl | exact Imp.slv | exact Imp.nil | exact Imp.int (by omega) | exact Imp.int (by simp; done) | exact Imp.bool (by simp_all; done))⟩, trivial⟩ ⟨rfl, rfl, trivial⟩ rfl rfl
    · skip
      try simp only [bl] at h1
      refine W_exit ?_
      refine Fin_then_exit ?_
      refine Fin_then_exit ?_
      refine Fin_block_exit ?_
      refine Fin_then ?_
      refine W_seq ?_
      refine W_region ?_  -- R8 exact.go:461
      refine WL_ac rfl ?_
      refine WL_nil ?_
      refine Fin_then ?_
      refine W_ret ?_
      exact RetC rfl (Res1 rfl (RV.tmp rfl (Imp.bool (by simp [list_eq_of hlen (fun j hj => hx.2 j (by omega))]))))
end Go.Proofs.Ytilddfgifjejbaa
