import Derived.Test.YtfjggobjijeniaaRows
import Derived.Test.YtfjggobjijeniaaWalk3
import Derived.Test.YtfjggobjijeniaaWalk2
import Derived.Test.YtfjggobjijeniaaPure6
import Derived.Test.YtfjggobjijeniaaPure7
import Derived.Test.YtfjggobjijeniaaPure8
import Derived.Test.YtfjggobjijeniaaA1
import Derived.Test.YtfjggobjijeniaaA2
import Derived.Test.YtfjggobjijeniaaA4
import Derived.Test.YtfjggobjijeniaaA5
import Derived.Test.YtfjggobjijeniaaA7
import Derived.Test.YtfjggobjijeniaaA8
namespace Go.Proofs.Ytfjggobjijeniaa.A16
open Go Go.RowKit Go.L
theorem mix : Try.prog.follows .mixedOrders = true := by kernel_rfl
theorem cf108 : CallF Try.prog 108 := fun w vs => by kernel_rfl
theorem cf109 : CallF Try.prog 109 := fun w vs => by kernel_rfl
theorem cf110 : CallF Try.prog 110 := fun w vs => by kernel_rfl
theorem cf111 : CallF Try.prog 111 := fun w vs => by kernel_rfl
theorem cf112 : CallF Try.prog 112 := fun w vs => by kernel_rfl
theorem cf114 : CallF Try.prog 114 := fun w vs => by kernel_rfl
theorem cf115 : CallF Try.prog 115 := fun w vs => by kernel_rfl
theorem cf116 : CallF Try.prog 116 := fun w vs => by kernel_rfl
theorem cf118 : CallF Try.prog 118 := fun w vs => by kernel_rfl
theorem cf119 : CallF Try.prog 119 := fun w vs => by kernel_rfl
theorem cf12 : CallF Try.prog 12 := fun w vs => by kernel_rfl
theorem cf148 : CallF Try.prog 148 := fun w vs => by kernel_rfl
theorem cf149 : CallF Try.prog 149 := fun w vs => by kernel_rfl
theorem cf15 : CallF Try.prog 15 := fun w vs => by kernel_rfl
theorem cf150 : CallF Try.prog 150 := fun w vs => by kernel_rfl
theorem cf151 : CallF Try.prog 151 := fun w vs => by kernel_rfl
theorem cf152 : CallF Try.prog 152 := fun w vs => by kernel_rfl
theorem cf154 : CallF Try.prog 154 := fun w vs => by kernel_rfl
theorem cf155 : CallF Try.prog 155 := fun w vs => by kernel_rfl
theorem cf156 : CallF Try.prog 156 := fun w vs => by kernel_rfl
theorem cf157 : CallF Try.prog 157 := fun w vs => by kernel_rfl
theorem cf158 : CallF Try.prog 158 := fun w vs => by kernel_rfl
theorem cf17 : CallF Try.prog 17 := fun w vs => by kernel_rfl
theorem cf174 : CallF Try.prog 174 := fun w vs => by kernel_rfl
theorem cf175 : CallF Try.prog 175 := fun w vs => by kernel_rfl
theorem cf176 : CallF Try.prog 176 := fun w vs => by kernel_rfl
theorem cf28 : CallF Try.prog 28 := fun w vs => by kernel_rfl
theorem cf41 : CallF Try.prog 41 := fun w vs => by kernel_rfl
theorem cf42 : CallF Try.prog 42 := fun w vs => by kernel_rfl
theorem cf43 : CallF Try.prog 43 := fun w vs => by kernel_rfl
theorem cf47 : CallF Try.prog 47 := fun w vs => by kernel_rfl
theorem cf55 : CallF Try.prog 55 := fun w vs => by kernel_rfl
theorem cf56 : CallF Try.prog 56 := fun w vs => by kernel_rfl
theorem cf57 : CallF Try.prog 57 := fun w vs => by kernel_rfl
theorem cf58 : CallF Try.prog 58 := fun w vs => by kernel_rfl
theorem cf59 : CallF Try.prog 59 := fun w vs => by kernel_rfl
theorem cf60 : CallF Try.prog 60 := fun w vs => by kernel_rfl
theorem cf61 : CallF Try.prog 61 := fun w vs => by kernel_rfl
theorem cf62 : CallF Try.prog 62 := fun w vs => by kernel_rfl
theorem cf64 : CallF Try.prog 64 := fun w vs => by kernel_rfl
theorem cf65 : CallF Try.prog 65 := fun w vs => by kernel_rfl
theorem cf69 : CallF Try.prog 69 := fun w vs => by kernel_rfl
theorem cf89 : CallF Try.prog 89 := fun w vs => by kernel_rfl
theorem cf9 : CallF Try.prog 9 := fun w vs => by kernel_rfl
theorem cf99 : CallF Try.prog 99 := fun w vs => by kernel_rfl
theorem sz102 : sizeAt Try.prog 102 = some 1 := by kernel_rfl
theorem sz104 : sizeAt Try.prog 104 = some 6 := by kernel_rfl
theorem sz171 : sizeAt Try.prog 171 = some 3 := by kernel_rfl
theorem sz220 : sizeAt Try.prog 220 = some 68 := by kernel_rfl
theorem sz3 : sizeAt Try.prog 3 = some 1 := by kernel_rfl
theorem sz31 : sizeAt Try.prog 31 = some 1 := by kernel_rfl
theorem sz37 : sizeAt Try.prog 37 = some 3 := by kernel_rfl
theorem sz50 : sizeAt Try.prog 50 = some 1 := by kernel_rfl
theorem sz51 : sizeAt Try.prog 51 = some 1 := by kernel_rfl
theorem sz53 : sizeAt Try.prog 53 = some 3 := by kernel_rfl
theorem sz88 : sizeAt Try.prog 88 = some 1 := by kernel_rfl
theorem ta102 : TA Try.prog 102 := by unfold TA; kernel_rfl
theorem ta108 : TA Try.prog 108 := by unfold TA; kernel_rfl
theorem ta166 : TA Try.prog 166 := by unfold TA; kernel_rfl
theorem ta217 : TA Try.prog 217 := by unfold TA; kernel_rfl
theorem ta22 : TA Try.prog 22 := by unfold TA; kernel_rfl
theorem ta3 : TA Try.prog 3 := by unfold TA; kernel_rfl
theorem ta31 : TA Try.prog 31 := by unfold TA; kernel_rfl
theorem ta4 : TA Try.prog 4 := by unfold TA; kernel_rfl
theorem ta44 : TA Try.prog 44 := by unfold TA; kernel_rfl
theorem ta45 : TA Try.prog 45 := by unfold TA; kernel_rfl
theorem ta50 : TA Try.prog 50 := by unfold TA; kernel_rfl
theorem ta51 : TA Try.prog 51 := by unfold TA; kernel_rfl
theorem ta88 : TA Try.prog 88 := by unfold TA; kernel_rfl
theorem tar220 : TAr Try.prog 220 34 219 2 := ⟨by kernel_rfl, by kernel_rfl⟩
theorem tb219 : TB Try.prog 219 [.string ⟨#[]⟩, .slice none 0 0] [(0, 1), (1, 1)] := ⟨by kernel_rfl, by kernel_rfl⟩
theorem tb223 : TB Try.prog 223 [.int .i64 0, .bool false] [(0, 1), (1, 1)] := ⟨by kernel_rfl, by kernel_rfl⟩
theorem tba220 : TBA Try.prog 220 [.string ⟨#[]⟩, .slice none 0 0, .string ⟨#[]⟩, .slice none 0 0, .string ⟨#[]⟩, .slice none 0 0, .string ⟨#[]⟩, .slice none 0 0, .string ⟨#[]⟩, .slice none 0 0, .string ⟨#[]⟩, .slice none 0 0, .string ⟨#[]⟩, .slice none 0 0, .string ⟨#[]⟩, .slice none 0 0, .string ⟨#[]⟩, .slice none 0 0, .string ⟨#[]⟩, .slice none 0 0, .string ⟨#[]⟩, .slice none 0 0, .string ⟨#[]⟩, .slice none 0 0, .string ⟨#[]⟩, .slice none 0 0, .string ⟨#[]⟩, .slice none 0 0, .string ⟨#[]⟩, .slice none 0 0, .string ⟨#[]⟩, .slice none 0 0, .string ⟨#[]⟩, .slice none 0 0, .string ⟨#[]⟩, .slice none 0 0, .string ⟨#[]⟩, .slice none 0 0, .string ⟨#[]⟩, .slice none 0 0, .string ⟨#[]⟩, .slice none 0 0, .string ⟨#[]⟩, .slice none 0 0, .string ⟨#[]⟩, .slice none 0 0, .string ⟨#[]⟩, .slice none 0 0, .string ⟨#[]⟩, .slice none 0 0, .string ⟨#[]⟩, .slice none 0 0, .string ⟨#[]⟩, .slice none 0 0, .string ⟨#[]⟩, .slice none 0 0, .string ⟨#[]⟩, .slice none 0 0, .string ⟨#[]⟩, .slice none 0 0, .string ⟨#[]⟩, .slice none 0 0, .string ⟨#[]⟩, .slice none 0 0, .string ⟨#[]⟩, .slice none 0 0, .string ⟨#[]⟩, .slice none 0 0] 34 219 2 := ⟨by kernel_rfl, by kernel_rfl, by kernel_rfl⟩
theorem tez102 : TEZ Try.prog 102 171 3 24 [.int .i64 0, .int .i64 0, .int .i64 0] := ⟨by kernel_rfl, by kernel_rfl⟩
theorem te102 : TE Try.prog 102 171 3 24 := tez102.te rfl
theorem tez217 : TEZ Try.prog 217 223 2 16 [.int .i64 0, .bool false] := ⟨by kernel_rfl, by kernel_rfl⟩
theorem te217 : TE Try.prog 217 223 2 16 := tez217.te rfl
theorem tez51 : TEZ Try.prog 51 104 6 96 [.slice none 0 0, .int .i64 0, .int .i64 0, .bool false, .slice none 0 0, .slice none 0 0] := ⟨by kernel_rfl, by kernel_rfl⟩
theorem te51 : TE Try.prog 51 104 6 96 := tez51.te rfl
theorem tez62 : TEZ Try.prog 62 3 1 8 [.int .i64 0] := ⟨by kernel_rfl, by kernel_rfl⟩
theorem te62 : TE Try.prog 62 3 1 8 := tez62.te rfl
theorem tf104_0 : TF Try.prog 104 0 0 := by unfold TF; kernel_rfl
theorem tf104_1 : TF Try.prog 104 1 1 := by unfold TF; kernel_rfl
theorem tf104_2 : TF Try.prog 104 2 4 := by unfold TF; kernel_rfl
theorem tf104_3 : TF Try.prog 104 3 5 := by unfold TF; kernel_rfl
theorem tf110_0 : TF Try.prog 110 0 0 := by unfold TF; kernel_rfl
theorem tf168_0 : TF Try.prog 168 0 0 := by unfold TF; kernel_rfl
theorem tf168_1 : TF Try.prog 168 1 1 := by unfold TF; kernel_rfl
theorem tf168_2 : TF Try.prog 168 2 4 := by unfold TF; kernel_rfl
theorem tf168_3 : TF Try.prog 168 3 5 := by unfold TF; kernel_rfl
theorem tf171_0 : TF Try.prog 171 0 0 := by unfold TF; kernel_rfl
theorem tf171_1 : TF Try.prog 171 1 1 := by unfold TF; kernel_rfl
theorem tf171_2 : TF Try.prog 171 2 2 := by unfold TF; kernel_rfl
theorem tf223_0 : TF Try.prog 223 0 0 := by unfold TF; kernel_rfl
theorem tf223_1 : TF Try.prog 223 1 1 := by unfold TF; kernel_rfl
theorem tf238_0 : TF Try.prog 238 0 0 := by unfold TF; kernel_rfl
theorem tf238_1 : TF Try.prog 238 1 1 := by unfold TF; kernel_rfl
theorem tf238_2 : TF Try.prog 238 2 2 := by unfold TF; kernel_rfl
theorem tf37_0 : TF Try.prog 37 0 0 := by unfold TF; kernel_rfl
theorem tf37_2 : TF Try.prog 37 2 2 := by unfold TF; kernel_rfl
theorem tf47_0 : TF Try.prog 47 0 0 := by unfold TF; kernel_rfl
theorem tf47_1 : TF Try.prog 47 1 1 := by unfold TF; kernel_rfl
theorem tf47_2 : TF Try.prog 47 2 2 := by unfold TF; kernel_rfl
theorem tf53_0 : TF Try.prog 53 0 0 := by unfold TF; kernel_rfl
theorem tf53_1 : TF Try.prog 53 1 1 := by unfold TF; kernel_rfl
theorem tf53_2 : TF Try.prog 53 2 2 := by unfold TF; kernel_rfl
theorem tft219_1 : TFt Try.prog 219 1 1 217 := by unfold TFt; kernel_rfl
theorem tg104 : TG Try.prog 104 6 := ⟨by kernel_rfl, by kernel_rfl⟩
theorem tg168 : TG Try.prog 168 6 := ⟨by kernel_rfl, by kernel_rfl⟩
theorem tg171 : TG Try.prog 171 3 := ⟨by kernel_rfl, by kernel_rfl⟩
theorem tg219 : TG Try.prog 219 2 := ⟨by kernel_rfl, by kernel_rfl⟩
theorem tg220 : TG Try.prog 220 68 := ⟨by kernel_rfl, by kernel_rfl⟩
theorem tg223 : TG Try.prog 223 2 := ⟨by kernel_rfl, by kernel_rfl⟩
theorem tg238 : TG Try.prog 238 3 := ⟨by kernel_rfl, by kernel_rfl⟩
theorem tg27 : TG Try.prog 27 3 := ⟨by kernel_rfl, by kernel_rfl⟩
theorem tg37 : TG Try.prog 37 3 := ⟨by kernel_rfl, by kernel_rfl⟩
theorem tg53 : TG Try.prog 53 3 := ⟨by kernel_rfl, by kernel_rfl⟩
theorem ts102 : TS Try.prog 102 171 3 := ⟨by kernel_rfl, by kernel_rfl⟩
theorem ts108 : TS Try.prog 108 156 6 := ⟨by kernel_rfl, by kernel_rfl⟩
theorem ts166 : TS Try.prog 166 238 3 := ⟨by kernel_rfl, by kernel_rfl⟩
theorem ts217 : TS Try.prog 217 223 2 := ⟨by kernel_rfl, by kernel_rfl⟩
theorem ts45 : TS Try.prog 45 168 6 := ⟨by kernel_rfl, by kernel_rfl⟩
theorem ts50 : TS Try.prog 50 37 3 := ⟨by kernel_rfl, by kernel_rfl⟩
theorem ts51 : TS Try.prog 51 104 6 := ⟨by kernel_rfl, by kernel_rfl⟩
theorem ts62 : TS Try.prog 62 3 1 := ⟨by kernel_rfl, by kernel_rfl⟩
theorem tz104 : TZ Try.prog 104 [.slice none 0 0, .int .i64 0, .int .i64 0, .bool false, .slice none 0 0, .slice none 0 0] := by unfold TZ; kernel_rfl
theorem tz171 : TZ Try.prog 171 [.int .i64 0, .int .i64 0, .int .i64 0] := by unfold TZ; kernel_rfl
theorem tz220 : TZ Try.prog 220 [.string ⟨#[]⟩, .slice none 0 0, .string ⟨#[]⟩, .slice none 0 0, .string ⟨#[]⟩, .slice none 0 0, .string ⟨#[]⟩, .slice none 0 0, .string ⟨#[]⟩, .slice none 0 0, .string ⟨#[]⟩, .slice none 0 0, .string ⟨#[]⟩, .slice none 0 0, .string ⟨#[]⟩, .slice none 0 0, .string ⟨#[]⟩, .slice none 0 0, .string ⟨#[]⟩, .slice none 0 0, .string ⟨#[]⟩, .slice none 0 0, .string ⟨#[]⟩, .slice none 0 0, .string ⟨#[]⟩, .slice none 0 0, .string ⟨#[]⟩, .slice none 0 0, .string ⟨#[]⟩, .slice none 0 0, .string ⟨#[]⟩, .slice none 0 0, .string ⟨#[]⟩, .slice none 0 0, .string ⟨#[]⟩, .slice none 0 0, .string ⟨#[]⟩, .slice none 0 0, .string ⟨#[]⟩, .slice none 0 0, .string ⟨#[]⟩, .slice none 0 0, .string ⟨#[]⟩, .slice none 0 0, .string ⟨#[]⟩, .slice none 0 0, .string ⟨#[]⟩, .slice none 0 0, .string ⟨#[]⟩, .slice none 0 0, .string ⟨#[]⟩, .slice none 0 0, .string ⟨#[]⟩, .slice none 0 0, .string ⟨#[]⟩, .slice none 0 0, .string ⟨#[]⟩, .slice none 0 0, .string ⟨#[]⟩, .slice none 0 0, .string ⟨#[]⟩, .slice none 0 0, .string ⟨#[]⟩, .slice none 0 0, .string ⟨#[]⟩, .slice none 0 0, .string ⟨#[]⟩, .slice none 0 0] := by unfold TZ; kernel_rfl
theorem tz53 : TZ Try.prog 53 [.slice none 0 0, .slice none 0 0, .slice none 0 0] := by unfold TZ; kernel_rfl
theorem tz88 : TZ Try.prog 88 [.pointer none] := by unfold TZ; kernel_rfl
end Go.Proofs.Ytfjggobjijeniaa.A16
namespace Go.Proofs.Ytfjggobjijeniaa
open Go Go.RowKit Go.L A16
set_option maxRecDepth 8000 in
theorem laws_szInsS (L : (List Isn)) (left : Int) (h0 : 0 ≤ left) (h1 : left ≤ 1048576) : FnC Try.prog 148 [A.sl 3 cIns L, A.int left] (A.int (neg1 (left - L.length))) := by
  refine Fn_of_W Try.func148 rfl rfl fun r w => ?_
  refine W_seq (W_region (WL_ac rfl ?_))
  refine WL_nil (Fin_then (W_seq (W_region (WL_mv rfl rfl ?_))))
  refine WL_mv rfl rfl ?_
  refine WL_len ts166 rfl rfl fun hl7 => ?_
  refine ws (O_sub (by omega)) ⟨T1 rfl, T1 rfl, trivial⟩ ?_
  refine WL_as rfl rfl ?_
  refine WL_nil (Fin_then (W_seq (W_seq (W_region (WL_mv rfl rfl ?_)))))
  refine ws O_lss ⟨T1 rfl, C1, trivial⟩ ?_
  refine WL_nil (Fin_then (W_cond rfl (fun h0 => ?_) (fun h0 => ?_)))
  · skip
    try simp only [bl] at h0
    refine W_seq (W_region (WL_ac rfl ?_))
    exact WL_nil (Fin_then (W_ret (Fin_then_ret (RetC rfl (Res1 rfl (RV.tmp rfl (Imp.int (by unfold neg1; (first | rw [if_pos (by omega)] | rw [if_neg (by omega)])))))))))
  try simp only [bl] at h0
  refine W_skip (Fin_then (W_seq (W_region (WL_mv rfl rfl ?_))))
  refine WL_as rfl rfl ?_
  exact WL_nil (Fin_then (W_ret (RetC rfl (Res1 rfl (RV.tmp rfl (Imp.int (by unfold neg1; (first | rw [if_pos (by omega)] | rw [if_neg (by omega)]))))))))
set_option maxRecDepth 8000 in
theorem laws_szFun (t : Fnc) (left : Int) (h0 : 0 ≤ left) (h1 : left ≤ 1048576) : FnC Try.prog 108 [A.agg (cFun t), A.int left] (A.int (neg1 (left - bFun t))) := by
  have hu : bFun t = (t.takes.length) + (t.own.length) + (t.body.length) := rfl
  refine Fn_of_W Try.func108 rfl rfl fun r w => ?_
  refine W_seq (W_region (ws O_boxg ⟨T1 rfl, trivial⟩ ?_))
  refine WL_ac rfl ?_
  refine WL_nil (Fin_then (W_seq (W_region (ws (O_field tf168_0) ⟨T1 rfl, trivial⟩ ?_))))
  refine ws (O_load ta44) ⟨T1 rfl, trivial⟩ ?_
  refine WL_mv rfl rfl ?_
  refine ws (O_call cf55 (laws_szFieldS _ _ (by (first | omega | (unfold neg1 at *; grind))) (by (first | omega | (unfold neg1 at *; grind)))) rfl) ⟨T1 rfl, T1 rfl, trivial⟩ ?_
  refine WL_as rfl rfl ?_
  refine WL_nil (Fin_then (W_seq (W_seq (W_region (WL_mv rfl rfl ?_)))))
  refine ws O_lss ⟨T1 rfl, C1, trivial⟩ ?_
  refine WL_nil (Fin_then (W_cond rfl (fun h0 => ?_) (fun h0 => ?_)))
  · skip
    simp only [decide_eq_true_eq, decide_eq_false_iff_not] at h0; unfold neg1 at h0
    refine W_seq (W_region (WL_ac rfl ?_))
    exact WL_nil (Fin_then (W_ret (Fin_then_ret (RetC rfl (Res1 rfl (RV.tmp rfl (Imp.int (by unfold neg1 at *; grind))))))))
  simp only [decide_eq_true_eq, decide_eq_false_iff_not] at h0; unfold neg1 at h0
  refine W_skip (Fin_then (W_seq (W_region (ws (O_field tf168_2) ⟨T1 rfl, trivial⟩ ?_))))
  refine ws (O_load ta44) ⟨T1 rfl, trivial⟩ ?_
  refine WL_mv rfl rfl ?_
  refine ws (O_call cf55 (laws_szFieldS _ _ (by (first | omega | (unfold neg1 at *; grind))) (by (first | omega | (unfold neg1 at *; grind)))) rfl) ⟨T1 rfl, T1 rfl, trivial⟩ ?_
  refine WL_as rfl rfl ?_
  refine WL_nil (Fin_then (W_seq (W_seq (W_region (WL_mv rfl rfl ?_)))))
  refine ws O_lss ⟨T1 rfl, C1, trivial⟩ ?_
  refine WL_nil (Fin_then (W_cond rfl (fun h1 => ?_) (fun h1 => ?_)))
  · skip
    simp only [decide_eq_true_eq, decide_eq_false_iff_not] at h1; unfold neg1 at h1
    refine W_seq (W_region (WL_ac rfl ?_))
    exact WL_nil (Fin_then (W_ret (Fin_then_ret (RetC rfl (Res1 rfl (RV.tmp rfl (Imp.int (by unfold neg1 at *; grind))))))))
  simp only [decide_eq_true_eq, decide_eq_false_iff_not] at h1; unfold neg1 at h1
  refine W_skip (Fin_then (W_seq (W_region (ws (O_field tf168_3) ⟨T1 rfl, trivial⟩ ?_))))
  refine ws (O_load ta166) ⟨T1 rfl, trivial⟩ ?_
  refine WL_mv rfl rfl ?_
  refine ws (O_call cf148 (laws_szInsS _ _ (by (first | omega | (unfold neg1 at *; grind))) (by (first | omega | (unfold neg1 at *; grind)))) rfl) ⟨T1 rfl, T1 rfl, trivial⟩ ?_
  refine WL_as rfl rfl ?_
  refine WL_nil (Fin_then (W_seq (W_seq (W_region (WL_mv rfl rfl ?_)))))
  refine ws O_lss ⟨T1 rfl, C1, trivial⟩ ?_
  refine WL_nil (Fin_then (W_cond rfl (fun h2 => ?_) (fun h2 => ?_)))
  · skip
    simp only [decide_eq_true_eq, decide_eq_false_iff_not] at h2; unfold neg1 at h2
    refine W_seq (W_region (WL_ac rfl ?_))
    exact WL_nil (Fin_then (W_ret (Fin_then_ret (RetC rfl (Res1 rfl (RV.tmp rfl (Imp.int (by unfold neg1 at *; grind))))))))
  simp only [decide_eq_true_eq, decide_eq_false_iff_not] at h2; unfold neg1 at h2
  refine W_skip (Fin_then (W_seq (W_region (WL_mv rfl rfl ?_))))
  refine WL_as rfl rfl ?_
  exact WL_nil (Fin_then (W_ret (RetC rfl (Res1 rfl (RV.tmp rfl (Imp.int (by unfold neg1 at *; grind)))))))
set_option maxRecDepth 8000 in
theorem laws_szFunS (L : (List Fnc)) (left : Int) (h0 : 0 ≤ left) (h1 : left ≤ 1048576) : FnC Try.prog 56 [A.sl 6 cFun L, A.int left] (A.int (neg1 (left - (bFuns L)))) := by
  have hb := bulk_len (f := bFun) (L := L)
  have hu : ((bFuns L) : Nat) = bulkL bFun L := rfl
  refine Fn_of_W Try.func56 rfl rfl fun r w => ?_
  refine W_seq (W_region (WL_ac rfl ?_))
  refine WL_nil (Fin_then (W_seq (W_region (WL_mv rfl rfl ?_))))
  refine WL_mv rfl rfl ?_
  refine WL_len ts45 rfl rfl fun hl8 => ?_
  refine ws (O_sub (by omega)) ⟨T1 rfl, T1 rfl, trivial⟩ ?_
  refine WL_as rfl rfl ?_
  refine WL_nil (Fin_then (W_seq (W_seq (W_region (WL_mv rfl rfl ?_)))))
  refine ws O_lss ⟨T1 rfl, C1, trivial⟩ ?_
  refine WL_nil (Fin_then (W_cond rfl (fun h0 => ?_) (fun h0 => ?_)))
  · skip
    try simp only [bl] at h0
    refine W_seq (W_region (WL_ac rfl ?_))
    exact WL_nil (Fin_then (W_ret (Fin_then_ret (RetC rfl (Res1 rfl (RV.tmp rfl (Imp.int (by unfold neg1 at *; grind))))))))
  try simp only [bl] at h0
  refine W_skip (Fin_then (W_seq (W_seq (W_region (WL_ac rfl ?_)))))
  refine WL_nil (Fin_then (W_block (W_loopk [0] (T := Nat) (fun k => k ≤ L.length ∧ 0 ≤ left - L.length - (sumTo bFun L k : Int)) (fun k => [(1, true, A.int (left - L.length - (sumTo bFun L k : Int))), (5, true, A.int (k : Int))]) (fun k => L.length - k) 0 ⟨Nat.zero_le _, by rw [sumTo_zero]; omega⟩ ⟨⟨rfl, _, rfl, (Imp.int (by first | (rw [sumTo_zero]; omega) | omega))⟩, ⟨rfl, _, rfl, (Imp.int (by first | (rw [sumTo_zero]; omega) | omega))⟩, trivial⟩ (fun k hx => ?_))))
  have hk := hx.1
  have hq := hx.2
  have hs := sumTo_le bFun L k
  have hs1 := sumTo_le bFun L (k + 1)
  have hs2 : k < L.length → sumTo bFun L (k + 1) = sumTo bFun L k + bFun (idx L (k : Int)) := sumTo_step bFun L k
  have hs3 : L.length ≤ k → L.length + sumTo bFun L k = bulkL bFun L := sumTo_all bFun L k
  refine W_seq (W_seq (W_region (WL_mv rfl rfl ?_)))
  refine WL_mv rfl rfl ?_
  refine WL_len ts45 rfl rfl fun hl14 => ?_
  refine ws O_lss ⟨T1 rfl, T1 rfl, trivial⟩ ?_
  refine WL_nil (Fin_then (W_cond rfl (fun h1 => ?_) (fun h1 => ?_)))
  · skip
    try simp only [bl] at h1
    refine W_skip (Fin_then (W_seq (W_block (W_seq (W_region (WL_mv rfl rfl ?_))))))
    refine WL_mv rfl rfl ?_
    refine ws (O_index ts45 (by omega)) ⟨T1 rfl, T1 rfl, trivial⟩ ?_
    refine ws (O_loadgw tg168 rfl) ⟨T1 rfl, trivial⟩ ?_
    refine WL_mv rfl rfl ?_
    refine ws (O_call cf108 (laws_szFun _ _ (by omega) (by omega)) rfl) ⟨T1 rfl, T1 rfl, trivial⟩ ?_
    refine WL_as rfl rfl ?_
    refine WL_nil (Fin_then (W_seq (W_region (WL_mv rfl rfl ?_))))
    refine ws O_lss ⟨T1 rfl, C1, trivial⟩ ?_
    refine WL_nil (Fin_then (W_cond rfl (fun h2 => ?_) (fun h2 => ?_)))
    · skip
      try simp only [bl] at h2
      refine W_seq (W_region (WL_ac rfl ?_))
      exact WL_nil (Fin_then (W_ret (Fin_block_ret (Fin_then_ret (Fin_then_ret (Fin_block_ret (Fin_then_ret (RetC rfl (Res1 rfl (RV.tmp rfl (Imp.int (by unfold neg1 at *; grind))))))))))))
    try simp only [bl] at h2
    refine W_skip (Fin_block (Fin_then (W_region (WL_mv rfl rfl ?_))))
    refine ws (O_add (by omega)) ⟨T1 rfl, C1, trivial⟩ ?_
    refine WL_as rfl rfl ?_
    refine WL_nil ?_
    have hs4 := hs2 (by omega)
    unfold neg1 at h2
    exact Fin_back (k + 1) ⟨by omega, by grind⟩ (by omega) ⟨⟨rfl, _, rfl, (Imp.int (by (try unfold neg1); grind))⟩, ⟨rfl, _, rfl, (Imp.int (by (try unfold neg1); grind))⟩, trivial⟩ ⟨rfl, trivial⟩ rfl rfl
  try simp only [bl] at h1
  refine W_exit (Fin_then_exit (Fin_then_exit (Fin_block_exit (Fin_then (W_seq (W_region (WL_mv rfl rfl ?_)))))))
  refine WL_as rfl rfl ?_
  exact WL_nil (Fin_then (W_ret (RetC rfl (Res1 rfl (RV.tmp rfl (Imp.int (by unfold neg1 at *; grind)))))))
set_option maxRecDepth 8000 in
theorem laws_szProg (t : Prg) (left : Int) (h0 : 0 ≤ left) (h1 : left ≤ 1048576) : FnC Try.prog 21 [A.agg (cProg t), A.int left] (A.int (neg1 (left - bProg t))) := by
  have hu : bProg t = (bKin t.types) + (t.glob.length) + (bFuns t.funs) := rfl
  refine Fn_of_W Try.func21 rfl rfl fun r w => ?_
  refine W_seq (W_region (ws O_boxg ⟨T1 rfl, trivial⟩ ?_))
  refine WL_ac rfl ?_
  refine WL_nil (Fin_then (W_seq (W_region (ws (O_field tf47_0) ⟨T1 rfl, trivial⟩ ?_))))
  refine ws (O_load ta22) ⟨T1 rfl, trivial⟩ ?_
  refine WL_mv rfl rfl ?_
  refine ws (O_call cf9 (laws_szTypeSS _ _ (by (first | omega | (unfold neg1 at *; grind))) (by (first | omega | (unfold neg1 at *; grind)))) rfl) ⟨T1 rfl, T1 rfl, trivial⟩ ?_
  refine WL_as rfl rfl ?_
  refine WL_nil (Fin_then (W_seq (W_seq (W_region (WL_mv rfl rfl ?_)))))
  refine ws O_lss ⟨T1 rfl, C1, trivial⟩ ?_
  refine WL_nil (Fin_then (W_cond rfl (fun h0 => ?_) (fun h0 => ?_)))
  · skip
    simp only [decide_eq_true_eq, decide_eq_false_iff_not] at h0; unfold neg1 at h0
    refine W_seq (W_region (WL_ac rfl ?_))
    exact WL_nil (Fin_then (W_ret (Fin_then_ret (RetC rfl (Res1 rfl (RV.tmp rfl (Imp.int (by unfold neg1 at *; grind))))))))
  simp only [decide_eq_true_eq, decide_eq_false_iff_not] at h0; unfold neg1 at h0
  refine W_skip (Fin_then (W_seq (W_region (ws (O_field tf47_1) ⟨T1 rfl, trivial⟩ ?_))))
  refine ws (O_load ta44) ⟨T1 rfl, trivial⟩ ?_
  refine WL_mv rfl rfl ?_
  refine ws (O_call cf55 (laws_szFieldS _ _ (by (first | omega | (unfold neg1 at *; grind))) (by (first | omega | (unfold neg1 at *; grind)))) rfl) ⟨T1 rfl, T1 rfl, trivial⟩ ?_
  refine WL_as rfl rfl ?_
  refine WL_nil (Fin_then (W_seq (W_seq (W_region (WL_mv rfl rfl ?_)))))
  refine ws O_lss ⟨T1 rfl, C1, trivial⟩ ?_
  refine WL_nil (Fin_then (W_cond rfl (fun h1 => ?_) (fun h1 => ?_)))
  · skip
    simp only [decide_eq_true_eq, decide_eq_false_iff_not] at h1; unfold neg1 at h1
    refine W_seq (W_region (WL_ac rfl ?_))
    exact WL_nil (Fin_then (W_ret (Fin_then_ret (RetC rfl (Res1 rfl (RV.tmp rfl (Imp.int (by unfold neg1 at *; grind))))))))
  simp only [decide_eq_true_eq, decide_eq_false_iff_not] at h1; unfold neg1 at h1
  refine W_skip (Fin_then (W_seq (W_region (ws (O_field tf47_2) ⟨T1 rfl, trivial⟩ ?_))))
  refine ws (O_load ta45) ⟨T1 rfl, trivial⟩ ?_
  refine WL_mv rfl rfl ?_
  refine ws (O_call cf56 (laws_szFunS _ _ (by (first | omega | (unfold neg1 at *; grind))) (by (first | omega | (unfold neg1 at *; grind)))) rfl) ⟨T1 rfl, T1 rfl, trivial⟩ ?_
  refine WL_as rfl rfl ?_
  refine WL_nil (Fin_then (W_seq (W_seq (W_region (WL_mv rfl rfl ?_)))))
  refine ws O_lss ⟨T1 rfl, C1, trivial⟩ ?_
  refine WL_nil (Fin_then (W_cond rfl (fun h2 => ?_) (fun h2 => ?_)))
  · skip
    simp only [decide_eq_true_eq, decide_eq_false_iff_not] at h2; unfold neg1 at h2
    refine W_seq (W_region (WL_ac rfl ?_))
    exact WL_nil (Fin_then (W_ret (Fin_then_ret (RetC rfl (Res1 rfl (RV.tmp rfl (Imp.int (by unfold neg1 at *; grind))))))))
  simp only [decide_eq_true_eq, decide_eq_false_iff_not] at h2; unfold neg1 at h2
  refine W_skip (Fin_then (W_seq (W_region (WL_mv rfl rfl ?_))))
  refine WL_as rfl rfl ?_
  exact WL_nil (Fin_then (W_ret (RetC rfl (Res1 rfl (RV.tmp rfl (Imp.int (by unfold neg1 at *; grind)))))))
set_option maxRecDepth 8000 in
theorem laws_toIns (t : Isn) : FnC Try.prog 174 [A.agg (cIns t)] (A.agg (cIns t)) := by
  refine Fn_of_W Try.func174 rfl rfl fun r w => ?_
  refine W_seq (W_region (ws O_boxg ⟨T1 rfl, trivial⟩ ?_))
  refine WL_alloc tz171 rfl fun b2 => ?_
  refine WL_nil (Fin_then (W_seq (W_region (WL_alloc tz171 rfl fun b3 => ?_))))
  refine WL_nil (Fin_then (W_seq (W_region (ws (O_field tf238_0) ⟨T1 rfl, trivial⟩ ?_))))
  refine ws (O_load ta3) ⟨T1 rfl, trivial⟩ ?_
  refine ws (O_fieldv tf171_0) ⟨T1 rfl, trivial⟩ ?_
  refine WL_store 0 rfl ⟨T1 rfl, T1 rfl, trivial⟩ (CellsOf.one OneV.int) sz3 (Nat.le_of_ble_eq_true rfl) ?_
  refine WL_nil (Fin_then (W_seq (W_region (ws (O_field tf238_1) ⟨T1 rfl, trivial⟩ ?_))))
  refine ws (O_load ta3) ⟨T1 rfl, trivial⟩ ?_
  refine ws (O_fieldv tf171_1) ⟨T1 rfl, trivial⟩ ?_
  refine WL_store 0 rfl ⟨T1 rfl, T1 rfl, trivial⟩ (CellsOf.one OneV.int) sz3 (Nat.le_of_ble_eq_true rfl) ?_
  refine WL_nil (Fin_then (W_seq (W_region (ws (O_field tf238_2) ⟨T1 rfl, trivial⟩ ?_))))
  refine ws (O_load ta3) ⟨T1 rfl, trivial⟩ ?_
  refine ws (O_fieldv tf171_2) ⟨T1 rfl, trivial⟩ ?_
  refine WL_store 0 rfl ⟨T1 rfl, T1 rfl, trivial⟩ (CellsOf.one OneV.int) sz3 (Nat.le_of_ble_eq_true rfl) ?_
  refine WL_nil (Fin_then (W_seq (W_region (ws (O_loadog 0 tg171 rfl (Nat.le_of_ble_eq_true rfl)) ⟨T1 rfl, trivial⟩ ?_))))
  refine WL_store 1 rfl ⟨T1 rfl, T1 rfl, trivial⟩ (CellsOf.agg (by exact ⟨OneV.int, OneV.int, OneV.int, trivial⟩)) sz171 (Nat.le_of_ble_eq_true rfl) ?_
  exact WL_nil (Fin_then (W_ret (RetC rfl (Res1 rfl (RV.cellg 1 rfl tg171 rfl rfl Imp.refl)))))
set_option maxRecDepth 8000 in
theorem laws_toInsS (L : (List Isn)) (hL : (L.length) ≤ 1048576) : FnN Try.prog 152 [A.sl 3 cIns L] (A.sl 3 cIns L) := by
  refine FnN_of_W Try.func152 rfl rfl fun r w => ?_
  refine W_seq (W_region (WL_ac rfl ?_))
  refine WL_nil (Fin_then (W_seq (W_region (WL_mv rfl rfl ?_))))
  refine WL_len ts166 rfl rfl fun hl6 => ?_
  refine WL_make tez102 rfl ⟨T1 rfl, T1 rfl, trivial⟩ (by omega) (by omega) (by omega) rfl fun b7 => ?_
  refine WL_as rfl rfl ?_
  refine WL_nil (Fin_then (W_seq (W_seq (W_region (WL_ac rfl ?_)))))
  refine WL_nil (Fin_then (W_block (W_loopp [0, 3] [0] [] [] (T := Nat) (fun k => k ≤ L.length) (fun k => [(4, true, A.int (k : Int))]) (fun k => { own := [(b7, 171, filled cIns [A.val (.int .i64 0), A.val (.int .i64 0), A.val (.int .i64 0)] L k)], rooms := [], maps := [] }) (fun k => L.length - k) 0 (Nat.zero_le _) ⟨⟨rfl, _, rfl, (by first | exact Imp.refl | exact Imp.slv | exact Imp.nil | exact Imp.int (by omega) | exact Imp.int (by simp; done) | exact Imp.bool (by simp_all; done))⟩, trivial⟩ (.cons (AllImp.eq filled_zero.symm) OSub.nil) rfl rfl rfl (fun k hx => ?_))))
  have hfl := filled_len (f := cIns) (z := [A.val (.int .i64 0), A.val (.int .i64 0), A.val (.int .i64 0)]) (k := 3) (L := L) (j := k) (fun _ => rfl) rfl (by omega)
  refine W_seq (W_seq (W_region (WL_mv rfl rfl ?_)))
  refine WL_mv rfl rfl ?_
  refine WL_len ts166 rfl rfl fun hl10 => ?_
  refine ws O_lss ⟨T1 rfl, T1 rfl, trivial⟩ ?_
  refine WL_nil (Fin_then (W_cond rfl (fun h0 => ?_) (fun h0 => ?_)))
  · skip
    try simp only [bl] at h0
    refine W_skip (Fin_then (W_seq (W_block (W_region (WL_mv rfl rfl ?_)))))
    refine WL_mv rfl rfl ?_
    refine WL_mv rfl rfl ?_
    refine WL_mv rfl rfl ?_
    refine ws (O_index ts166 (by omega)) ⟨T1 rfl, T1 rfl, trivial⟩ ?_
    refine ws (O_loadgw tg238 rfl) ⟨T1 rfl, trivial⟩ ?_
    refine ws (O_call cf174 (laws_toIns _) rfl) ⟨T1 rfl, trivial⟩ ?_
    refine ws (O_indexo ts102 (by omega)) ⟨T1 rfl, T1 rfl, trivial⟩ ?_
    refine WL_store 0 rfl ⟨T1 rfl, T1 rfl, trivial⟩ (CellsOf.agg (by exact ⟨OneV.int, OneV.int, OneV.int, trivial⟩)) sz171 (by rw [hfl]; (first | (show _ + 3 ≤ _; omega) | (simp; omega))) ?_
    refine WL_nil (Fin_block (Fin_then (W_region (WL_mv rfl rfl ?_))))
    refine ws (O_add (by omega)) ⟨T1 rfl, C1, trivial⟩ ?_
    refine WL_as rfl rfl ?_
    exact WL_nil (Fin_backp [0] (k + 1) (by omega) (by omega) ⟨⟨rfl, _, rfl, (by first | exact Imp.refl | exact Imp.slv | exact Imp.nil | exact Imp.int (by omega) | exact Imp.int (by simp; done) | exact Imp.bool (by simp_all; done))⟩, trivial⟩ ⟨rfl, rfl, trivial⟩ (.cons (AllImp.eq (filled_step (f := cIns) (z := [A.val (.int .i64 0), A.val (.int .i64 0), A.val (.int .i64 0)]) L k (fun _ => rfl) rfl (by omega)).symm) OSub.nil) rfl (List.Sublist.refl _) rfl)
  try simp only [bl] at h0
  refine W_exit (Fin_then_exit (Fin_then_exit (Fin_block_exit (Fin_then (W_seq (W_region (WL_freezeSl (k := 3) (L := L) (f := cIns) (f' := cIns) 0 r [] (List.Mem.head _) rfl 3 rfl (by rw [filled_all (by omega)]; simp) (by first | rfl | simp | omega) (by omega) (by simp only [maxLen]; omega) (fun _ => rfl) (fun _ => ⟨NwI.val, NwI.val, NwI.val, trivial⟩) ?_)))))))
  refine WL_mv rfl rfl ?_
  refine WL_as rfl rfl ?_
  exact WL_nil (Fin_then (W_ret (RetC rfl (Res1 rfl (RV.tmp rfl Imp.refl)))))
set_option maxRecDepth 8000 in
theorem laws_toFun (t : Fnc) (hL : (bFun t) ≤ 1048576) : FnN Try.prog 111 [A.agg (cFun t)] (A.agg (cFun t)) := by
  have hu : bFun t = (t.takes.length) + (t.own.length) + (t.body.length) := rfl
  refine FnN_of_W Try.func111 rfl rfl fun r w => ?_
  refine W_seq (W_region (ws O_boxg ⟨T1 rfl, trivial⟩ ?_))
  refine WL_alloc tz104 rfl fun b2 => ?_
  refine WL_nil (Fin_then (W_seq (W_region (WL_alloc tz104 rfl fun b3 => ?_))))
  refine WL_nil (Fin_then (W_seq (W_region (ws (O_field tf168_0) ⟨T1 rfl, trivial⟩ ?_))))
  refine ws (O_load ta44) ⟨T1 rfl, trivial⟩ ?_
  refine ws (O_callN r (List.Mem.head _) cf59 (laws_toFieldS _ (by omega)) rfl) ⟨T1 rfl, trivial⟩ ?_
  refine ws (O_fieldv tf104_0) ⟨T1 rfl, trivial⟩ ?_
  refine WL_store 0 rfl ⟨T1 rfl, T1 rfl, trivial⟩ (CellsOf.one (OneV.nw OneV.sl)) sz50 (Nat.le_of_ble_eq_true rfl) ?_
  refine WL_nil (Fin_then (W_seq (W_region (ws (O_field tf168_1) ⟨T1 rfl, trivial⟩ ?_))))
  refine ws (O_loadg tg27 (Nat.le_of_ble_eq_true rfl)) ⟨T1 rfl, trivial⟩ ?_
  refine ws (O_call cf15 (laws_toField _) rfl) ⟨T1 rfl, trivial⟩ ?_
  refine ws (O_fieldv tf104_1) ⟨T1 rfl, trivial⟩ ?_
  refine WL_store 0 rfl ⟨T1 rfl, T1 rfl, trivial⟩ (CellsOf.agg (by exact ⟨OneV.int, OneV.int, OneV.bool, trivial⟩)) sz37 (Nat.le_of_ble_eq_true rfl) ?_
  refine WL_nil (Fin_then (W_seq (W_region (ws (O_field tf168_2) ⟨T1 rfl, trivial⟩ ?_))))
  refine ws (O_load ta44) ⟨T1 rfl, trivial⟩ ?_
  refine ws (O_callN r (List.Mem.head _) cf59 (laws_toFieldS _ (by omega)) rfl) ⟨T1 rfl, trivial⟩ ?_
  refine ws (O_fieldv tf104_2) ⟨T1 rfl, trivial⟩ ?_
  refine WL_store 0 rfl ⟨T1 rfl, T1 rfl, trivial⟩ (CellsOf.one (OneV.nw OneV.sl)) sz50 (Nat.le_of_ble_eq_true rfl) ?_
  refine WL_nil (Fin_then (W_seq (W_region (ws (O_field tf168_3) ⟨T1 rfl, trivial⟩ ?_))))
  refine ws (O_load ta166) ⟨T1 rfl, trivial⟩ ?_
  refine ws (O_callN r (List.Mem.head _) cf152 (laws_toInsS _ (by omega)) rfl) ⟨T1 rfl, trivial⟩ ?_
  refine ws (O_fieldv tf104_3) ⟨T1 rfl, trivial⟩ ?_
  refine WL_store 0 rfl ⟨T1 rfl, T1 rfl, trivial⟩ (CellsOf.one (OneV.nw OneV.sl)) sz102 (Nat.le_of_ble_eq_true rfl) ?_
  refine WL_nil (Fin_then (W_seq (W_region (ws (O_loadog 0 tg104 rfl (Nat.le_of_ble_eq_true rfl)) ⟨T1 rfl, trivial⟩ ?_))))
  refine WL_store 1 rfl ⟨T1 rfl, T1 rfl, trivial⟩ (CellsOf.agg (by exact ⟨(OneV.nw OneV.sl), OneV.int, OneV.int, OneV.bool, (OneV.nw OneV.sl), (OneV.nw OneV.sl), trivial⟩)) sz104 (Nat.le_of_ble_eq_true rfl) ?_
  exact WL_nil (Fin_then (W_ret (RetC rfl (Res1 rfl (RV.nw (List.Mem.head _) (RV.cellg 1 rfl tg104 rfl rfl Imp.refl) (NwI.agg ⟨NwI.nw, NwI.val, NwI.val, NwI.val, NwI.nw, NwI.nw, trivial⟩))))))
set_option maxRecDepth 8000 in
theorem laws_toFunS (L : (List Fnc)) (hL : (bFuns L) ≤ 1048576) : FnN Try.prog 60 [A.sl 6 cFun L] (A.sl 6 cFun L) := by
  have hb := bulk_len (f := bFun) (L := L)
  have hu : (bFuns L) = bulkL bFun L := rfl
  refine FnN_of_W Try.func60 rfl rfl fun r w => ?_
  refine W_seq (W_region (WL_ac rfl ?_))
  refine WL_nil (Fin_then (W_seq (W_region (WL_mv rfl rfl ?_))))
  refine WL_len ts45 rfl rfl fun hl6 => ?_
  refine WL_make tez51 rfl ⟨T1 rfl, T1 rfl, trivial⟩ (by omega) (by omega) (by omega) rfl fun b7 => ?_
  refine WL_as rfl rfl ?_
  refine WL_nil (Fin_then (W_seq (W_seq (W_region (WL_ac rfl ?_)))))
  refine WL_nil (Fin_then (W_block (W_loopp [0, 3] [0] [] [] (T := Nat) (fun k => k ≤ L.length) (fun k => [(4, true, A.int (k : Int))]) (fun k => { own := [(b7, 104, filled (fun y => (cFun y).map (A.nw r)) [A.val (.slice none 0 0), A.val (.int .i64 0), A.val (.int .i64 0), A.val (.bool false), A.val (.slice none 0 0), A.val (.slice none 0 0)] L k)], rooms := [], maps := [] }) (fun k => L.length - k) 0 (Nat.zero_le _) ⟨⟨rfl, _, rfl, (by first | exact Imp.refl | exact Imp.slv | exact Imp.nil | exact Imp.int (by omega) | exact Imp.int (by simp; done) | exact Imp.bool (by simp_all; done))⟩, trivial⟩ (.cons (AllImp.eq filled_zero.symm) OSub.nil) rfl rfl rfl (fun k hx => ?_))))
  have hfl := filled_len (f := (fun y => (cFun y).map (A.nw r))) (z := [A.val (.slice none 0 0), A.val (.int .i64 0), A.val (.int .i64 0), A.val (.bool false), A.val (.slice none 0 0), A.val (.slice none 0 0)]) (k := 6) (L := L) (j := k) (fun _ => rfl) rfl (by omega)
  have hbk : (k : Int) < L.length → bFun (idx L (k : Int)) ≤ bulkL bFun L := fun h => bulk_idx (by omega) h
  refine W_seq (W_seq (W_region (WL_mv rfl rfl ?_)))
  refine WL_mv rfl rfl ?_
  refine WL_len ts45 rfl rfl fun hl10 => ?_
  refine ws O_lss ⟨T1 rfl, T1 rfl, trivial⟩ ?_
  refine WL_nil (Fin_then (W_cond rfl (fun h0 => ?_) (fun h0 => ?_)))
  · skip
    try simp only [bl] at h0
    refine W_skip (Fin_then (W_seq (W_block (W_region (WL_mv rfl rfl ?_)))))
    refine WL_mv rfl rfl ?_
    refine WL_mv rfl rfl ?_
    refine WL_mv rfl rfl ?_
    refine ws (O_index ts45 (by omega)) ⟨T1 rfl, T1 rfl, trivial⟩ ?_
    refine ws (O_loadgw tg168 rfl) ⟨T1 rfl, trivial⟩ ?_
    refine ws (O_callN r (List.Mem.head _) cf111 (laws_toFun _ (by omega)) rfl) ⟨T1 rfl, trivial⟩ ?_
    refine ws (O_indexo ts51 (by omega)) ⟨T1 rfl, T1 rfl, trivial⟩ ?_
    refine WL_store 0 rfl ⟨T1 rfl, T1 rfl, trivial⟩ (AllOne.nw (by exact ⟨OneV.sl, OneV.int, OneV.int, OneV.bool, OneV.sl, OneV.sl, trivial⟩)) sz104 (by rw [hfl]; (first | (show _ + 6 ≤ _; omega) | (simp; omega))) ?_
    refine WL_nil (Fin_block (Fin_then (W_region (WL_mv rfl rfl ?_))))
    refine ws (O_add (by omega)) ⟨T1 rfl, C1, trivial⟩ ?_
    refine WL_as rfl rfl ?_
    exact WL_nil (Fin_backp [0] (k + 1) (by omega) (by omega) ⟨⟨rfl, _, rfl, (by first | exact Imp.refl | exact Imp.slv | exact Imp.nil | exact Imp.int (by omega) | exact Imp.int (by simp; done) | exact Imp.bool (by simp_all; done))⟩, trivial⟩ ⟨rfl, rfl, trivial⟩ (.cons (AllImp.eq (filled_step (f := (fun y => (cFun y).map (A.nw r))) (z := [A.val (.slice none 0 0), A.val (.int .i64 0), A.val (.int .i64 0), A.val (.bool false), A.val (.slice none 0 0), A.val (.slice none 0 0)]) L k (fun _ => rfl) rfl (by omega)).symm) OSub.nil) rfl (List.Sublist.refl _) rfl)
  try simp only [bl] at h0
  refine W_exit (Fin_then_exit (Fin_then_exit (Fin_block_exit (Fin_then (W_seq (W_region (WL_freezeSl (k := 6) (L := L) (f := (fun y => (cFun y).map (A.nw r))) (f' := cFun) 0 r [] (List.Mem.head _) rfl 3 rfl (by rw [filled_all (by omega)]; simp) (by first | rfl | simp | omega) (by omega) (by simp only [maxLen]; omega) (fun _ => rfl) (fun _ => (AllNw.nws _)) ?_)))))))
  refine WL_mv rfl rfl ?_
  refine WL_as rfl rfl ?_
  exact WL_nil (Fin_then (W_ret (RetC rfl (Res1 rfl (RV.tmp rfl Imp.refl)))))
set_option maxRecDepth 8000 in
theorem laws_toProg (t : Prg) (hL : (bProg t) ≤ 1048576) : FnN Try.prog 23 [A.agg (cProg t)] (A.agg (cProg t)) := by
  have hu : bProg t = (bKin t.types) + (t.glob.length) + (bFuns t.funs) := rfl
  refine FnN_of_W Try.func23 rfl rfl fun r w => ?_
  refine W_seq (W_region (ws O_boxg ⟨T1 rfl, trivial⟩ ?_))
  refine WL_alloc tz53 rfl fun b2 => ?_
  refine WL_nil (Fin_then (W_seq (W_region (WL_alloc tz53 rfl fun b3 => ?_))))
  refine WL_nil (Fin_then (W_seq (W_region (ws (O_field tf47_0) ⟨T1 rfl, trivial⟩ ?_))))
  refine ws (O_load ta22) ⟨T1 rfl, trivial⟩ ?_
  refine ws (O_callN r (List.Mem.head _) cf12 (laws_toTypeSS _ (by omega)) rfl) ⟨T1 rfl, trivial⟩ ?_
  refine ws (O_fieldv tf53_0) ⟨T1 rfl, trivial⟩ ?_
  refine WL_store 0 rfl ⟨T1 rfl, T1 rfl, trivial⟩ (CellsOf.one (OneV.nw OneV.sl)) sz31 (Nat.le_of_ble_eq_true rfl) ?_
  refine WL_nil (Fin_then (W_seq (W_region (ws (O_field tf47_1) ⟨T1 rfl, trivial⟩ ?_))))
  refine ws (O_load ta44) ⟨T1 rfl, trivial⟩ ?_
  refine ws (O_callN r (List.Mem.head _) cf59 (laws_toFieldS _ (by omega)) rfl) ⟨T1 rfl, trivial⟩ ?_
  refine ws (O_fieldv tf53_1) ⟨T1 rfl, trivial⟩ ?_
  refine WL_store 0 rfl ⟨T1 rfl, T1 rfl, trivial⟩ (CellsOf.one (OneV.nw OneV.sl)) sz50 (Nat.le_of_ble_eq_true rfl) ?_
  refine WL_nil (Fin_then (W_seq (W_region (ws (O_field tf47_2) ⟨T1 rfl, trivial⟩ ?_))))
  refine ws (O_load ta45) ⟨T1 rfl, trivial⟩ ?_
  refine ws (O_callN r (List.Mem.head _) cf60 (laws_toFunS _ (by omega)) rfl) ⟨T1 rfl, trivial⟩ ?_
  refine ws (O_fieldv tf53_2) ⟨T1 rfl, trivial⟩ ?_
  refine WL_store 0 rfl ⟨T1 rfl, T1 rfl, trivial⟩ (CellsOf.one (OneV.nw OneV.sl)) sz51 (Nat.le_of_ble_eq_true rfl) ?_
  refine WL_nil (Fin_then (W_seq (W_region (ws (O_loadog 0 tg53 rfl (Nat.le_of_ble_eq_true rfl)) ⟨T1 rfl, trivial⟩ ?_))))
  refine WL_store 1 rfl ⟨T1 rfl, T1 rfl, trivial⟩ (CellsOf.agg (by exact ⟨(OneV.nw OneV.sl), (OneV.nw OneV.sl), (OneV.nw OneV.sl), trivial⟩)) sz53 (Nat.le_of_ble_eq_true rfl) ?_
  exact WL_nil (Fin_then (W_ret (RetC rfl (Res1 rfl (RV.nw (List.Mem.head _) (RV.cellg 1 rfl tg53 rfl rfl Imp.refl) (NwI.agg ⟨NwI.nw, NwI.nw, NwI.nw, trivial⟩))))))
set_option maxRecDepth 8000 in
theorem laws_eqIns (t u : Isn) : FnC Try.prog 176 [A.agg (cIns t), A.agg (cIns u)] (A.bool (decide (t = u))) := by
  refine Fn_of_W Try.func176 rfl rfl fun r w => ?_
  refine W_seq (W_region (ws O_boxg ⟨T1 rfl, trivial⟩ ?_))
  refine ws O_boxg ⟨T1 rfl, trivial⟩ ?_
  refine WL_ac rfl ?_
  refine WL_nil (Fin_then (W_seq (W_seq (W_region (ws (O_field tf171_0) ⟨T1 rfl, trivial⟩ ?_)))))
  refine ws (O_load ta3) ⟨T1 rfl, trivial⟩ ?_
  refine ws (O_field tf171_0) ⟨T1 rfl, trivial⟩ ?_
  refine ws (O_load ta3) ⟨T1 rfl, trivial⟩ ?_
  refine ws O_neq ⟨T1 rfl, T1 rfl, trivial⟩ ?_
  refine WL_nil (Fin_then (W_cond rfl (fun h0 => ?_) (fun h0 => ?_)))
  · skip
    try simp only [bl] at h0
    refine W_seq (W_region (WL_ac rfl ?_))
    exact WL_nil (Fin_then (W_ret (Fin_then_ret (RetC rfl (Res1 rfl (RV.tmp rfl (Imp.bool (by simp only [Isn.eqs]; grind))))))))
  try simp only [bl] at h0
  refine W_skip (Fin_then (W_seq (W_seq (W_region (ws (O_field tf171_1) ⟨T1 rfl, trivial⟩ ?_)))))
  refine ws (O_load ta3) ⟨T1 rfl, trivial⟩ ?_
  refine ws (O_field tf171_1) ⟨T1 rfl, trivial⟩ ?_
  refine ws (O_load ta3) ⟨T1 rfl, trivial⟩ ?_
  refine ws O_neq ⟨T1 rfl, T1 rfl, trivial⟩ ?_
  refine WL_nil (Fin_then (W_cond rfl (fun h1 => ?_) (fun h1 => ?_)))
  · skip
    try simp only [bl] at h1
    refine W_seq (W_region (WL_ac rfl ?_))
    exact WL_nil (Fin_then (W_ret (Fin_then_ret (RetC rfl (Res1 rfl (RV.tmp rfl (Imp.bool (by simp only [Isn.eqs]; grind))))))))
  try simp only [bl] at h1
  refine W_skip (Fin_then (W_seq (W_seq (W_region (ws (O_field tf171_2) ⟨T1 rfl, trivial⟩ ?_)))))
  refine ws (O_load ta3) ⟨T1 rfl, trivial⟩ ?_
  refine ws (O_field tf171_2) ⟨T1 rfl, trivial⟩ ?_
  refine ws (O_load ta3) ⟨T1 rfl, trivial⟩ ?_
  refine ws O_neq ⟨T1 rfl, T1 rfl, trivial⟩ ?_
  refine WL_nil (Fin_then (W_cond rfl (fun h2 => ?_) (fun h2 => ?_)))
  · skip
    try simp only [bl] at h2
    refine W_seq (W_region (WL_ac rfl ?_))
    exact WL_nil (Fin_then (W_ret (Fin_then_ret (RetC rfl (Res1 rfl (RV.tmp rfl (Imp.bool (by simp only [Isn.eqs]; grind))))))))
  try simp only [bl] at h2
  refine W_skip (Fin_then (W_seq (W_region (WL_ac rfl ?_))))
  exact WL_nil (Fin_then (W_ret (RetC rfl (Res1 rfl (RV.tmp rfl (Imp.bool (by simp only [Isn.eqs]; grind)))))))
set_option maxRecDepth 8000 in
theorem laws_eqInsS (L M : (List Isn)) : FnC Try.prog 158 [A.sl 3 cIns L, A.sl 3 cIns M] (A.bool (decide (L = M))) := by
  refine Fn_of_W Try.func158 rfl rfl fun r w => ?_
  refine W_seq (W_region (WL_ac rfl ?_))
  refine WL_nil (Fin_then (W_seq (W_seq (W_region (WL_mv rfl rfl ?_)))))
  refine WL_len ts102 rfl rfl fun hl7 => ?_
  refine WL_mv rfl rfl ?_
  refine WL_len ts102 rfl rfl fun hl9 => ?_
  refine ws O_neq ⟨T1 rfl, T1 rfl, trivial⟩ ?_
  refine WL_nil (Fin_then (W_cond rfl (fun h0 => ?_) (fun h0 => ?_)))
  · skip
    try simp only [bl] at h0
    have hne : L ≠ M := fun e => by subst e; simp at h0
    refine W_seq (W_region (WL_ac rfl ?_))
    exact WL_nil (Fin_then (W_ret (Fin_then_ret (RetC rfl (Res1 rfl (RV.tmp rfl (Imp.bool (by simp [hne]))))))))
  try simp only [bl] at h0
  have hlen : L.length = M.length := by omega
  refine W_skip (Fin_then (W_seq (W_seq (W_region (WL_ac rfl ?_)))))
  refine WL_nil (Fin_then (W_block (W_loopk [0, 1] (T := Nat) (fun k => k ≤ L.length ∧ ∀ j, j < k → idx L (j : Int) = idx M (j : Int)) (fun k => [(5, true, A.int (k : Int))]) (fun k => L.length - k) 0 ⟨Nat.zero_le _, fun j h => by omega⟩ ⟨⟨rfl, _, rfl, (by first | exact Imp.refl | exact Imp.slv | exact Imp.nil | exact Imp.int (by omega) | exact Imp.int (by simp; done) | exact Imp.bool (by simp_all; done))⟩, trivial⟩ (fun k hx => ?_))))
  have hk := hx.1
  refine W_seq (W_seq (W_region (WL_mv rfl rfl ?_)))
  refine WL_mv rfl rfl ?_
  refine WL_len ts102 rfl rfl fun hl13 => ?_
  refine ws O_lss ⟨T1 rfl, T1 rfl, trivial⟩ ?_
  refine WL_nil (Fin_then (W_cond rfl (fun h1 => ?_) (fun h1 => ?_)))
  · skip
    try simp only [bl] at h1
    refine W_skip (Fin_then (W_seq (W_block (W_seq (W_draw 10 mix rfl rfl ?_)))))
    refine cs O_move ⟨T1 rfl, trivial⟩ ?_
    refine cs O_move ⟨T1 rfl, trivial⟩ ?_
    refine cs (O_index ts102 (by omega)) ⟨T1 rfl, T1 rfl, trivial⟩ ?_
    refine cs (O_loadgw tg171 rfl) ⟨T1 rfl, trivial⟩ ?_
    refine cs O_move ⟨T1 rfl, trivial⟩ ?_
    refine cs O_move ⟨T1 rfl, trivial⟩ ?_
    refine cs (O_index ts102 (by omega)) ⟨T1 rfl, T1 rfl, trivial⟩ ?_
    refine cs (O_loadgw tg171 rfl) ⟨T1 rfl, trivial⟩ ?_
    refine cs (O_call cf176 (laws_eqIns _ _) rfl) ⟨T1 rfl, T1 rfl, trivial⟩ ?_
    refine cs O_not ⟨T1 rfl, trivial⟩ ?_
    refine Chain_nil ?_
    refine WL_nil (Fin_then (W_cond rfl (fun h2 => ?_) (fun h2 => ?_)))
    · skip
      try simp only [bl] at h2
      refine W_seq (W_region (WL_ac rfl ?_))
      exact WL_nil (Fin_then (W_ret (Fin_block_ret (Fin_then_ret (Fin_then_ret (Fin_block_ret (Fin_then_ret (RetC rfl (Res1 rfl (RV.tmp rfl (Imp.bool (by simp [list_ne_of k h2]))))))))))))
    try simp only [bl] at h2
    refine W_skip (Fin_block (Fin_then (W_region (WL_mv rfl rfl ?_))))
    refine ws (O_add (by omega)) ⟨T1 rfl, C1, trivial⟩ ?_
    refine WL_as rfl rfl ?_
    exact WL_nil (Fin_back (k + 1) ⟨by omega, fun j hj => by rcases Nat.lt_or_ge j k with q | q; exact hx.2 j q; rw [show j = k from by omega]; exact h2⟩ (by omega) ⟨⟨rfl, _, rfl, (by first | exact Imp.refl | exact Imp.slv | exact Imp.nil | exact Imp.int (by omega) | exact Imp.int (by simp; done) | exact Imp.bool (by simp_all; done))⟩, trivial⟩ ⟨rfl, rfl, trivial⟩ rfl rfl)
  try simp only [bl] at h1
  refine W_exit (Fin_then_exit (Fin_then_exit (Fin_block_exit (Fin_then (W_seq (W_region (WL_ac rfl ?_)))))))
  exact WL_nil (Fin_then (W_ret (RetC rfl (Res1 rfl (RV.tmp rfl (Imp.bool (by simp [list_eq_of hlen (fun j hj => hx.2 j (by omega))])))))))
set_option maxRecDepth 8000 in
theorem laws_eqFun (t u : Fnc) : FnC Try.prog 119 [A.agg (cFun t), A.agg (cFun u)] (A.bool (decide (t = u))) := by
  refine Fn_of_W Try.func119 rfl rfl fun r w => ?_
  refine W_seq (W_region (ws O_boxg ⟨T1 rfl, trivial⟩ ?_))
  refine ws O_boxg ⟨T1 rfl, trivial⟩ ?_
  refine WL_ac rfl ?_
  refine WL_nil (Fin_then (W_seq (W_seq (W_region (ws (O_field tf104_0) ⟨T1 rfl, trivial⟩ ?_)))))
  refine ws (O_load ta50) ⟨T1 rfl, trivial⟩ ?_
  refine ws (O_field tf104_0) ⟨T1 rfl, trivial⟩ ?_
  refine ws (O_load ta50) ⟨T1 rfl, trivial⟩ ?_
  refine ws (O_call cf28 (laws_eqFieldS _ _) rfl) ⟨T1 rfl, T1 rfl, trivial⟩ ?_
  refine ws O_not ⟨T1 rfl, trivial⟩ ?_
  refine WL_nil (Fin_then (W_cond rfl (fun h0 => ?_) (fun h0 => ?_)))
  · skip
    try simp only [bl] at h0
    refine W_seq (W_region (WL_ac rfl ?_))
    exact WL_nil (Fin_then (W_ret (Fin_then_ret (RetC rfl (Res1 rfl (RV.tmp rfl (Imp.bool (by simp only [Fnc.eqs]; grind))))))))
  try simp only [bl] at h0
  refine W_skip (Fin_then (W_seq (W_seq (W_region (ws (O_field tf104_1) ⟨T1 rfl, trivial⟩ ?_)))))
  refine ws (O_loadg tg37 (Nat.le_of_ble_eq_true rfl)) ⟨T1 rfl, trivial⟩ ?_
  refine ws (O_field tf104_1) ⟨T1 rfl, trivial⟩ ?_
  refine ws (O_loadg tg37 (Nat.le_of_ble_eq_true rfl)) ⟨T1 rfl, trivial⟩ ?_
  refine ws (O_call cf69 (laws_eqField _ _) rfl) ⟨T1 rfl, T1 rfl, trivial⟩ ?_
  refine ws O_not ⟨T1 rfl, trivial⟩ ?_
  refine WL_nil (Fin_then (W_cond rfl (fun h1 => ?_) (fun h1 => ?_)))
  · skip
    try simp only [bl] at h1
    refine W_seq (W_region (WL_ac rfl ?_))
    exact WL_nil (Fin_then (W_ret (Fin_then_ret (RetC rfl (Res1 rfl (RV.tmp rfl (Imp.bool (by simp only [Fnc.eqs]; grind))))))))
  try simp only [bl] at h1
  refine W_skip (Fin_then (W_seq (W_seq (W_region (ws (O_field tf104_2) ⟨T1 rfl, trivial⟩ ?_)))))
  refine ws (O_load ta50) ⟨T1 rfl, trivial⟩ ?_
  refine ws (O_field tf104_2) ⟨T1 rfl, trivial⟩ ?_
  refine ws (O_load ta50) ⟨T1 rfl, trivial⟩ ?_
  refine ws (O_call cf28 (laws_eqFieldS _ _) rfl) ⟨T1 rfl, T1 rfl, trivial⟩ ?_
  refine ws O_not ⟨T1 rfl, trivial⟩ ?_
  refine WL_nil (Fin_then (W_cond rfl (fun h2 => ?_) (fun h2 => ?_)))
  · skip
    try simp only [bl] at h2
    refine W_seq (W_region (WL_ac rfl ?_))
    exact WL_nil (Fin_then (W_ret (Fin_then_ret (RetC rfl (Res1 rfl (RV.tmp rfl (Imp.bool (by simp only [Fnc.eqs]; grind))))))))
  try simp only [bl] at h2
  refine W_skip (Fin_then (W_seq (W_seq (W_region (ws (O_field tf104_3) ⟨T1 rfl, trivial⟩ ?_)))))
  refine ws (O_load ta102) ⟨T1 rfl, trivial⟩ ?_
  refine ws (O_field tf104_3) ⟨T1 rfl, trivial⟩ ?_
  refine ws (O_load ta102) ⟨T1 rfl, trivial⟩ ?_
  refine ws (O_call cf158 (laws_eqInsS _ _) rfl) ⟨T1 rfl, T1 rfl, trivial⟩ ?_
  refine ws O_not ⟨T1 rfl, trivial⟩ ?_
  refine WL_nil (Fin_then (W_cond rfl (fun h3 => ?_) (fun h3 => ?_)))
  · skip
    try simp only [bl] at h3
    refine W_seq (W_region (WL_ac rfl ?_))
    exact WL_nil (Fin_then (W_ret (Fin_then_ret (RetC rfl (Res1 rfl (RV.tmp rfl (Imp.bool (by simp only [Fnc.eqs]; grind))))))))
  try simp only [bl] at h3
  refine W_skip (Fin_then (W_seq (W_region (WL_ac rfl ?_))))
  exact WL_nil (Fin_then (W_ret (RetC rfl (Res1 rfl (RV.tmp rfl (Imp.bool (by simp only [Fnc.eqs]; grind)))))))
set_option maxRecDepth 8000 in
theorem laws_eqFunS (L M : (List Fnc)) : FnC Try.prog 65 [A.sl 6 cFun L, A.sl 6 cFun M] (A.bool (decide (L = M))) := by
  refine Fn_of_W Try.func65 rfl rfl fun r w => ?_
  refine W_seq (W_region (WL_ac rfl ?_))
  refine WL_nil (Fin_then (W_seq (W_seq (W_region (WL_mv rfl rfl ?_)))))
  refine WL_len ts51 rfl rfl fun hl7 => ?_
  refine WL_mv rfl rfl ?_
  refine WL_len ts51 rfl rfl fun hl9 => ?_
  refine ws O_neq ⟨T1 rfl, T1 rfl, trivial⟩ ?_
  refine WL_nil (Fin_then (W_cond rfl (fun h0 => ?_) (fun h0 => ?_)))
  · skip
    try simp only [bl] at h0
    have hne : L ≠ M := fun e => by subst e; simp at h0
    refine W_seq (W_region (WL_ac rfl ?_))
    exact WL_nil (Fin_then (W_ret (Fin_then_ret (RetC rfl (Res1 rfl (RV.tmp rfl (Imp.bool (by simp [hne]))))))))
  try simp only [bl] at h0
  have hlen : L.length = M.length := by omega
  refine W_skip (Fin_then (W_seq (W_seq (W_region (WL_ac rfl ?_)))))
  refine WL_nil (Fin_then (W_block (W_loopk [0, 1] (T := Nat) (fun k => k ≤ L.length ∧ ∀ j, j < k → idx L (j : Int) = idx M (j : Int)) (fun k => [(5, true, A.int (k : Int))]) (fun k => L.length - k) 0 ⟨Nat.zero_le _, fun j h => by omega⟩ ⟨⟨rfl, _, rfl, (by first | exact Imp.refl | exact Imp.slv | exact Imp.nil | exact Imp.int (by omega) | exact Imp.int (by simp; done) | exact Imp.bool (by simp_all; done))⟩, trivial⟩ (fun k hx => ?_))))
  have hk := hx.1
  refine W_seq (W_seq (W_region (WL_mv rfl rfl ?_)))
  refine WL_mv rfl rfl ?_
  refine WL_len ts51 rfl rfl fun hl13 => ?_
  refine ws O_lss ⟨T1 rfl, T1 rfl, trivial⟩ ?_
  refine WL_nil (Fin_then (W_cond rfl (fun h1 => ?_) (fun h1 => ?_)))
  · skip
    try simp only [bl] at h1
    refine W_skip (Fin_then (W_seq (W_block (W_seq (W_draw 10 mix rfl rfl ?_)))))
    refine cs O_move ⟨T1 rfl, trivial⟩ ?_
    refine cs O_move ⟨T1 rfl, trivial⟩ ?_
    refine cs (O_index ts51 (by omega)) ⟨T1 rfl, T1 rfl, trivial⟩ ?_
    refine cs (O_loadgw tg104 rfl) ⟨T1 rfl, trivial⟩ ?_
    refine cs O_move ⟨T1 rfl, trivial⟩ ?_
    refine cs O_move ⟨T1 rfl, trivial⟩ ?_
    refine cs (O_index ts51 (by omega)) ⟨T1 rfl, T1 rfl, trivial⟩ ?_
    refine cs (O_loadgw tg104 rfl) ⟨T1 rfl, trivial⟩ ?_
    refine cs (O_call cf119 (laws_eqFun _ _) rfl) ⟨T1 rfl, T1 rfl, trivial⟩ ?_
    refine cs O_not ⟨T1 rfl, trivial⟩ ?_
    refine Chain_nil ?_
    refine WL_nil (Fin_then (W_cond rfl (fun h2 => ?_) (fun h2 => ?_)))
    · skip
      try simp only [bl] at h2
      refine W_seq (W_region (WL_ac rfl ?_))
      exact WL_nil (Fin_then (W_ret (Fin_block_ret (Fin_then_ret (Fin_then_ret (Fin_block_ret (Fin_then_ret (RetC rfl (Res1 rfl (RV.tmp rfl (Imp.bool (by simp [list_ne_of k h2]))))))))))))
    try simp only [bl] at h2
    refine W_skip (Fin_block (Fin_then (W_region (WL_mv rfl rfl ?_))))
    refine ws (O_add (by omega)) ⟨T1 rfl, C1, trivial⟩ ?_
    refine WL_as rfl rfl ?_
    exact WL_nil (Fin_back (k + 1) ⟨by omega, fun j hj => by rcases Nat.lt_or_ge j k with q | q; exact hx.2 j q; rw [show j = k from by omega]; exact h2⟩ (by omega) ⟨⟨rfl, _, rfl, (by first | exact Imp.refl | exact Imp.slv | exact Imp.nil | exact Imp.int (by omega) | exact Imp.int (by simp; done) | exact Imp.bool (by simp_all; done))⟩, trivial⟩ ⟨rfl, rfl, trivial⟩ rfl rfl)
  try simp only [bl] at h1
  refine W_exit (Fin_then_exit (Fin_then_exit (Fin_block_exit (Fin_then (W_seq (W_region (WL_ac rfl ?_)))))))
  exact WL_nil (Fin_then (W_ret (RetC rfl (Res1 rfl (RV.tmp rfl (Imp.bool (by simp [list_eq_of hlen (fun j hj => hx.2 j (by omega))])))))))
set_option maxRecDepth 8000 in
theorem laws_eqProg (t u : Prg) : FnC Try.prog 25 [A.agg (cProg t), A.agg (cProg u)] (A.bool (decide (t = u))) := by
  refine Fn_of_W Try.func25 rfl rfl fun r w => ?_
  refine W_seq (W_region (ws O_boxg ⟨T1 rfl, trivial⟩ ?_))
  refine ws O_boxg ⟨T1 rfl, trivial⟩ ?_
  refine WL_ac rfl ?_
  refine WL_nil (Fin_then (W_seq (W_seq (W_region (ws (O_field tf53_0) ⟨T1 rfl, trivial⟩ ?_)))))
  refine ws (O_load ta31) ⟨T1 rfl, trivial⟩ ?_
  refine ws (O_field tf53_0) ⟨T1 rfl, trivial⟩ ?_
  refine ws (O_load ta31) ⟨T1 rfl, trivial⟩ ?_
  refine ws (O_call cf17 (laws_eqTypeSS _ _) rfl) ⟨T1 rfl, T1 rfl, trivial⟩ ?_
  refine ws O_not ⟨T1 rfl, trivial⟩ ?_
  refine WL_nil (Fin_then (W_cond rfl (fun h0 => ?_) (fun h0 => ?_)))
  · skip
    try simp only [bl] at h0
    refine W_seq (W_region (WL_ac rfl ?_))
    exact WL_nil (Fin_then (W_ret (Fin_then_ret (RetC rfl (Res1 rfl (RV.tmp rfl (Imp.bool (by simp only [Prg.eqs]; grind))))))))
  try simp only [bl] at h0
  refine W_skip (Fin_then (W_seq (W_seq (W_region (ws (O_field tf53_1) ⟨T1 rfl, trivial⟩ ?_)))))
  refine ws (O_load ta50) ⟨T1 rfl, trivial⟩ ?_
  refine ws (O_field tf53_1) ⟨T1 rfl, trivial⟩ ?_
  refine ws (O_load ta50) ⟨T1 rfl, trivial⟩ ?_
  refine ws (O_call cf28 (laws_eqFieldS _ _) rfl) ⟨T1 rfl, T1 rfl, trivial⟩ ?_
  refine ws O_not ⟨T1 rfl, trivial⟩ ?_
  refine WL_nil (Fin_then (W_cond rfl (fun h1 => ?_) (fun h1 => ?_)))
  · skip
    try simp only [bl] at h1
    refine W_seq (W_region (WL_ac rfl ?_))
    exact WL_nil (Fin_then (W_ret (Fin_then_ret (RetC rfl (Res1 rfl (RV.tmp rfl (Imp.bool (by simp only [Prg.eqs]; grind))))))))
  try simp only [bl] at h1
  refine W_skip (Fin_then (W_seq (W_seq (W_region (ws (O_field tf53_2) ⟨T1 rfl, trivial⟩ ?_)))))
  refine ws (O_load ta51) ⟨T1 rfl, trivial⟩ ?_
  refine ws (O_field tf53_2) ⟨T1 rfl, trivial⟩ ?_
  refine ws (O_load ta51) ⟨T1 rfl, trivial⟩ ?_
  refine ws (O_call cf65 (laws_eqFunS _ _) rfl) ⟨T1 rfl, T1 rfl, trivial⟩ ?_
  refine ws O_not ⟨T1 rfl, trivial⟩ ?_
  refine WL_nil (Fin_then (W_cond rfl (fun h2 => ?_) (fun h2 => ?_)))
  · skip
    try simp only [bl] at h2
    refine W_seq (W_region (WL_ac rfl ?_))
    exact WL_nil (Fin_then (W_ret (Fin_then_ret (RetC rfl (Res1 rfl (RV.tmp rfl (Imp.bool (by simp only [Prg.eqs]; grind))))))))
  try simp only [bl] at h2
  refine W_skip (Fin_then (W_seq (W_region (WL_ac rfl ?_))))
  exact WL_nil (Fin_then (W_ret (RetC rfl (Res1 rfl (RV.tmp rfl (Imp.bool (by simp only [Prg.eqs]; grind)))))))
set_option maxRecDepth 8000 in
theorem spec_SortOk (f : Fld) (n : Int) : FnC Try.prog 109 [A.agg (cFld f), A.int n] (A.bool (sortOk f n)) := by
  refine Fn_of_W Try.func109 rfl rfl fun r w => ?_
  refine W_seq (W_region (ws O_boxg ⟨T1 rfl, trivial⟩ ?_))
  refine WL_ac rfl ?_
  refine WL_nil (Fin_then (W_seq (W_region (ws (O_field tf37_2) ⟨T1 rfl, trivial⟩ ?_))))
  refine ws (O_load ta4) ⟨T1 rfl, trivial⟩ ?_
  refine ws O_not ⟨T1 rfl, trivial⟩ ?_
  refine WL_mv rfl rfl ?_
  refine wt1 rfl rfl (fun hc => (O_loadgw tg37 rfl)) ⟨tg rfl, trivial⟩ ?_
  refine wt1 rfl rfl (fun hc => O_move) ⟨tg rfl, trivial⟩ ?_
  refine wt1 rfl rfl (fun hc => (O_call cf42 (spec_FieldOk _ _) rfl)) ⟨tg rfl, tg rfl, trivial⟩ ?_
  refine ws O_and ⟨T1 rfl, tg rfl, trivial⟩ ?_
  refine WL_as rfl rfl ?_
  exact WL_nil (Fin_then (W_ret (RetC rfl (Res1 rfl (RV.tmp rfl (by first | exact Imp.refl | exact Imp.slv | exact Imp.nil | exact Imp.int (by omega) | exact Imp.int (by simp; done) | exact Imp.bool (by simp_all; done)))))))
set_option maxRecDepth 8000 in
theorem spec_l3Sorts (L : List Fld) (n : Int) (bare : Bool) : FnC Try.prog 57 [A.sl 3 cFld L, A.int n, A.bool bare] (A.bool (sortsOk L n bare)) := by
  refine Fn_of_W Try.func57 rfl rfl fun r w => ?_
  refine W_seq (W_region (WL_ac rfl ?_))
  refine WL_nil (Fin_then (W_seq (W_seq (W_region (WL_ac rfl ?_)))))
  refine WL_nil (Fin_then (W_block (W_loopk [0, 1, 2] (T := Nat) (fun k => k ≤ L.length ∧ ∀ j, j < k → (fun j => sortOk (idx L (j : Int)) n && !(bare && decide ((idx L (j : Int)).kind = 3))) j = true) (fun k => [(7, true, A.int (k : Int))]) (fun k => L.length - k) 0 ⟨Nat.zero_le _, allN_zero⟩ ⟨⟨rfl, _, rfl, (by first | exact Imp.refl | exact Imp.slv | exact Imp.nil | exact Imp.int (by omega) | exact Imp.int (by simp; done) | exact Imp.bool (by simp_all; done))⟩, trivial⟩ (fun k hx => ?_))))
  have hk := hx.1
  have hj := hx.2
  refine W_seq (W_seq (W_region (WL_mv rfl rfl ?_)))
  refine WL_mv rfl rfl ?_
  refine WL_len ts50 rfl rfl fun hl10 => ?_
  refine ws O_lss ⟨T1 rfl, T1 rfl, trivial⟩ ?_
  refine WL_nil (Fin_then (W_cond rfl (fun h0 => ?_) (fun h0 => ?_)))
  · skip
    try simp only [bl] at h0
    refine W_skip (Fin_then (W_seq (W_block (W_seq (W_region (WL_mv rfl rfl ?_))))))
    refine WL_mv rfl rfl ?_
    refine ws (O_index ts50 (by omega)) ⟨T1 rfl, T1 rfl, trivial⟩ ?_
    refine ws (O_loadgw tg37 rfl) ⟨T1 rfl, trivial⟩ ?_
    refine WL_mv rfl rfl ?_
    refine ws (O_call cf109 (spec_SortOk _ _) rfl) ⟨T1 rfl, T1 rfl, trivial⟩ ?_
    refine ws O_not ⟨T1 rfl, trivial⟩ ?_
    refine WL_mv rfl rfl ?_
    refine wf1 rfl rfl (fun hc => O_move) ⟨tg rfl, trivial⟩ ?_
    refine wf1 rfl rfl (fun hc => O_move) ⟨tg rfl, trivial⟩ ?_
    refine wt rfl rfl (fun hc => O_move) ⟨tg rfl, trivial⟩ ?_
    refine wt rfl rfl (fun hc => O_move) ⟨tg rfl, trivial⟩ ?_
    refine wt rfl rfl (fun hc => (O_index ts50 (by (try simp only [bl] at hc); omega))) ⟨tg rfl, tg rfl, trivial⟩ ?_
    refine wt rfl rfl (fun hc => (O_field tf37_0)) ⟨tg rfl, trivial⟩ ?_
    refine wt rfl rfl (fun hc => (O_load ta3)) ⟨tg rfl, trivial⟩ ?_
    refine wt rfl rfl (fun hc => O_eql) ⟨tg rfl, C1, trivial⟩ ?_
    refine wf1 rfl rfl (fun hc => O_and) ⟨tg rfl, tg rfl, trivial⟩ ?_
    refine ws O_or ⟨T1 rfl, tg rfl, trivial⟩ ?_
    refine WL_nil (Fin_then (W_cond rfl (fun h1 => ?_) (fun h1 => ?_)))
    · skip
      try simp only [bl] at h1
      refine W_seq (W_region (WL_ac rfl ?_))
      exact WL_nil (Fin_then (W_ret (Fin_block_ret (Fin_then_ret (Fin_then_ret (Fin_block_ret (Fin_then_ret (RetC rfl (Res1 rfl (RV.tmp rfl (Imp.bool (by unfold sortsOk; rw [← all_idx, allN_false k (by omega) (by grind)]))))))))))))
    try simp only [bl] at h1
    refine W_skip (Fin_block (Fin_then (W_region (WL_mv rfl rfl ?_))))
    refine ws (O_add (by omega)) ⟨T1 rfl, C1, trivial⟩ ?_
    refine WL_as rfl rfl ?_
    exact WL_nil (Fin_back (k + 1) ⟨by omega, allN_succ hj (by grind)⟩ (by omega) ⟨⟨rfl, _, rfl, (by first | exact Imp.refl | exact Imp.slv | exact Imp.nil | exact Imp.int (by omega) | exact Imp.int (by simp; done) | exact Imp.bool (by simp_all; done))⟩, trivial⟩ ⟨rfl, rfl, rfl, trivial⟩ rfl rfl)
  try simp only [bl] at h0
  refine W_exit (Fin_then_exit (Fin_then_exit (Fin_block_exit (Fin_then (W_seq (W_region (WL_ac rfl ?_)))))))
  exact WL_nil (Fin_then (W_ret (RetC rfl (Res1 rfl (RV.tmp rfl (Imp.bool (by unfold sortsOk; rw [← all_idx, allN_true (fun j q => hj j (by omega))])))))))
set_option maxRecDepth 8000 in
theorem spec_InsHas (op : Int) : FnC Try.prog 149 [A.int op] (A.int (insHas op)) := by
  refine Fn_of_W Try.func149 rfl rfl fun r w => ?_
  refine W_seq (W_region (WL_ac rfl ?_))
  refine WL_nil (Fin_then (W_seq (W_seq (W_region (WL_mv rfl rfl ?_)))))
  refine WL_nil (Fin_then (W_block (W_seq (W_seq (W_region (ws O_eql ⟨T1 rfl, C1, trivial⟩ ?_))))))
  refine WL_as rfl rfl ?_
  refine WL_nil (Fin_then (W_cut2 [3] [] [] [] (T := Unit) (fun _u => True) (fun _u => [(4, true, A.bool (decide (op = 14) || decide (op = 15)))]) (fun _u => { own := [], rooms := [], maps := [] }) ?_ (fun _u hx => ?_)))
  · skip
    refine W_cond rfl (fun h0 => ?_) (fun h0 => ?_)
    · skip
      try simp only [bl] at h0
      exact W_skip (Fin_cut [] () (by first | trivial | omega) ⟨⟨rfl, _, rfl, (Imp.bool (by simp_all))⟩, trivial⟩ ⟨rfl, trivial⟩ OSub.nil rfl (List.Sublist.refl _) rfl)
    try simp only [bl] at h0
    refine W_region (ws O_eql ⟨T1 rfl, C1, trivial⟩ ?_)
    refine WL_as rfl rfl ?_
    exact WL_nil (Fin_cut [] () (by first | trivial | omega) ⟨⟨rfl, _, rfl, (Imp.bool (by simp_all))⟩, trivial⟩ ⟨rfl, trivial⟩ OSub.nil rfl (List.Sublist.refl _) rfl)
  refine W_cond rfl (fun h1 => ?_) (fun h1 => ?_)
  · skip
    try simp only [bl] at h1
    refine W_seq (W_region (WL_ac rfl ?_))
    exact WL_nil (Fin_then (W_ret (Fin_block_ret (Fin_then_ret (RetC rfl (Res1 rfl (RV.tmp rfl (Imp.int (by unfold insHas; rw [if_pos h1])))))))))
  try simp only [bl] at h1
  refine W_seq (W_seq (W_region (ws O_eql ⟨T1 rfl, C1, trivial⟩ ?_)))
  refine WL_as rfl rfl ?_
  refine WL_nil (Fin_then (W_cut2 [] [] [] [] (T := Unit) (fun _u => True) (fun _u => [(7, true, A.bool (decide (op = 1 ∨ op = 2 ∨ op = 3 ∨ op = 4 ∨ op = 5 ∨ op = 12 ∨ op = 13 ∨ op = 16 ∨ op = 17 ∨ op = 18 ∨ op = 19 ∨ op = 22 ∨ op = 23 ∨ op = 25 ∨ op = 26 ∨ op = 27 ∨ op = 28 ∨ op = 33)))]) (fun _u => { own := [], rooms := [], maps := [] }) ?_ (fun _u hx => ?_)))
  · skip
    refine W_cond rfl (fun h2 => ?_) (fun h2 => ?_)
    · skip
      try simp only [bl] at h2
      exact W_skip (Fin_cut [] () (by first | trivial | omega) ⟨⟨rfl, _, rfl, (Imp.bool (by simp_all))⟩, trivial⟩ trivial OSub.nil rfl (List.Sublist.refl _) rfl)
    try simp only [bl] at h2
    refine W_seq (W_region (ws O_eql ⟨T1 rfl, C1, trivial⟩ ?_))
    refine WL_as rfl rfl ?_
    refine WL_nil (Fin_then (W_cond rfl (fun h3 => ?_) (fun h3 => ?_)))
    · skip
      try simp only [bl] at h3
      exact W_skip (Fin_cut [] () (by first | trivial | omega) ⟨⟨rfl, _, rfl, (Imp.bool (by simp_all))⟩, trivial⟩ trivial OSub.nil rfl (List.Sublist.refl _) rfl)
    try simp only [bl] at h3
    refine W_seq (W_region (ws O_eql ⟨T1 rfl, C1, trivial⟩ ?_))
    refine WL_as rfl rfl ?_
    refine WL_nil (Fin_then (W_cond rfl (fun h4 => ?_) (fun h4 => ?_)))
    · skip
      try simp only [bl] at h4
      exact W_skip (Fin_cut [] () (by first | trivial | omega) ⟨⟨rfl, _, rfl, (Imp.bool (by simp_all))⟩, trivial⟩ trivial OSub.nil rfl (List.Sublist.refl _) rfl)
    try simp only [bl] at h4
    refine W_seq (W_region (ws O_eql ⟨T1 rfl, C1, trivial⟩ ?_))
    refine WL_as rfl rfl ?_
    refine WL_nil (Fin_then (W_cond rfl (fun h5 => ?_) (fun h5 => ?_)))
    · skip
      try simp only [bl] at h5
      exact W_skip (Fin_cut [] () (by first | trivial | omega) ⟨⟨rfl, _, rfl, (Imp.bool (by simp_all))⟩, trivial⟩ trivial OSub.nil rfl (List.Sublist.refl _) rfl)
    try simp only [bl] at h5
    refine W_seq (W_region (ws O_eql ⟨T1 rfl, C1, trivial⟩ ?_))
    refine WL_as rfl rfl ?_
    refine WL_nil (Fin_then (W_cond rfl (fun h6 => ?_) (fun h6 => ?_)))
    · skip
      try simp only [bl] at h6
      exact W_skip (Fin_cut [] () (by first | trivial | omega) ⟨⟨rfl, _, rfl, (Imp.bool (by simp_all))⟩, trivial⟩ trivial OSub.nil rfl (List.Sublist.refl _) rfl)
    try simp only [bl] at h6
    refine W_seq (W_region (ws O_eql ⟨T1 rfl, C1, trivial⟩ ?_))
    refine WL_as rfl rfl ?_
    refine WL_nil (Fin_then (W_cond rfl (fun h7 => ?_) (fun h7 => ?_)))
    · skip
      try simp only [bl] at h7
      exact W_skip (Fin_cut [] () (by first | trivial | omega) ⟨⟨rfl, _, rfl, (Imp.bool (by simp_all))⟩, trivial⟩ trivial OSub.nil rfl (List.Sublist.refl _) rfl)
    try simp only [bl] at h7
    refine W_seq (W_region (ws O_eql ⟨T1 rfl, C1, trivial⟩ ?_))
    refine WL_as rfl rfl ?_
    refine WL_nil (Fin_then (W_cond rfl (fun h8 => ?_) (fun h8 => ?_)))
    · skip
      try simp only [bl] at h8
      exact W_skip (Fin_cut [] () (by first | trivial | omega) ⟨⟨rfl, _, rfl, (Imp.bool (by simp_all))⟩, trivial⟩ trivial OSub.nil rfl (List.Sublist.refl _) rfl)
    try simp only [bl] at h8
    refine W_seq (W_region (ws O_eql ⟨T1 rfl, C1, trivial⟩ ?_))
    refine WL_as rfl rfl ?_
    refine WL_nil (Fin_then (W_cond rfl (fun h9 => ?_) (fun h9 => ?_)))
    · skip
      try simp only [bl] at h9
      exact W_skip (Fin_cut [] () (by first | trivial | omega) ⟨⟨rfl, _, rfl, (Imp.bool (by simp_all))⟩, trivial⟩ trivial OSub.nil rfl (List.Sublist.refl _) rfl)
    try simp only [bl] at h9
    refine W_seq (W_region (ws O_eql ⟨T1 rfl, C1, trivial⟩ ?_))
    refine WL_as rfl rfl ?_
    refine WL_nil (Fin_then (W_cond rfl (fun h10 => ?_) (fun h10 => ?_)))
    · skip
      try simp only [bl] at h10
      exact W_skip (Fin_cut [] () (by first | trivial | omega) ⟨⟨rfl, _, rfl, (Imp.bool (by simp_all))⟩, trivial⟩ trivial OSub.nil rfl (List.Sublist.refl _) rfl)
    try simp only [bl] at h10
    refine W_seq (W_region (ws O_eql ⟨T1 rfl, C1, trivial⟩ ?_))
    refine WL_as rfl rfl ?_
    refine WL_nil (Fin_then (W_cond rfl (fun h11 => ?_) (fun h11 => ?_)))
    · skip
      try simp only [bl] at h11
      exact W_skip (Fin_cut [] () (by first | trivial | omega) ⟨⟨rfl, _, rfl, (Imp.bool (by simp_all))⟩, trivial⟩ trivial OSub.nil rfl (List.Sublist.refl _) rfl)
    try simp only [bl] at h11
    refine W_seq (W_region (ws O_eql ⟨T1 rfl, C1, trivial⟩ ?_))
    refine WL_as rfl rfl ?_
    refine WL_nil (Fin_then (W_cond rfl (fun h12 => ?_) (fun h12 => ?_)))
    · skip
      try simp only [bl] at h12
      exact W_skip (Fin_cut [] () (by first | trivial | omega) ⟨⟨rfl, _, rfl, (Imp.bool (by simp_all))⟩, trivial⟩ trivial OSub.nil rfl (List.Sublist.refl _) rfl)
    try simp only [bl] at h12
    refine W_seq (W_region (ws O_eql ⟨T1 rfl, C1, trivial⟩ ?_))
    refine WL_as rfl rfl ?_
    refine WL_nil (Fin_then (W_cond rfl (fun h13 => ?_) (fun h13 => ?_)))
    · skip
      try simp only [bl] at h13
      exact W_skip (Fin_cut [] () (by first | trivial | omega) ⟨⟨rfl, _, rfl, (Imp.bool (by simp_all))⟩, trivial⟩ trivial OSub.nil rfl (List.Sublist.refl _) rfl)
    try simp only [bl] at h13
    refine W_seq (W_region (ws O_eql ⟨T1 rfl, C1, trivial⟩ ?_))
    refine WL_as rfl rfl ?_
    refine WL_nil (Fin_then (W_cond rfl (fun h14 => ?_) (fun h14 => ?_)))
    · skip
      try simp only [bl] at h14
      exact W_skip (Fin_cut [] () (by first | trivial | omega) ⟨⟨rfl, _, rfl, (Imp.bool (by simp_all))⟩, trivial⟩ trivial OSub.nil rfl (List.Sublist.refl _) rfl)
    try simp only [bl] at h14
    refine W_seq (W_region (ws O_eql ⟨T1 rfl, C1, trivial⟩ ?_))
    refine WL_as rfl rfl ?_
    refine WL_nil (Fin_then (W_cond rfl (fun h15 => ?_) (fun h15 => ?_)))
    · skip
      try simp only [bl] at h15
      exact W_skip (Fin_cut [] () (by first | trivial | omega) ⟨⟨rfl, _, rfl, (Imp.bool (by simp_all))⟩, trivial⟩ trivial OSub.nil rfl (List.Sublist.refl _) rfl)
    try simp only [bl] at h15
    refine W_seq (W_region (ws O_eql ⟨T1 rfl, C1, trivial⟩ ?_))
    refine WL_as rfl rfl ?_
    refine WL_nil (Fin_then (W_cond rfl (fun h16 => ?_) (fun h16 => ?_)))
    · skip
      try simp only [bl] at h16
      exact W_skip (Fin_cut [] () (by first | trivial | omega) ⟨⟨rfl, _, rfl, (Imp.bool (by simp_all))⟩, trivial⟩ trivial OSub.nil rfl (List.Sublist.refl _) rfl)
    try simp only [bl] at h16
    refine W_seq (W_region (ws O_eql ⟨T1 rfl, C1, trivial⟩ ?_))
    refine WL_as rfl rfl ?_
    refine WL_nil (Fin_then (W_cond rfl (fun h17 => ?_) (fun h17 => ?_)))
    · skip
      try simp only [bl] at h17
      exact W_skip (Fin_cut [] () (by first | trivial | omega) ⟨⟨rfl, _, rfl, (Imp.bool (by simp_all))⟩, trivial⟩ trivial OSub.nil rfl (List.Sublist.refl _) rfl)
    try simp only [bl] at h17
    refine W_seq (W_region (ws O_eql ⟨T1 rfl, C1, trivial⟩ ?_))
    refine WL_as rfl rfl ?_
    refine WL_nil (Fin_then (W_cond rfl (fun h18 => ?_) (fun h18 => ?_)))
    · skip
      try simp only [bl] at h18
      exact W_skip (Fin_cut [] () (by first | trivial | omega) ⟨⟨rfl, _, rfl, (Imp.bool (by simp_all))⟩, trivial⟩ trivial OSub.nil rfl (List.Sublist.refl _) rfl)
    try simp only [bl] at h18
    refine W_region (ws O_eql ⟨T1 rfl, C1, trivial⟩ ?_)
    refine WL_as rfl rfl ?_
    exact WL_nil (Fin_cut [] () (by first | trivial | omega) ⟨⟨rfl, _, rfl, (Imp.bool (by simp_all))⟩, trivial⟩ trivial OSub.nil rfl (List.Sublist.refl _) rfl)
  refine W_cond rfl (fun h19 => ?_) (fun h19 => ?_)
  · skip
    try simp only [bl] at h19
    refine W_seq (W_region (WL_ac rfl ?_))
    exact WL_nil (Fin_then (W_ret (Fin_block_ret (Fin_then_ret (RetC rfl (Res1 rfl (RV.tmp rfl (Imp.int (by unfold insHas; rw [if_neg (by omega), if_pos (by assumption)])))))))))
  try simp only [bl] at h19
  refine W_skip (Fin_block (Fin_then (W_seq (W_region (WL_ac rfl ?_)))))
  exact WL_nil (Fin_then (W_ret (RetC rfl (Res1 rfl (RV.tmp rfl (Imp.int (by unfold insHas; rw [if_neg (by omega), if_neg (by assumption)])))))))
set_option maxRecDepth 8000 in
theorem spec_l2IsOf (op : Int) : FnC Try.prog 150 [A.int op] (A.bool (insIsOf op)) := by
  refine Fn_of_W Try.func150 rfl rfl fun r w => ?_
  refine W_seq (W_region (WL_ac rfl ?_))
  refine WL_nil (Fin_then (W_seq (W_region (WL_mv rfl rfl ?_))))
  refine ws O_eql ⟨T1 rfl, C1, trivial⟩ ?_
  refine WL_mv rfl rfl ?_
  refine wf1 rfl rfl (fun hc => O_move) ⟨tg rfl, trivial⟩ ?_
  refine wf1 rfl rfl (fun hc => O_eql) ⟨tg rfl, C1, trivial⟩ ?_
  refine ws O_or ⟨T1 rfl, tg rfl, trivial⟩ ?_
  refine WL_mv rfl rfl ?_
  refine wf1 rfl rfl (fun hc => O_move) ⟨tg rfl, trivial⟩ ?_
  refine wf1 rfl rfl (fun hc => O_eql) ⟨tg rfl, C1, trivial⟩ ?_
  refine ws O_or ⟨T1 rfl, tg rfl, trivial⟩ ?_
  refine WL_as rfl rfl ?_
  exact WL_nil (Fin_then (W_ret (RetC rfl (Res1 rfl (RV.tmp rfl (by first | exact Imp.refl | exact Imp.slv | exact Imp.nil | exact Imp.int (by omega) | exact Imp.int (by simp; done) | exact Imp.bool (by simp_all; done)))))))
set_option maxRecDepth 8000 in
theorem spec_l2Most (op : Int) : FnC Try.prog 151 [A.int op] (A.int (insMost op)) := by
  refine Fn_of_W Try.func151 rfl rfl fun r w => ?_
  refine W_seq (W_region (WL_ac rfl ?_))
  refine WL_nil (Fin_then (W_seq (W_seq (W_region (WL_mv rfl rfl ?_)))))
  refine WL_nil (Fin_then (W_block (W_seq (W_region (ws O_eql ⟨T1 rfl, C1, trivial⟩ ?_)))))
  refine WL_as rfl rfl ?_
  refine WL_nil (Fin_then (W_cond rfl (fun h0 => ?_) (fun h0 => ?_)))
  · skip
    try simp only [bl] at h0
    refine W_seq (W_region (WL_ac rfl ?_))
    exact WL_nil (Fin_then (W_ret (Fin_block_ret (Fin_then_ret (RetC rfl (Res1 rfl (RV.tmp rfl (Imp.int (by unfold insMost; grind)))))))))
  try simp only [bl] at h0
  refine W_seq (W_seq (W_region (ws O_eql ⟨T1 rfl, C1, trivial⟩ ?_)))
  refine WL_as rfl rfl ?_
  refine WL_nil (Fin_then (W_cut2 [3] [] [] [] (T := Unit) (fun _u => True) (fun _u => [(6, true, A.bool (decide (op = 2) || decide (op = 3)))]) (fun _u => { own := [], rooms := [], maps := [] }) ?_ (fun _u hx => ?_)))
  · skip
    refine W_cond rfl (fun h1 => ?_) (fun h1 => ?_)
    · skip
      try simp only [bl] at h1
      exact W_skip (Fin_cut [] () (by first | trivial | omega) ⟨⟨rfl, _, rfl, (Imp.bool (by simp_all))⟩, trivial⟩ ⟨rfl, trivial⟩ OSub.nil rfl (List.Sublist.refl _) rfl)
    try simp only [bl] at h1
    refine W_region (ws O_eql ⟨T1 rfl, C1, trivial⟩ ?_)
    refine WL_as rfl rfl ?_
    exact WL_nil (Fin_cut [] () (by first | trivial | omega) ⟨⟨rfl, _, rfl, (Imp.bool (by simp_all))⟩, trivial⟩ ⟨rfl, trivial⟩ OSub.nil rfl (List.Sublist.refl _) rfl)
  refine W_cond rfl (fun h2 => ?_) (fun h2 => ?_)
  · skip
    try simp only [bl] at h2
    refine W_seq (W_region (WL_ac rfl ?_))
    exact WL_nil (Fin_then (W_ret (Fin_block_ret (Fin_then_ret (RetC rfl (Res1 rfl (RV.tmp rfl (Imp.int (by unfold insMost; grind)))))))))
  try simp only [bl] at h2
  refine W_seq (W_seq (W_region (ws O_eql ⟨T1 rfl, C1, trivial⟩ ?_)))
  refine WL_as rfl rfl ?_
  refine WL_nil (Fin_then (W_cut2 [3] [] [] [] (T := Unit) (fun _u => True) (fun _u => [(9, true, A.bool (decide (op = 4) || decide (op = 5)))]) (fun _u => { own := [], rooms := [], maps := [] }) ?_ (fun _u hx => ?_)))
  · skip
    refine W_cond rfl (fun h3 => ?_) (fun h3 => ?_)
    · skip
      try simp only [bl] at h3
      exact W_skip (Fin_cut [] () (by first | trivial | omega) ⟨⟨rfl, _, rfl, (Imp.bool (by simp_all))⟩, trivial⟩ ⟨rfl, trivial⟩ OSub.nil rfl (List.Sublist.refl _) rfl)
    try simp only [bl] at h3
    refine W_region (ws O_eql ⟨T1 rfl, C1, trivial⟩ ?_)
    refine WL_as rfl rfl ?_
    exact WL_nil (Fin_cut [] () (by first | trivial | omega) ⟨⟨rfl, _, rfl, (Imp.bool (by simp_all))⟩, trivial⟩ ⟨rfl, trivial⟩ OSub.nil rfl (List.Sublist.refl _) rfl)
  refine W_cond rfl (fun h4 => ?_) (fun h4 => ?_)
  · skip
    try simp only [bl] at h4
    refine W_seq (W_region (WL_ac rfl ?_))
    exact WL_nil (Fin_then (W_ret (Fin_block_ret (Fin_then_ret (RetC rfl (Res1 rfl (RV.tmp rfl (Imp.int (by unfold insMost; grind)))))))))
  try simp only [bl] at h4
  refine W_seq (W_seq (W_region (ws O_eql ⟨T1 rfl, C1, trivial⟩ ?_)))
  refine WL_as rfl rfl ?_
  refine WL_nil (Fin_then (W_cut2 [3] [] [] [] (T := Unit) (fun _u => True) (fun _u => [(12, true, A.bool (decide (op = 25) || decide (op = 26)))]) (fun _u => { own := [], rooms := [], maps := [] }) ?_ (fun _u hx => ?_)))
  · skip
    refine W_cond rfl (fun h5 => ?_) (fun h5 => ?_)
    · skip
      try simp only [bl] at h5
      exact W_skip (Fin_cut [] () (by first | trivial | omega) ⟨⟨rfl, _, rfl, (Imp.bool (by simp_all))⟩, trivial⟩ ⟨rfl, trivial⟩ OSub.nil rfl (List.Sublist.refl _) rfl)
    try simp only [bl] at h5
    refine W_region (ws O_eql ⟨T1 rfl, C1, trivial⟩ ?_)
    refine WL_as rfl rfl ?_
    exact WL_nil (Fin_cut [] () (by first | trivial | omega) ⟨⟨rfl, _, rfl, (Imp.bool (by simp_all))⟩, trivial⟩ ⟨rfl, trivial⟩ OSub.nil rfl (List.Sublist.refl _) rfl)
  refine W_cond rfl (fun h6 => ?_) (fun h6 => ?_)
  · skip
    try simp only [bl] at h6
    refine W_seq (W_region (WL_ac rfl ?_))
    exact WL_nil (Fin_then (W_ret (Fin_block_ret (Fin_then_ret (RetC rfl (Res1 rfl (RV.tmp rfl (Imp.int (by unfold insMost; grind)))))))))
  try simp only [bl] at h6
  refine W_seq (W_seq (W_region (ws O_eql ⟨T1 rfl, C1, trivial⟩ ?_)))
  refine WL_as rfl rfl ?_
  refine WL_nil (Fin_then (W_cut2 [3] [] [] [] (T := Unit) (fun _u => True) (fun _u => [(15, true, A.bool (decide (op = 27) || decide (op = 28)))]) (fun _u => { own := [], rooms := [], maps := [] }) ?_ (fun _u hx => ?_)))
  · skip
    refine W_cond rfl (fun h7 => ?_) (fun h7 => ?_)
    · skip
      try simp only [bl] at h7
      exact W_skip (Fin_cut [] () (by first | trivial | omega) ⟨⟨rfl, _, rfl, (Imp.bool (by simp_all))⟩, trivial⟩ ⟨rfl, trivial⟩ OSub.nil rfl (List.Sublist.refl _) rfl)
    try simp only [bl] at h7
    refine W_region (ws O_eql ⟨T1 rfl, C1, trivial⟩ ?_)
    refine WL_as rfl rfl ?_
    exact WL_nil (Fin_cut [] () (by first | trivial | omega) ⟨⟨rfl, _, rfl, (Imp.bool (by simp_all))⟩, trivial⟩ ⟨rfl, trivial⟩ OSub.nil rfl (List.Sublist.refl _) rfl)
  refine W_cond rfl (fun h8 => ?_) (fun h8 => ?_)
  · skip
    try simp only [bl] at h8
    refine W_seq (W_region (WL_ac rfl ?_))
    exact WL_nil (Fin_then (W_ret (Fin_block_ret (Fin_then_ret (RetC rfl (Res1 rfl (RV.tmp rfl (Imp.int (by unfold insMost; grind)))))))))
  try simp only [bl] at h8
  refine W_seq (W_region (ws O_eql ⟨T1 rfl, C1, trivial⟩ ?_))
  refine WL_as rfl rfl ?_
  refine WL_nil (Fin_then (W_cond rfl (fun h9 => ?_) (fun h9 => ?_)))
  · skip
    try simp only [bl] at h9
    refine W_seq (W_region (WL_ac rfl ?_))
    exact WL_nil (Fin_then (W_ret (Fin_block_ret (Fin_then_ret (RetC rfl (Res1 rfl (RV.tmp rfl (Imp.int (by unfold insMost; grind)))))))))
  try simp only [bl] at h9
  refine W_skip (Fin_block (Fin_then (W_seq (W_region (WL_ac rfl ?_)))))
  exact WL_nil (Fin_then (W_ret (RetC rfl (Res1 rfl (RV.tmp rfl (Imp.int (by unfold insMost; grind)))))))
set_option maxRecDepth 8000 in
theorem spec_InsOk (i : Isn) : FnC Try.prog 110 [A.agg (cIns i)] (A.bool (insOk i)) := by
  refine Fn_of_W Try.func110 rfl rfl fun r w => ?_
  refine W_seq (W_region (ws O_boxg ⟨T1 rfl, trivial⟩ ?_))
  refine WL_ac rfl ?_
  refine WL_nil (Fin_then (W_seq (W_seq (W_region (ws (O_field tf171_0) ⟨T1 rfl, trivial⟩ ?_)))))
  refine ws (O_load ta3) ⟨T1 rfl, trivial⟩ ?_
  refine ws O_lss ⟨T1 rfl, C1, trivial⟩ ?_
  refine WL_mv rfl rfl ?_
  refine wf1 rfl rfl (fun hc => (O_field tf171_0)) ⟨tg rfl, trivial⟩ ?_
  refine wf1 rfl rfl (fun hc => (O_load ta3)) ⟨tg rfl, trivial⟩ ?_
  refine wf1 rfl rfl (fun hc => O_gtr) ⟨tg rfl, C1, trivial⟩ ?_
  refine ws O_or ⟨T1 rfl, tg rfl, trivial⟩ ?_
  refine WL_nil (Fin_then (W_cond rfl (fun h0 => ?_) (fun h0 => ?_)))
  · skip
    try simp only [bl] at h0
    refine W_seq (W_region (WL_ac rfl ?_))
    exact WL_nil (Fin_then (W_ret (Fin_then_ret (RetC rfl (Res1 rfl (RV.tmp rfl (Imp.bool (by unfold insOk; rw [if_pos (by omega)]))))))))
  try simp only [bl] at h0
  refine W_skip (Fin_then (W_seq (W_region (ws (O_field tf171_0) ⟨T1 rfl, trivial⟩ ?_))))
  refine ws (O_load ta3) ⟨T1 rfl, trivial⟩ ?_
  refine ws (O_call cf149 (spec_InsHas _) rfl) ⟨T1 rfl, trivial⟩ ?_
  refine WL_as rfl rfl ?_
  refine WL_nil (Fin_then (W_seq (W_seq (W_region (WL_mv rfl rfl ?_)))))
  refine ws O_lss ⟨T1 rfl, C1, trivial⟩ ?_
  refine WL_mv rfl rfl ?_
  refine wt1 rfl rfl (fun hc => (O_field tf171_2)) ⟨tg rfl, trivial⟩ ?_
  refine wt1 rfl rfl (fun hc => (O_load ta3)) ⟨tg rfl, trivial⟩ ?_
  refine wt1 rfl rfl (fun hc => O_neq) ⟨tg rfl, C1, trivial⟩ ?_
  refine ws O_and ⟨T1 rfl, tg rfl, trivial⟩ ?_
  refine WL_mv rfl rfl ?_
  refine wf1 rfl rfl (fun hc => O_move) ⟨tg rfl, trivial⟩ ?_
  refine wf1 rfl rfl (fun hc => O_eql) ⟨tg rfl, C1, trivial⟩ ?_
  refine wf1 rfl rfl (fun hc => O_move) ⟨tg rfl, trivial⟩ ?_
  refine wt rfl rfl (fun hc => (O_field tf171_2)) ⟨tg rfl, trivial⟩ ?_
  refine wt rfl rfl (fun hc => (O_load ta3)) ⟨tg rfl, trivial⟩ ?_
  refine wt rfl rfl (fun hc => O_lss) ⟨tg rfl, C1, trivial⟩ ?_
  refine wt rfl rfl (fun hc => O_move) ⟨tg rfl, trivial⟩ ?_
  refine wf rfl rfl (fun hc => (O_field tf171_2)) ⟨tg rfl, trivial⟩ ?_
  refine wf rfl rfl (fun hc => (O_load ta3)) ⟨tg rfl, trivial⟩ ?_
  refine wf rfl rfl (fun hc => O_geq) ⟨tg rfl, C1, trivial⟩ ?_
  refine wt rfl rfl (fun hc => O_or) ⟨tg rfl, tg rfl, trivial⟩ ?_
  refine wf1 rfl rfl (fun hc => O_and) ⟨tg rfl, tg rfl, trivial⟩ ?_
  refine ws O_or ⟨T1 rfl, tg rfl, trivial⟩ ?_
  refine WL_nil (Fin_then (W_cond rfl (fun h1 => ?_) (fun h1 => ?_)))
  · skip
    try simp only [bl] at h1
    refine W_seq (W_region (WL_ac rfl ?_))
    exact WL_nil (Fin_then (W_ret (Fin_then_ret (RetC rfl (Res1 rfl (RV.tmp rfl (Imp.bool (by unfold insOk; rw [if_neg (by omega), if_pos (by grind)]))))))))
  try simp only [bl] at h1
  refine W_skip (Fin_then (W_seq (W_seq (W_region (WL_mv rfl rfl ?_)))))
  refine ws O_eql ⟨T1 rfl, C1, trivial⟩ ?_
  refine WL_nil (Fin_then (W_cond rfl (fun h2 => ?_) (fun h2 => ?_)))
  · skip
    try simp only [bl] at h2
    refine W_seq (W_region (ws (O_field tf171_1) ⟨T1 rfl, trivial⟩ ?_))
    refine ws (O_load ta3) ⟨T1 rfl, trivial⟩ ?_
    refine ws O_eql ⟨T1 rfl, C1, trivial⟩ ?_
    refine WL_as rfl rfl ?_
    exact WL_nil (Fin_then (W_ret (Fin_then_ret (RetC rfl (Res1 rfl (RV.tmp rfl (Imp.bool (by unfold insOk; rw [if_neg (by omega), if_neg (by grind), if_pos h2]))))))))
  try simp only [bl] at h2
  refine W_skip (Fin_then (W_seq (W_seq (W_region (ws (O_field tf171_0) ⟨T1 rfl, trivial⟩ ?_)))))
  refine ws (O_load ta3) ⟨T1 rfl, trivial⟩ ?_
  refine ws (O_call cf150 (spec_l2IsOf _) rfl) ⟨T1 rfl, trivial⟩ ?_
  refine WL_nil (Fin_then (W_cond rfl (fun h3 => ?_) (fun h3 => ?_)))
  · skip
    try simp only [bl] at h3
    refine W_seq (W_region (ws (O_field tf171_1) ⟨T1 rfl, trivial⟩ ?_))
    refine ws (O_load ta3) ⟨T1 rfl, trivial⟩ ?_
    refine ws (O_call cf89 (spec_l1Of _ _) rfl) ⟨T1 rfl, C1, trivial⟩ ?_
    refine WL_as rfl rfl ?_
    exact WL_nil (Fin_then (W_ret (Fin_then_ret (RetC rfl (Res1 rfl (RV.tmp rfl (Imp.bool (by unfold insOk; rw [if_neg (by omega), if_neg (by grind), if_neg h2, if_pos h3]))))))))
  try simp only [bl] at h3
  refine W_skip (Fin_then (W_seq (W_draw 11 mix rfl rfl ?_)))
  refine cs (O_field tf171_1) ⟨T1 rfl, trivial⟩ ?_
  refine cs (O_load ta3) ⟨T1 rfl, trivial⟩ ?_
  refine cs O_geq ⟨T1 rfl, C1, trivial⟩ ?_
  refine cs O_move ⟨T1 rfl, trivial⟩ ?_
  refine ct1 rfl rfl (fun hc => (O_field tf171_1)) ⟨tg rfl, trivial⟩ ?_
  refine ct1 rfl rfl (fun hc => (O_load ta3)) ⟨tg rfl, trivial⟩ ?_
  refine ct1 rfl rfl (fun hc => (O_field tf171_0)) ⟨tg rfl, trivial⟩ ?_
  refine ct1 rfl rfl (fun hc => (O_load ta3)) ⟨tg rfl, trivial⟩ ?_
  refine ct1 rfl rfl (fun hc => (O_call cf151 (spec_l2Most _) rfl)) ⟨tg rfl, trivial⟩ ?_
  refine ct1 rfl rfl (fun hc => O_lss) ⟨tg rfl, tg rfl, trivial⟩ ?_
  refine cs O_and ⟨T1 rfl, tg rfl, trivial⟩ ?_
  refine Chain_nil ?_
  refine WL_as rfl rfl ?_
  exact WL_nil (Fin_then (W_ret (RetC rfl (Res1 rfl (RV.tmp rfl (Imp.bool (by unfold insOk; rw [if_neg (by omega), if_neg (by grind), if_neg h2, if_neg (by simp [h3])])))))))
set_option maxRecDepth 8000 in
theorem spec_l3Fun (f : Fnc) (n : Int) : FnC Try.prog 58 [A.agg (cFun f), A.int n] (A.bool (funOk f n)) := by
  refine Fn_of_W Try.func58 rfl rfl fun r w => ?_
  refine W_seq (W_region (ws O_boxg ⟨T1 rfl, trivial⟩ ?_))
  refine WL_ac rfl ?_
  refine WL_nil (Fin_then (W_seq (W_seq (W_region (ws (O_field tf104_0) ⟨T1 rfl, trivial⟩ ?_)))))
  refine ws (O_load ta50) ⟨T1 rfl, trivial⟩ ?_
  refine WL_len ts50 rfl rfl fun hl8 => ?_
  refine ws O_gtr ⟨T1 rfl, C1, trivial⟩ ?_
  refine WL_mv rfl rfl ?_
  refine wf1 rfl rfl (fun hc => (O_field tf104_2)) ⟨tg rfl, trivial⟩ ?_
  refine wf1 rfl rfl (fun hc => (O_load ta50)) ⟨tg rfl, trivial⟩ ?_
  refine wf1 rfl rfl (fun hc => (O_len ts50)) ⟨tg rfl, trivial⟩ ?_
  refine wf1 rfl rfl (fun hc => O_gtr) ⟨tg rfl, C1, trivial⟩ ?_
  refine ws O_or ⟨T1 rfl, tg rfl, trivial⟩ ?_
  refine WL_mv rfl rfl ?_
  refine wf1 rfl rfl (fun hc => (O_field tf104_3)) ⟨tg rfl, trivial⟩ ?_
  refine wf1 rfl rfl (fun hc => (O_load ta102)) ⟨tg rfl, trivial⟩ ?_
  refine wf1 rfl rfl (fun hc => (O_len ts102)) ⟨tg rfl, trivial⟩ ?_
  refine wf1 rfl rfl (fun hc => O_eql) ⟨tg rfl, C1, trivial⟩ ?_
  refine ws O_or ⟨T1 rfl, tg rfl, trivial⟩ ?_
  refine WL_mv rfl rfl ?_
  refine wf1 rfl rfl (fun hc => (O_field tf104_3)) ⟨tg rfl, trivial⟩ ?_
  refine wf1 rfl rfl (fun hc => (O_load ta102)) ⟨tg rfl, trivial⟩ ?_
  refine wf1 rfl rfl (fun hc => (O_len ts102)) ⟨tg rfl, trivial⟩ ?_
  refine wf1 rfl rfl (fun hc => O_gtr) ⟨tg rfl, C1, trivial⟩ ?_
  refine ws O_or ⟨T1 rfl, tg rfl, trivial⟩ ?_
  refine WL_nil (Fin_then (W_cond rfl (fun h0 => ?_) (fun h0 => ?_)))
  · skip
    try simp only [bl] at h0
    refine W_seq (W_region (WL_ac rfl ?_))
    exact WL_nil (Fin_then (W_ret (Fin_then_ret (RetC rfl (Res1 rfl (RV.tmp rfl (Imp.bool (by unfold funOk; grind))))))))
  try simp only [bl] at h0
  refine W_skip (Fin_then (W_seq (W_seq (W_region (ws (O_field tf104_0) ⟨T1 rfl, trivial⟩ ?_)))))
  refine ws (O_load ta50) ⟨T1 rfl, trivial⟩ ?_
  refine WL_mv rfl rfl ?_
  refine ws (O_call cf57 (spec_l3Sorts _ _ _) rfl) ⟨T1 rfl, T1 rfl, C1, trivial⟩ ?_
  refine ws O_not ⟨T1 rfl, trivial⟩ ?_
  refine WL_mv rfl rfl ?_
  refine wf1 rfl rfl (fun hc => (O_field tf104_2)) ⟨tg rfl, trivial⟩ ?_
  refine wf1 rfl rfl (fun hc => (O_load ta50)) ⟨tg rfl, trivial⟩ ?_
  refine wf1 rfl rfl (fun hc => O_move) ⟨tg rfl, trivial⟩ ?_
  refine wf1 rfl rfl (fun hc => (O_call cf57 (spec_l3Sorts _ _ _) rfl)) ⟨tg rfl, tg rfl, C1, trivial⟩ ?_
  refine wf1 rfl rfl (fun hc => O_not) ⟨tg rfl, trivial⟩ ?_
  refine ws O_or ⟨T1 rfl, tg rfl, trivial⟩ ?_
  refine WL_mv rfl rfl ?_
  refine wf1 rfl rfl (fun hc => (O_field tf104_1)) ⟨tg rfl, trivial⟩ ?_
  refine wf1 rfl rfl (fun hc => (O_loadg tg37 (Nat.le_of_ble_eq_true rfl))) ⟨tg rfl, trivial⟩ ?_
  refine wf1 rfl rfl (fun hc => O_move) ⟨tg rfl, trivial⟩ ?_
  refine wf1 rfl rfl (fun hc => (O_call cf109 (spec_SortOk _ _) rfl)) ⟨tg rfl, tg rfl, trivial⟩ ?_
  refine wf1 rfl rfl (fun hc => O_not) ⟨tg rfl, trivial⟩ ?_
  refine ws O_or ⟨T1 rfl, tg rfl, trivial⟩ ?_
  refine WL_nil (Fin_then (W_cond rfl (fun h1 => ?_) (fun h1 => ?_)))
  · skip
    try simp only [bl] at h1
    refine W_seq (W_region (WL_ac rfl ?_))
    exact WL_nil (Fin_then (W_ret (Fin_then_ret (RetC rfl (Res1 rfl (RV.tmp rfl (Imp.bool (by unfold funOk; grind))))))))
  try simp only [bl] at h1
  refine W_skip (Fin_then (W_seq (W_seq (W_region (WL_ac rfl ?_)))))
  refine WL_nil (Fin_then (W_block (W_loopk [2] (T := Nat) (fun k => k ≤ f.body.length ∧ ∀ j, j < k → (fun j => insOk (idx f.body (j : Int))) j = true) (fun k => [(5, true, A.int (k : Int))]) (fun k => f.body.length - k) 0 ⟨Nat.zero_le _, allN_zero⟩ ⟨⟨rfl, _, rfl, (by first | exact Imp.refl | exact Imp.slv | exact Imp.nil | exact Imp.int (by omega) | exact Imp.int (by simp; done) | exact Imp.bool (by simp_all; done))⟩, trivial⟩ (fun k hx => ?_))))
  have hk := hx.1
  have hj := hx.2
  refine W_seq (W_seq (W_region (WL_mv rfl rfl ?_)))
  refine ws (O_field tf104_3) ⟨T1 rfl, trivial⟩ ?_
  refine ws (O_load ta102) ⟨T1 rfl, trivial⟩ ?_
  refine WL_len ts102 rfl rfl fun hl50 => ?_
  refine ws O_lss ⟨T1 rfl, T1 rfl, trivial⟩ ?_
  refine WL_nil (Fin_then (W_cond rfl (fun h2 => ?_) (fun h2 => ?_)))
  · skip
    try simp only [bl] at h2
    refine W_skip (Fin_then (W_seq (W_block (W_seq (W_region (ws (O_field tf104_3) ⟨T1 rfl, trivial⟩ ?_))))))
    refine ws (O_load ta102) ⟨T1 rfl, trivial⟩ ?_
    refine WL_mv rfl rfl ?_
    refine ws (O_index ts102 (by omega)) ⟨T1 rfl, T1 rfl, trivial⟩ ?_
    refine ws (O_loadgw tg171 rfl) ⟨T1 rfl, trivial⟩ ?_
    refine ws (O_call cf110 (spec_InsOk _) rfl) ⟨T1 rfl, trivial⟩ ?_
    refine ws O_not ⟨T1 rfl, trivial⟩ ?_
    refine WL_nil (Fin_then (W_cond rfl (fun h3 => ?_) (fun h3 => ?_)))
    · skip
      try simp only [bl] at h3
      refine W_seq (W_region (WL_ac rfl ?_))
      exact WL_nil (Fin_then (W_ret (Fin_block_ret (Fin_then_ret (Fin_then_ret (Fin_block_ret (Fin_then_ret (RetC rfl (Res1 rfl (RV.tmp rfl (Imp.bool (by unfold funOk; rw [show f.body.all insOk = false from by rw [← all_idx]; exact allN_false k (by omega) (by grind)]; simp))))))))))))
    try simp only [bl] at h3
    refine W_skip (Fin_block (Fin_then (W_region (WL_mv rfl rfl ?_))))
    refine ws (O_add (by omega)) ⟨T1 rfl, C1, trivial⟩ ?_
    refine WL_as rfl rfl ?_
    exact WL_nil (Fin_back (k + 1) ⟨by omega, allN_succ hj (by grind)⟩ (by omega) ⟨⟨rfl, _, rfl, (by first | exact Imp.refl | exact Imp.slv | exact Imp.nil | exact Imp.int (by omega) | exact Imp.int (by simp; done) | exact Imp.bool (by simp_all; done))⟩, trivial⟩ ⟨rfl, trivial⟩ rfl rfl)
  try simp only [bl] at h2
  refine W_exit (Fin_then_exit (Fin_then_exit (Fin_block_exit (Fin_then (W_seq (W_region (WL_ac rfl ?_)))))))
  exact WL_nil (Fin_then (W_ret (RetC rfl (Res1 rfl (RV.tmp rfl (Imp.bool (by unfold funOk; rw [show f.body.all insOk = true from by rw [← all_idx]; exact allN_true (fun j q => hj j (by omega))]; grind)))))))
set_option maxRecDepth 8000 in
theorem spec_ProgOk (p : Prg) (hG : Small p.types) : FnC Try.prog 22 [A.agg (cProg p)] (A.bool (progOk p)) := by
  refine Fn_of_W Try.func22 rfl rfl fun r w => ?_
  refine W_seq (W_region (ws O_boxg ⟨T1 rfl, trivial⟩ ?_))
  refine WL_ac rfl ?_
  refine WL_nil (Fin_then (W_seq (W_region (ws (O_field tf53_0) ⟨T1 rfl, trivial⟩ ?_))))
  refine ws (O_load ta31) ⟨T1 rfl, trivial⟩ ?_
  refine ws (O_call cf43 (spec_KinCount _ (by assumption)) rfl) ⟨T1 rfl, trivial⟩ ?_
  refine WL_as rfl rfl ?_
  refine WL_nil (Fin_then (W_seq (W_seq (W_region (ws (O_field tf53_0) ⟨T1 rfl, trivial⟩ ?_)))))
  refine ws (O_load ta31) ⟨T1 rfl, trivial⟩ ?_
  refine ws (O_call cf41 (spec_KinOk _ (by assumption)) rfl) ⟨T1 rfl, trivial⟩ ?_
  refine ws O_not ⟨T1 rfl, trivial⟩ ?_
  refine WL_mv rfl rfl ?_
  refine wf1 rfl rfl (fun hc => (O_field tf53_1)) ⟨tg rfl, trivial⟩ ?_
  refine wf1 rfl rfl (fun hc => (O_load ta50)) ⟨tg rfl, trivial⟩ ?_
  refine wf1 rfl rfl (fun hc => (O_len ts50)) ⟨tg rfl, trivial⟩ ?_
  refine wf1 rfl rfl (fun hc => O_gtr) ⟨tg rfl, C1, trivial⟩ ?_
  refine ws O_or ⟨T1 rfl, tg rfl, trivial⟩ ?_
  refine WL_mv rfl rfl ?_
  refine wf1 rfl rfl (fun hc => (O_field tf53_1)) ⟨tg rfl, trivial⟩ ?_
  refine wf1 rfl rfl (fun hc => (O_load ta50)) ⟨tg rfl, trivial⟩ ?_
  refine wf1 rfl rfl (fun hc => O_move) ⟨tg rfl, trivial⟩ ?_
  refine wf1 rfl rfl (fun hc => (O_call cf57 (spec_l3Sorts _ _ _) rfl)) ⟨tg rfl, tg rfl, C1, trivial⟩ ?_
  refine wf1 rfl rfl (fun hc => O_not) ⟨tg rfl, trivial⟩ ?_
  refine ws O_or ⟨T1 rfl, tg rfl, trivial⟩ ?_
  refine WL_mv rfl rfl ?_
  refine wf1 rfl rfl (fun hc => (O_field tf53_2)) ⟨tg rfl, trivial⟩ ?_
  refine wf1 rfl rfl (fun hc => (O_load ta51)) ⟨tg rfl, trivial⟩ ?_
  refine wf1 rfl rfl (fun hc => (O_len ts51)) ⟨tg rfl, trivial⟩ ?_
  refine wf1 rfl rfl (fun hc => O_eql) ⟨tg rfl, C1, trivial⟩ ?_
  refine ws O_or ⟨T1 rfl, tg rfl, trivial⟩ ?_
  refine WL_mv rfl rfl ?_
  refine wf1 rfl rfl (fun hc => (O_field tf53_2)) ⟨tg rfl, trivial⟩ ?_
  refine wf1 rfl rfl (fun hc => (O_load ta51)) ⟨tg rfl, trivial⟩ ?_
  refine wf1 rfl rfl (fun hc => (O_len ts51)) ⟨tg rfl, trivial⟩ ?_
  refine wf1 rfl rfl (fun hc => O_gtr) ⟨tg rfl, C1, trivial⟩ ?_
  refine ws O_or ⟨T1 rfl, tg rfl, trivial⟩ ?_
  refine WL_nil (Fin_then (W_cond rfl (fun h0 => ?_) (fun h0 => ?_)))
  · skip
    try simp only [bl] at h0
    refine W_seq (W_region (WL_ac rfl ?_))
    exact WL_nil (Fin_then (W_ret (Fin_then_ret (RetC rfl (Res1 rfl (RV.tmp rfl (Imp.bool (by unfold progOk; grind))))))))
  try simp only [bl] at h0
  refine W_skip (Fin_then (W_seq (W_seq (W_region (WL_ac rfl ?_)))))
  refine WL_nil (Fin_then (W_block (W_loopk [1, 3] (T := Nat) (fun k => k ≤ p.funs.length ∧ ∀ j, j < k → (fun j => funOk (idx p.funs (j : Int)) (kcnt p.types)) j = true) (fun k => [(4, true, A.int (k : Int))]) (fun k => p.funs.length - k) 0 ⟨Nat.zero_le _, allN_zero⟩ ⟨⟨rfl, _, rfl, (by first | exact Imp.refl | exact Imp.slv | exact Imp.nil | exact Imp.int (by omega) | exact Imp.int (by simp; done) | exact Imp.bool (by simp_all; done))⟩, trivial⟩ (fun k hx => ?_))))
  have hk := hx.1
  have hj := hx.2
  refine W_seq (W_seq (W_region (WL_mv rfl rfl ?_)))
  refine ws (O_field tf53_2) ⟨T1 rfl, trivial⟩ ?_
  refine ws (O_load ta51) ⟨T1 rfl, trivial⟩ ?_
  refine WL_len ts51 rfl rfl fun hl40 => ?_
  refine ws O_lss ⟨T1 rfl, T1 rfl, trivial⟩ ?_
  refine WL_nil (Fin_then (W_cond rfl (fun h1 => ?_) (fun h1 => ?_)))
  · skip
    try simp only [bl] at h1
    refine W_skip (Fin_then (W_seq (W_block (W_seq (W_region (ws (O_field tf53_2) ⟨T1 rfl, trivial⟩ ?_))))))
    refine ws (O_load ta51) ⟨T1 rfl, trivial⟩ ?_
    refine WL_mv rfl rfl ?_
    refine ws (O_index ts51 (by omega)) ⟨T1 rfl, T1 rfl, trivial⟩ ?_
    refine ws (O_loadgw tg104 rfl) ⟨T1 rfl, trivial⟩ ?_
    refine WL_mv rfl rfl ?_
    refine ws (O_call cf58 (spec_l3Fun _ _) rfl) ⟨T1 rfl, T1 rfl, trivial⟩ ?_
    refine ws O_not ⟨T1 rfl, trivial⟩ ?_
    refine WL_nil (Fin_then (W_cond rfl (fun h2 => ?_) (fun h2 => ?_)))
    · skip
      try simp only [bl] at h2
      refine W_seq (W_region (WL_ac rfl ?_))
      exact WL_nil (Fin_then (W_ret (Fin_block_ret (Fin_then_ret (Fin_then_ret (Fin_block_ret (Fin_then_ret (RetC rfl (Res1 rfl (RV.tmp rfl (Imp.bool (by unfold progOk; rw [show (p.funs.all fun f => funOk f (kcnt p.types)) = false from by rw [← all_idx]; exact allN_false k (by omega) (by grind)]; simp))))))))))))
    try simp only [bl] at h2
    refine W_skip (Fin_block (Fin_then (W_region (WL_mv rfl rfl ?_))))
    refine ws (O_add (by omega)) ⟨T1 rfl, C1, trivial⟩ ?_
    refine WL_as rfl rfl ?_
    exact WL_nil (Fin_back (k + 1) ⟨by omega, allN_succ hj (by grind)⟩ (by omega) ⟨⟨rfl, _, rfl, (by first | exact Imp.refl | exact Imp.slv | exact Imp.nil | exact Imp.int (by omega) | exact Imp.int (by simp; done) | exact Imp.bool (by simp_all; done))⟩, trivial⟩ ⟨rfl, rfl, trivial⟩ rfl rfl)
  try simp only [bl] at h1
  refine W_exit (Fin_then_exit (Fin_then_exit (Fin_block_exit (Fin_then (W_seq (W_region (WL_ac rfl ?_)))))))
  exact WL_nil (Fin_then (W_ret (RetC rfl (Res1 rfl (RV.tmp rfl (Imp.bool (by unfold progOk; rw [show (p.funs.all fun f => funOk f (kcnt p.types)) = true from by rw [← all_idx]; exact allN_true (fun j q => hj j (by omega))]; grind)))))))
set_option maxRecDepth 8000 in
theorem impl_isOp (n : Int) : FnC Try.prog 155 [A.int n] (A.bool (decide (1 ≤ n) && decide (n ≤ 33))) := by
  refine Fn_of_W Try.func155 rfl rfl fun r w => ?_
  refine W_seq (W_region (WL_ac rfl ?_))
  refine WL_nil (Fin_then (W_seq (W_region (WL_mv rfl rfl ?_))))
  refine ws O_geq ⟨T1 rfl, C1, trivial⟩ ?_
  refine WL_mv rfl rfl ?_
  refine wt1 rfl rfl (fun hc => O_move) ⟨tg rfl, trivial⟩ ?_
  refine wt1 rfl rfl (fun hc => O_leq) ⟨tg rfl, C1, trivial⟩ ?_
  refine ws O_and ⟨T1 rfl, tg rfl, trivial⟩ ?_
  refine WL_as rfl rfl ?_
  exact WL_nil (Fin_then (W_ret (RetC rfl (Res1 rfl (RV.tmp rfl (by first | exact Imp.refl | exact Imp.slv | exact Imp.nil | exact Imp.int (by omega) | exact Imp.int (by simp; done) | exact Imp.bool (by simp_all; done)))))))
set_option maxRecDepth 8000 in
theorem impl_operand_ok (o : Opd) (n : Int) : FnC Try.prog 157 [A.agg (cOpd o), A.int n] (A.bool (opdOk o n)) := by
  refine Fn_of_W Try.func157 rfl rfl fun r w => ?_
  refine W_seq (W_region (ws O_boxg ⟨T1 rfl, trivial⟩ ?_))
  refine WL_ac rfl ?_
  refine WL_nil (Fin_then (W_seq (W_region (WL_ac rfl ?_))))
  refine WL_nil (Fin_then (W_seq (W_seq (W_region (ws (O_field tf223_1) ⟨T1 rfl, trivial⟩ ?_)))))
  refine ws (O_load ta4) ⟨T1 rfl, trivial⟩ ?_
  refine WL_nil (Fin_then (W_cut2 [1, 2] [] [] [] (T := Unit) (fun _u => True) (fun _u => [(5, true, A.int (if o.of = true then -2 else 0))]) (fun _u => { own := [], rooms := [], maps := [] }) ?_ (fun _u hx => ?_)))
  · skip
    refine W_cond rfl (fun h0 => ?_) (fun h0 => ?_)
    · skip
      try simp only [bl] at h0
      refine W_region (WL_ac rfl ?_)
      exact WL_nil (Fin_cut [] () (by first | trivial | omega) ⟨⟨rfl, _, rfl, (Imp.int (by simp [h0]))⟩, trivial⟩ ⟨rfl, rfl, trivial⟩ OSub.nil rfl (List.Sublist.refl _) rfl)
    try simp only [bl] at h0
    exact W_skip (Fin_cut [] () (by first | trivial | omega) ⟨⟨rfl, _, rfl, (Imp.int (by simp [h0]))⟩, trivial⟩ ⟨rfl, rfl, trivial⟩ OSub.nil rfl (List.Sublist.refl _) rfl)
  refine W_seq (W_region (WL_mv rfl rfl ?_))
  refine WL_mv rfl rfl ?_
  refine ws O_geq ⟨T1 rfl, T1 rfl, trivial⟩ ?_
  refine WL_mv rfl rfl ?_
  refine wt1 rfl rfl (fun hc => O_move) ⟨tg rfl, trivial⟩ ?_
  refine wt1 rfl rfl (fun hc => (O_field tf223_0)) ⟨tg rfl, trivial⟩ ?_
  refine wt1 rfl rfl (fun hc => (O_load ta3)) ⟨tg rfl, trivial⟩ ?_
  refine wt1 rfl rfl (fun hc => O_lss) ⟨tg rfl, tg rfl, trivial⟩ ?_
  refine ws O_and ⟨T1 rfl, tg rfl, trivial⟩ ?_
  refine WL_as rfl rfl ?_
  exact WL_nil (Fin_then (W_ret (RetC rfl (Res1 rfl (RV.tmp rfl (by first | exact Imp.refl | exact Imp.slv | exact Imp.nil | exact Imp.int (by omega) | exact Imp.int (by simp; done) | exact Imp.bool (by simp_all; done)))))))
set_option maxRecDepth 8000 in
theorem impl_forms1 (L : List Int) (hl : L.length ≤ 2) : FnC Try.prog 175 [A.sl 1 cInt L] (A.sl 2 cOpd (L.map fun n => ⟨n, false⟩)) := by
  refine Fn_of_W Try.func175 rfl rfl fun r w => ?_
  refine W_seq (W_region (WL_ac rfl ?_))
  refine WL_nil (Fin_then (W_seq (W_region (WL_ac rfl ?_))))
  refine WL_roomNil 3 223 2 cOpd rfl ?_
  refine WL_nil (Fin_then (W_seq (W_seq (W_region (WL_mv rfl rfl ?_)))))
  refine WL_len ts62 rfl rfl fun hl7 => ?_
  refine WL_mc rfl ?_
  refine WL_nil (Fin_then (W_block (W_loopp [6, 7] [] [0] [] (T := Nat × Value) (fun x => x.1 ≤ L.length) (fun x => [(3, true, A.slv x.2 2 cOpd ((L.take x.1).map fun n => ⟨n, false⟩)), (8, true, A.int (x.1 : Int))]) (fun x => { own := [], rooms := [(x.2, 223, 2)], maps := [] }) (fun x => L.length - x.1) (0, .slice none 0 0) (by omega) ⟨⟨rfl, _, rfl, (by first | exact Imp.refl | exact Imp.slv | exact Imp.nil | exact Imp.int (by omega) | exact Imp.int (by simp; done) | exact Imp.bool (by simp_all; done))⟩, ⟨rfl, _, rfl, (by first | exact Imp.refl | exact Imp.slv | exact Imp.nil | exact Imp.int (by omega) | exact Imp.int (by simp; done) | exact Imp.bool (by simp_all; done))⟩, trivial⟩ OSub.nil rfl rfl rfl (fun x hx => ?_))))
  refine W_seq (W_region (ws O_lss ⟨T1 rfl, T1 rfl, trivial⟩ ?_))
  refine WL_nil (Fin_then (W_seq (W_cond rfl (fun h0 => ?_) (fun h0 => ?_))))
  · skip
    try simp only [bl] at h0
    refine W_skip (Fin_then (W_seq (W_block (W_seq (W_region (ws (O_index ts62 (by omega)) ⟨T1 rfl, T1 rfl, trivial⟩ ?_))))))
    refine ws (O_load ta3) ⟨T1 rfl, trivial⟩ ?_
    refine WL_as rfl rfl ?_
    refine WL_nil (Fin_then (W_region (WL_mv rfl rfl ?_)))
    refine WL_mv rfl rfl ?_
    refine ws (O_build [(_, _)] tb223 rfl ⟨(CellsOf.one OneV.int), trivial⟩ rfl) ⟨T1 rfl, trivial⟩ ?_
    refine ws (O_slice1 (f := cOpd) ⟨idx L (x.1 : Int), false⟩ te217 rfl rfl (CellsOf.agg (by exact ⟨OneV.int, OneV.bool, trivial⟩)) (by exact ⟨Imp.refl, Imp.refl, trivial⟩)) ⟨T1 rfl, trivial⟩ ?_
    refine WL_append 0 _ te217 ⟨T1 rfl, T1 rfl, trivial⟩ rfl (by decide) (fun _ => rfl) (fun _ => rfl) (fun _ => ⟨OneV.int, OneV.bool, trivial⟩) rfl (by simp only [List.length_map, List.length_take, List.length_cons, List.length_nil]; omega) (by simp only [maxLen, List.length_map, List.length_take, List.length_cons, List.length_nil]; omega) rfl fun v16 => ?_
    refine WL_as rfl rfl ?_
    refine WL_nil (Fin_block (Fin_then (W_region (ws (O_add (by omega)) ⟨T1 rfl, C1, trivial⟩ ?_))))
    refine WL_mv rfl rfl ?_
    exact WL_nil (Fin_backp [] (x.1 + 1, v16) (by omega) (by omega) ⟨⟨rfl, _, rfl, (Imp.eq (by rw [take_snoc (by omega : x.1 < _), List.map_append]; rfl))⟩, ⟨rfl, _, rfl, (by first | exact Imp.refl | exact Imp.slv | exact Imp.nil | exact Imp.int (by omega) | exact Imp.int (by simp; done) | exact Imp.bool (by simp_all; done))⟩, trivial⟩ ⟨rfl, rfl, trivial⟩ OSub.nil rfl (List.Sublist.refl _) rfl)
  try simp only [bl] at h0
  refine W_exit (Fin_then_exit (Fin_then_exit (Fin_block_exit (Fin_then (W_seq (W_region (WL_mv rfl rfl ?_)))))))
  refine WL_as rfl rfl ?_
  exact WL_nil (Fin_then (W_ret (RetC rfl (Res1 rfl (RV.tmp rfl (Imp.trans Imp.slv (Imp.eq (by rw [List.take_of_length_le (by omega)]))))))))
set_option maxRecDepth 8000 in
set_option maxHeartbeats 1000000 in
theorem impl_forms  : FnC Try.prog 156 [] (A.agg formsC) := by
  refine Fn_of_W Try.func156 rfl rfl fun r w => ?_
  refine W_seq (W_region (WL_alloc tz220 rfl fun b0 => ?_))
  refine WL_nil (Fin_then (W_seq (W_region (ws O_assign ⟨F1c, trivial⟩ ?_))))
  refine WL_nil (Fin_then (W_seq (W_region (ws (O_build [(_, _), (_, _)] tb223 rfl ⟨(CellsOf.one OneV.int), (CellsOf.one OneV.bool), trivial⟩ rfl) ⟨C1, C1, trivial⟩ ?_))))
  refine ws (O_slice1 (f := cOpd) ⟨_, _⟩ te217 rfl rfl (CellsOf.agg (by exact ⟨OneV.int, OneV.bool, trivial⟩)) (by exact ⟨Imp.refl, Imp.refl, trivial⟩)) ⟨T1 rfl, trivial⟩ ?_
  refine WL_as rfl rfl ?_
  refine WL_nil (Fin_then (W_seq (W_region (WL_mv rfl rfl ?_))))
  refine ws (O_slice1 (f := cInt) (9973) te62 rfl rfl (CellsOf.one OneV.int) AllImp.refl) ⟨C1, trivial⟩ ?_
  refine ws (O_callcl (ts := [_]) (caps := []) cf175 (impl_forms1 _ (by decide)) rfl) ⟨T1 rfl, T1 rfl, trivial⟩ ?_
  refine ws (O_build [(_, _), (_, _)] tb219 rfl ⟨(CellsOf.one OneV.str), (CellsOf.one OneV.sl), trivial⟩ rfl) ⟨C1, T1 rfl, trivial⟩ ?_
  refine WL_mv rfl rfl ?_
  refine ws (O_slice1 (f := cInt) (6) te62 rfl rfl (CellsOf.one OneV.int) AllImp.refl) ⟨C1, trivial⟩ ?_
  refine ws (O_callcl (ts := [_]) (caps := []) cf175 (impl_forms1 _ (by decide)) rfl) ⟨T1 rfl, T1 rfl, trivial⟩ ?_
  refine ws (O_build [(_, _), (_, _)] tb219 rfl ⟨(CellsOf.one OneV.str), (CellsOf.one OneV.sl), trivial⟩ rfl) ⟨C1, T1 rfl, trivial⟩ ?_
  refine WL_mv rfl rfl ?_
  refine ws (O_slice1 (f := cInt) (6) te62 rfl rfl (CellsOf.one OneV.int) AllImp.refl) ⟨C1, trivial⟩ ?_
  refine ws (O_callcl (ts := [_]) (caps := []) cf175 (impl_forms1 _ (by decide)) rfl) ⟨T1 rfl, T1 rfl, trivial⟩ ?_
  refine ws (O_build [(_, _), (_, _)] tb219 rfl ⟨(CellsOf.one OneV.str), (CellsOf.one OneV.sl), trivial⟩ rfl) ⟨C1, T1 rfl, trivial⟩ ?_
  refine WL_mv rfl rfl ?_
  refine ws (O_slice1 (f := cInt) (3) te62 rfl rfl (CellsOf.one OneV.int) AllImp.refl) ⟨C1, trivial⟩ ?_
  refine ws (O_callcl (ts := [_]) (caps := []) cf175 (impl_forms1 _ (by decide)) rfl) ⟨T1 rfl, T1 rfl, trivial⟩ ?_
  refine ws (O_build [(_, _), (_, _)] tb219 rfl ⟨(CellsOf.one OneV.str), (CellsOf.one OneV.sl), trivial⟩ rfl) ⟨C1, T1 rfl, trivial⟩ ?_
  refine WL_mv rfl rfl ?_
  refine ws (O_slice1 (f := cInt) (3) te62 rfl rfl (CellsOf.one OneV.int) AllImp.refl) ⟨C1, trivial⟩ ?_
  refine ws (O_callcl (ts := [_]) (caps := []) cf175 (impl_forms1 _ (by decide)) rfl) ⟨T1 rfl, T1 rfl, trivial⟩ ?_
  refine ws (O_build [(_, _), (_, _)] tb219 rfl ⟨(CellsOf.one OneV.str), (CellsOf.one OneV.sl), trivial⟩ rfl) ⟨C1, T1 rfl, trivial⟩ ?_
  refine ws (O_build [(_, _), (_, _)] tb219 rfl ⟨(CellsOf.one OneV.str), (CellsOf.one OneV.slv), trivial⟩ rfl) ⟨C1, C1, trivial⟩ ?_
  refine ws (O_build [(_, _), (_, _)] tb219 rfl ⟨(CellsOf.one OneV.str), (CellsOf.one OneV.slv), trivial⟩ rfl) ⟨C1, C1, trivial⟩ ?_
  refine ws (O_build [(_, _), (_, _)] tb219 rfl ⟨(CellsOf.one OneV.str), (CellsOf.one OneV.slv), trivial⟩ rfl) ⟨C1, C1, trivial⟩ ?_
  refine ws (O_build [(_, _), (_, _)] tb219 rfl ⟨(CellsOf.one OneV.str), (CellsOf.one OneV.slv), trivial⟩ rfl) ⟨C1, C1, trivial⟩ ?_
  refine ws (O_build [(_, _), (_, _)] tb219 rfl ⟨(CellsOf.one OneV.str), (CellsOf.one OneV.slv), trivial⟩ rfl) ⟨C1, C1, trivial⟩ ?_
  refine ws (O_build [(_, _), (_, _)] tb219 rfl ⟨(CellsOf.one OneV.str), (CellsOf.one OneV.slv), trivial⟩ rfl) ⟨C1, C1, trivial⟩ ?_
  refine WL_mv rfl rfl ?_
  refine ws (O_build [(_, _), (_, _)] tb219 rfl ⟨(CellsOf.one OneV.str), (CellsOf.one OneV.sl), trivial⟩ rfl) ⟨C1, T1 rfl, trivial⟩ ?_
  refine WL_mv rfl rfl ?_
  refine ws (O_slice1 (f := cInt) (8) te62 rfl rfl (CellsOf.one OneV.int) AllImp.refl) ⟨C1, trivial⟩ ?_
  refine ws (O_callcl (ts := [_]) (caps := []) cf175 (impl_forms1 _ (by decide)) rfl) ⟨T1 rfl, T1 rfl, trivial⟩ ?_
  refine ws (O_build [(_, _), (_, _)] tb219 rfl ⟨(CellsOf.one OneV.str), (CellsOf.one OneV.sl), trivial⟩ rfl) ⟨C1, T1 rfl, trivial⟩ ?_
  refine WL_mv rfl rfl ?_
  refine ws (O_buildSlice (f := cInt) [(8), (4)] [(_, _), (_, _)] te62 rfl (by decide) rfl (fun _ => rfl) rfl ⟨(CellsOf.one OneV.int), (CellsOf.one OneV.int), trivial⟩ rfl rfl) ⟨C1, C1, trivial⟩ ?_
  refine ws (O_callcl (ts := [_]) (caps := []) cf175 (impl_forms1 _ (by decide)) rfl) ⟨T1 rfl, T1 rfl, trivial⟩ ?_
  refine ws (O_build [(_, _), (_, _)] tb219 rfl ⟨(CellsOf.one OneV.str), (CellsOf.one OneV.sl), trivial⟩ rfl) ⟨C1, T1 rfl, trivial⟩ ?_
  refine WL_mv rfl rfl ?_
  refine ws (O_buildSlice (f := cInt) [(8), (4)] [(_, _), (_, _)] te62 rfl (by decide) rfl (fun _ => rfl) rfl ⟨(CellsOf.one OneV.int), (CellsOf.one OneV.int), trivial⟩ rfl rfl) ⟨C1, C1, trivial⟩ ?_
  refine ws (O_callcl (ts := [_]) (caps := []) cf175 (impl_forms1 _ (by decide)) rfl) ⟨T1 rfl, T1 rfl, trivial⟩ ?_
  refine ws (O_build [(_, _), (_, _)] tb219 rfl ⟨(CellsOf.one OneV.str), (CellsOf.one OneV.sl), trivial⟩ rfl) ⟨C1, T1 rfl, trivial⟩ ?_
  refine WL_mv rfl rfl ?_
  refine ws (O_slice1 (f := cInt) (8) te62 rfl rfl (CellsOf.one OneV.int) AllImp.refl) ⟨C1, trivial⟩ ?_
  refine ws (O_callcl (ts := [_]) (caps := []) cf175 (impl_forms1 _ (by decide)) rfl) ⟨T1 rfl, T1 rfl, trivial⟩ ?_
  refine ws (O_build [(_, _), (_, _)] tb219 rfl ⟨(CellsOf.one OneV.str), (CellsOf.one OneV.sl), trivial⟩ rfl) ⟨C1, T1 rfl, trivial⟩ ?_
  refine WL_mv rfl rfl ?_
  refine ws (O_slice1 (f := cInt) (8) te62 rfl rfl (CellsOf.one OneV.int) AllImp.refl) ⟨C1, trivial⟩ ?_
  refine ws (O_callcl (ts := [_]) (caps := []) cf175 (impl_forms1 _ (by decide)) rfl) ⟨T1 rfl, T1 rfl, trivial⟩ ?_
  refine ws (O_build [(_, _), (_, _)] tb219 rfl ⟨(CellsOf.one OneV.str), (CellsOf.one OneV.sl), trivial⟩ rfl) ⟨C1, T1 rfl, trivial⟩ ?_
  refine WL_mv rfl rfl ?_
  refine ws (O_slice1 (f := cInt) (8) te62 rfl rfl (CellsOf.one OneV.int) AllImp.refl) ⟨C1, trivial⟩ ?_
  refine ws (O_callcl (ts := [_]) (caps := []) cf175 (impl_forms1 _ (by decide)) rfl) ⟨T1 rfl, T1 rfl, trivial⟩ ?_
  refine ws (O_build [(_, _), (_, _)] tb219 rfl ⟨(CellsOf.one OneV.str), (CellsOf.one OneV.sl), trivial⟩ rfl) ⟨C1, T1 rfl, trivial⟩ ?_
  refine WL_mv rfl rfl ?_
  refine ws (O_slice1 (f := cInt) (8) te62 rfl rfl (CellsOf.one OneV.int) AllImp.refl) ⟨C1, trivial⟩ ?_
  refine ws (O_callcl (ts := [_]) (caps := []) cf175 (impl_forms1 _ (by decide)) rfl) ⟨T1 rfl, T1 rfl, trivial⟩ ?_
  refine ws (O_build [(_, _), (_, _)] tb219 rfl ⟨(CellsOf.one OneV.str), (CellsOf.one OneV.sl), trivial⟩ rfl) ⟨C1, T1 rfl, trivial⟩ ?_
  refine ws (O_build [(_, _), (_, _)] tb219 rfl ⟨(CellsOf.one OneV.str), (CellsOf.one OneV.slv), trivial⟩ rfl) ⟨C1, C1, trivial⟩ ?_
  refine ws (O_build [(_, _), (_, _)] tb219 rfl ⟨(CellsOf.one OneV.str), (CellsOf.one OneV.slv), trivial⟩ rfl) ⟨C1, C1, trivial⟩ ?_
  refine WL_mv rfl rfl ?_
  refine ws (O_build [(_, _), (_, _)] tb219 rfl ⟨(CellsOf.one OneV.str), (CellsOf.one OneV.sl), trivial⟩ rfl) ⟨C1, T1 rfl, trivial⟩ ?_
  refine WL_mv rfl rfl ?_
  refine ws (O_build [(_, _), (_, _)] tb219 rfl ⟨(CellsOf.one OneV.str), (CellsOf.one OneV.sl), trivial⟩ rfl) ⟨C1, T1 rfl, trivial⟩ ?_
  refine ws (O_build [(_, _), (_, _)] tb219 rfl ⟨(CellsOf.one OneV.str), (CellsOf.one OneV.slv), trivial⟩ rfl) ⟨C1, C1, trivial⟩ ?_
  refine WL_mv rfl rfl ?_
  refine ws (O_slice1 (f := cInt) (30) te62 rfl rfl (CellsOf.one OneV.int) AllImp.refl) ⟨C1, trivial⟩ ?_
  refine ws (O_callcl (ts := [_]) (caps := []) cf175 (impl_forms1 _ (by decide)) rfl) ⟨T1 rfl, T1 rfl, trivial⟩ ?_
  refine ws (O_build [(_, _), (_, _)] tb219 rfl ⟨(CellsOf.one OneV.str), (CellsOf.one OneV.sl), trivial⟩ rfl) ⟨C1, T1 rfl, trivial⟩ ?_
  refine WL_mv rfl rfl ?_
  refine ws (O_slice1 (f := cInt) (30) te62 rfl rfl (CellsOf.one OneV.int) AllImp.refl) ⟨C1, trivial⟩ ?_
  refine ws (O_callcl (ts := [_]) (caps := []) cf175 (impl_forms1 _ (by decide)) rfl) ⟨T1 rfl, T1 rfl, trivial⟩ ?_
  refine ws (O_build [(_, _), (_, _)] tb219 rfl ⟨(CellsOf.one OneV.str), (CellsOf.one OneV.sl), trivial⟩ rfl) ⟨C1, T1 rfl, trivial⟩ ?_
  refine WL_mv rfl rfl ?_
  refine ws (O_slice1 (f := cInt) (5) te62 rfl rfl (CellsOf.one OneV.int) AllImp.refl) ⟨C1, trivial⟩ ?_
  refine ws (O_callcl (ts := [_]) (caps := []) cf175 (impl_forms1 _ (by decide)) rfl) ⟨T1 rfl, T1 rfl, trivial⟩ ?_
  refine ws (O_build [(_, _), (_, _)] tb219 rfl ⟨(CellsOf.one OneV.str), (CellsOf.one OneV.sl), trivial⟩ rfl) ⟨C1, T1 rfl, trivial⟩ ?_
  refine WL_mv rfl rfl ?_
  refine ws (O_slice1 (f := cInt) (5) te62 rfl rfl (CellsOf.one OneV.int) AllImp.refl) ⟨C1, trivial⟩ ?_
  refine ws (O_callcl (ts := [_]) (caps := []) cf175 (impl_forms1 _ (by decide)) rfl) ⟨T1 rfl, T1 rfl, trivial⟩ ?_
  refine ws (O_build [(_, _), (_, _)] tb219 rfl ⟨(CellsOf.one OneV.str), (CellsOf.one OneV.sl), trivial⟩ rfl) ⟨C1, T1 rfl, trivial⟩ ?_
  refine ws (O_build [(_, _), (_, _)] tb219 rfl ⟨(CellsOf.one OneV.str), (CellsOf.one OneV.slv), trivial⟩ rfl) ⟨C1, C1, trivial⟩ ?_
  refine ws (O_build [(_, _), (_, _)] tb219 rfl ⟨(CellsOf.one OneV.str), (CellsOf.one OneV.slv), trivial⟩ rfl) ⟨C1, C1, trivial⟩ ?_
  refine ws (O_build [(_, _), (_, _)] tb219 rfl ⟨(CellsOf.one OneV.str), (CellsOf.one OneV.slv), trivial⟩ rfl) ⟨C1, C1, trivial⟩ ?_
  refine ws (O_build [(_, _), (_, _)] tb219 rfl ⟨(CellsOf.one OneV.str), (CellsOf.one OneV.slv), trivial⟩ rfl) ⟨C1, C1, trivial⟩ ?_
  refine WL_mv rfl rfl ?_
  refine ws (O_slice1 (f := cInt) (2) te62 rfl rfl (CellsOf.one OneV.int) AllImp.refl) ⟨C1, trivial⟩ ?_
  refine ws (O_callcl (ts := [_]) (caps := []) cf175 (impl_forms1 _ (by decide)) rfl) ⟨T1 rfl, T1 rfl, trivial⟩ ?_
  refine ws (O_build [(_, _), (_, _)] tb219 rfl ⟨(CellsOf.one OneV.str), (CellsOf.one OneV.sl), trivial⟩ rfl) ⟨C1, T1 rfl, trivial⟩ ?_
  refine ws (O_buildArr [(_, _), (_, _), (_, _), (_, _), (_, _), (_, _), (_, _), (_, _), (_, _), (_, _), (_, _), (_, _), (_, _), (_, _), (_, _), (_, _), (_, _), (_, _), (_, _), (_, _), (_, _), (_, _), (_, _), (_, _), (_, _), (_, _), (_, _), (_, _), (_, _), (_, _), (_, _), (_, _), (_, _)] tba220 rfl ⟨(CellsOf.agg (by exact ⟨OneV.str, OneV.sl, trivial⟩)), (CellsOf.agg (by exact ⟨OneV.str, OneV.sl, trivial⟩)), (CellsOf.agg (by exact ⟨OneV.str, OneV.sl, trivial⟩)), (CellsOf.agg (by exact ⟨OneV.str, OneV.sl, trivial⟩)), (CellsOf.agg (by exact ⟨OneV.str, OneV.sl, trivial⟩)), (CellsOf.agg (by exact ⟨OneV.str, OneV.slv, trivial⟩)), (CellsOf.agg (by exact ⟨OneV.str, OneV.slv, trivial⟩)), (CellsOf.agg (by exact ⟨OneV.str, OneV.slv, trivial⟩)), (CellsOf.agg (by exact ⟨OneV.str, OneV.slv, trivial⟩)), (CellsOf.agg (by exact ⟨OneV.str, OneV.slv, trivial⟩)), (CellsOf.agg (by exact ⟨OneV.str, OneV.slv, trivial⟩)), (CellsOf.agg (by exact ⟨OneV.str, OneV.sl, trivial⟩)), (CellsOf.agg (by exact ⟨OneV.str, OneV.sl, trivial⟩)), (CellsOf.agg (by exact ⟨OneV.str, OneV.sl, trivial⟩)), (CellsOf.agg (by exact ⟨OneV.str, OneV.sl, trivial⟩)), (CellsOf.agg (by exact ⟨OneV.str, OneV.sl, trivial⟩)), (CellsOf.agg (by exact ⟨OneV.str, OneV.sl, trivial⟩)), (CellsOf.agg (by exact ⟨OneV.str, OneV.sl, trivial⟩)), (CellsOf.agg (by exact ⟨OneV.str, OneV.sl, trivial⟩)), (CellsOf.agg (by exact ⟨OneV.str, OneV.slv, trivial⟩)), (CellsOf.agg (by exact ⟨OneV.str, OneV.slv, trivial⟩)), (CellsOf.agg (by exact ⟨OneV.str, OneV.sl, trivial⟩)), (CellsOf.agg (by exact ⟨OneV.str, OneV.sl, trivial⟩)), (CellsOf.agg (by exact ⟨OneV.str, OneV.slv, trivial⟩)), (CellsOf.agg (by exact ⟨OneV.str, OneV.sl, trivial⟩)), (CellsOf.agg (by exact ⟨OneV.str, OneV.sl, trivial⟩)), (CellsOf.agg (by exact ⟨OneV.str, OneV.sl, trivial⟩)), (CellsOf.agg (by exact ⟨OneV.str, OneV.sl, trivial⟩)), (CellsOf.agg (by exact ⟨OneV.str, OneV.slv, trivial⟩)), (CellsOf.agg (by exact ⟨OneV.str, OneV.slv, trivial⟩)), (CellsOf.agg (by exact ⟨OneV.str, OneV.slv, trivial⟩)), (CellsOf.agg (by exact ⟨OneV.str, OneV.slv, trivial⟩)), (CellsOf.agg (by exact ⟨OneV.str, OneV.sl, trivial⟩)), trivial⟩ rfl) ⟨T1 rfl, T1 rfl, T1 rfl, T1 rfl, T1 rfl, T1 rfl, T1 rfl, T1 rfl, T1 rfl, T1 rfl, T1 rfl, T1 rfl, T1 rfl, T1 rfl, T1 rfl, T1 rfl, T1 rfl, T1 rfl, T1 rfl, T1 rfl, T1 rfl, T1 rfl, T1 rfl, T1 rfl, T1 rfl, T1 rfl, T1 rfl, T1 rfl, T1 rfl, T1 rfl, T1 rfl, T1 rfl, T1 rfl, trivial⟩ ?_
  refine WL_store 0 rfl ⟨T1 rfl, T1 rfl, trivial⟩ (CellsOf.agg (by exact ⟨OneV.str, OneV.slv, OneV.str, OneV.sl, OneV.str, OneV.sl, OneV.str, OneV.sl, OneV.str, OneV.sl, OneV.str, OneV.sl, OneV.str, OneV.slv, OneV.str, OneV.slv, OneV.str, OneV.slv, OneV.str, OneV.slv, OneV.str, OneV.slv, OneV.str, OneV.slv, OneV.str, OneV.sl, OneV.str, OneV.sl, OneV.str, OneV.sl, OneV.str, OneV.sl, OneV.str, OneV.sl, OneV.str, OneV.sl, OneV.str, OneV.sl, OneV.str, OneV.sl, OneV.str, OneV.slv, OneV.str, OneV.slv, OneV.str, OneV.sl, OneV.str, OneV.sl, OneV.str, OneV.slv, OneV.str, OneV.sl, OneV.str, OneV.sl, OneV.str, OneV.sl, OneV.str, OneV.sl, OneV.str, OneV.slv, OneV.str, OneV.slv, OneV.str, OneV.slv, OneV.str, OneV.slv, OneV.str, OneV.sl, trivial⟩)) sz220 (Nat.le_of_ble_eq_true rfl) ?_
  exact WL_nil (Fin_then (W_ret (RetC rfl (Res1 rfl (RV.cellg 0 rfl tg220 rfl rfl (Imp.agg (by exact ⟨Imp.refl, Imp.nil, Imp.refl, Imp.refl, Imp.refl, Imp.refl, Imp.refl, Imp.refl, Imp.refl, Imp.refl, Imp.refl, Imp.refl, Imp.refl, Imp.nil, Imp.refl, Imp.nil, Imp.refl, Imp.nil, Imp.refl, Imp.nil, Imp.refl, Imp.nil, Imp.refl, Imp.nil, Imp.refl, Imp.refl, Imp.refl, Imp.refl, Imp.refl, Imp.refl, Imp.refl, Imp.refl, Imp.refl, Imp.refl, Imp.refl, Imp.refl, Imp.refl, Imp.refl, Imp.refl, Imp.refl, Imp.refl, Imp.nil, Imp.refl, Imp.nil, Imp.refl, Imp.refl, Imp.refl, Imp.refl, Imp.refl, Imp.nil, Imp.refl, Imp.refl, Imp.refl, Imp.refl, Imp.refl, Imp.refl, Imp.refl, Imp.refl, Imp.refl, Imp.nil, Imp.refl, Imp.nil, Imp.refl, Imp.nil, Imp.refl, Imp.nil, Imp.refl, Imp.refl, trivial⟩)))))))
set_option maxRecDepth 8000 in
theorem impl_InsOk (i : Isn) : FnC Try.prog 118 [A.agg (cIns i)] (A.bool (insOk i)) := by
  have hhl := hasL_len i.op
  refine Fn_of_W Try.func118 rfl rfl fun r w => ?_
  refine W_seq (W_region (ws O_boxg ⟨T1 rfl, trivial⟩ ?_))
  refine WL_ac rfl ?_
  refine WL_nil (Fin_then (W_seq (W_seq (W_region (ws (O_field tf171_0) ⟨T1 rfl, trivial⟩ ?_)))))
  refine ws (O_load ta3) ⟨T1 rfl, trivial⟩ ?_
  refine ws (O_call cf155 (impl_isOp _) rfl) ⟨T1 rfl, trivial⟩ ?_
  refine ws O_not ⟨T1 rfl, trivial⟩ ?_
  refine WL_nil (Fin_then (W_cond rfl (fun h0 => ?_) (fun h0 => ?_)))
  · skip
    try simp only [bl] at h0
    refine W_seq (W_region (WL_ac rfl ?_))
    exact WL_nil (Fin_then (W_ret (Fin_then_ret (RetC rfl (Res1 rfl (RV.tmp rfl (Imp.bool (by rw [← insOk_eq]; unfold insOkI; grind))))))))
  try simp only [bl] at h0
  refine W_skip (Fin_then (W_seq (W_draw 5 mix rfl rfl ?_)))
  refine cs (O_call cf156 (impl_forms) rfl) trivial ?_
  refine cs (O_field tf171_0) ⟨T1 rfl, trivial⟩ ?_
  refine cs (O_load ta3) ⟨T1 rfl, trivial⟩ ?_
  refine cs (O_indexag tar220 tg219 (by (first | omega | (simp only [List.length_cons, List.length_nil]; omega)))) ⟨T1 rfl, T1 rfl, trivial⟩ ?_
  refine cs (O_fieldat tft219_1 ta217 (forms_has (by omega) (by omega))) ⟨T1 rfl, trivial⟩ ?_
  refine Chain_nil ?_
  refine WL_as rfl rfl ?_
  refine WL_nil (Fin_then (W_seq (W_seq (W_region (ws (O_field tf171_1) ⟨T1 rfl, trivial⟩ ?_)))))
  refine ws (O_load ta3) ⟨T1 rfl, trivial⟩ ?_
  refine ws (O_field tf171_2) ⟨T1 rfl, trivial⟩ ?_
  refine ws (O_load ta3) ⟨T1 rfl, trivial⟩ ?_
  refine ws (O_buildSlice (f := cInt) [_, _] [(_, _), (_, _)] te62 rfl (by decide) rfl (fun _ => rfl) rfl ⟨(CellsOf.one OneV.int), (CellsOf.one OneV.int), trivial⟩ rfl rfl) ⟨T1 rfl, T1 rfl, trivial⟩ ?_
  refine WL_len ts62 rfl rfl fun hl20 => ?_
  refine WL_mc rfl ?_
  refine WL_nil (Fin_then (W_block (W_loopk [3, 19, 20] (T := Nat) (fun k => k ≤ 2 ∧ ∀ j, j < k → (fun j => opndOk i.op j (idx [i.a, i.b] (j : Int))) j = true) (fun k => [(21, true, A.int (k : Int))]) (fun k => 2 - k) 0 ⟨Nat.zero_le _, allN_zero⟩ ⟨⟨rfl, _, rfl, (by first | exact Imp.refl | exact Imp.slv | exact Imp.nil | exact Imp.int (by omega) | exact Imp.int (by simp; done) | exact Imp.bool (by simp_all; done))⟩, trivial⟩ (fun k hx => ?_))))
  have hk := hx.1
  have hj := hx.2
  refine W_seq (W_region (ws O_lss ⟨T1 rfl, T1 rfl, trivial⟩ ?_))
  refine WL_nil (Fin_then (W_seq (W_cond rfl (fun h1 => ?_) (fun h1 => ?_))))
  · skip
    simp only [bl, List.length_cons, List.length_nil] at h1
    refine W_skip (Fin_then (W_seq (W_block (W_seq (W_region (WL_mv rfl rfl ?_))))))
    refine ws (O_index ts62 (by (first | omega | (simp only [List.length_cons, List.length_nil]; omega)))) ⟨T1 rfl, T1 rfl, trivial⟩ ?_
    refine ws (O_load ta3) ⟨T1 rfl, trivial⟩ ?_
    refine WL_as rfl rfl ?_
    refine WL_as rfl rfl ?_
    refine WL_nil (Fin_then (W_seq (W_region (WL_mv rfl rfl ?_))))
    refine WL_mv rfl rfl ?_
    refine WL_len ts217 rfl rfl fun hl28 => ?_
    refine ws O_lss ⟨T1 rfl, T1 rfl, trivial⟩ ?_
    refine WL_mv rfl rfl ?_
    refine wt1 rfl rfl (fun hc => O_move) ⟨tg rfl, trivial⟩ ?_
    refine wt1 rfl rfl (fun hc => O_move) ⟨tg rfl, trivial⟩ ?_
    refine wt1 rfl rfl (fun hc => (O_index ts217 (by (try simp only [bl] at hc); (first | omega | (simp only [List.length_cons, List.length_nil]; omega))))) ⟨tg rfl, tg rfl, trivial⟩ ?_
    refine wt1 rfl rfl (fun hc => (O_loadgw tg223 rfl)) ⟨tg rfl, trivial⟩ ?_
    refine wt1 rfl rfl (fun hc => O_move) ⟨tg rfl, trivial⟩ ?_
    refine wt1 rfl rfl (fun hc => (O_call cf157 (impl_operand_ok _ _) rfl)) ⟨tg rfl, tg rfl, trivial⟩ ?_
    refine wt1 rfl rfl (fun hc => O_not) ⟨tg rfl, trivial⟩ ?_
    refine ws O_and ⟨T1 rfl, tg rfl, trivial⟩ ?_
    refine WL_mv rfl rfl ?_
    refine wf1 rfl rfl (fun hc => O_move) ⟨tg rfl, trivial⟩ ?_
    refine wf1 rfl rfl (fun hc => O_move) ⟨tg rfl, trivial⟩ ?_
    refine wf1 rfl rfl (fun hc => (O_len ts217)) ⟨tg rfl, trivial⟩ ?_
    refine wf1 rfl rfl (fun hc => O_geq) ⟨tg rfl, tg rfl, trivial⟩ ?_
    refine wf1 rfl rfl (fun hc => O_move) ⟨tg rfl, trivial⟩ ?_
    refine wt rfl rfl (fun hc => O_move) ⟨tg rfl, trivial⟩ ?_
    refine wt rfl rfl (fun hc => O_neq) ⟨tg rfl, C1, trivial⟩ ?_
    refine wf1 rfl rfl (fun hc => O_and) ⟨tg rfl, tg rfl, trivial⟩ ?_
    refine ws O_or ⟨T1 rfl, tg rfl, trivial⟩ ?_
    refine WL_nil (Fin_then (W_cond rfl (fun h2 => ?_) (fun h2 => ?_)))
    · skip
      try simp only [bl] at h2
      refine W_seq (W_region (WL_ac rfl ?_))
      refine WL_nil (Fin_then (W_ret (Fin_block_ret (Fin_then_ret (Fin_then_ret (Fin_block_ret (Fin_then_ret ?_)))))))
      have hkf : opndOk i.op k (idx [i.a, i.b] (k : Int)) = false := by unfold opndOk; grind
      have hk2 : k = 0 ∨ k = 1 := by omega
      exact RetC rfl (Res1 rfl (RV.tmp rfl (Imp.bool (by rw [← insOk_eq]; unfold insOkI; rcases hk2 with rfl | rfl <;> simp [idx] at hkf <;> simp [hkf]))))
    try simp only [bl] at h2
    refine W_skip (Fin_block (Fin_then (W_region (ws (O_add (by (first | omega | (simp only [List.length_cons, List.length_nil]; omega)))) ⟨T1 rfl, C1, trivial⟩ ?_))))
    refine WL_mv rfl rfl ?_
    exact WL_nil (Fin_back (k + 1) ⟨by omega, allN_succ hj (by unfold opndOk; grind)⟩ (by omega) ⟨⟨rfl, _, rfl, (by first | exact Imp.refl | exact Imp.slv | exact Imp.nil | exact Imp.int (by omega) | exact Imp.int (by simp; done) | exact Imp.bool (by simp_all; done))⟩, trivial⟩ ⟨rfl, rfl, rfl, trivial⟩ rfl rfl)
  simp only [bl, List.length_cons, List.length_nil] at h1
  refine W_exit (Fin_then_exit (Fin_then_exit (Fin_block_exit (Fin_then (W_seq (W_region (WL_ac rfl ?_)))))))
  refine WL_nil (Fin_then (W_ret ?_))
  have hq0 := hj 0 (by omega)
  have hq1 := hj 1 (by omega)
  exact RetC rfl (Res1 rfl (RV.tmp rfl (Imp.bool (by rw [← insOk_eq]; unfold insOkI; simp [idx] at hq0 hq1; simp [hq0, hq1]; grind))))
set_option maxRecDepth 8000 in
theorem impl_sortOk (f : Fld) (n : Int) : FnC Try.prog 114 [A.agg (cFld f), A.int n] (A.bool (sortOk f n)) := by
  refine Fn_of_W Try.func114 rfl rfl fun r w => ?_
  refine W_seq (W_region (ws O_boxg ⟨T1 rfl, trivial⟩ ?_))
  refine WL_ac rfl ?_
  refine WL_nil (Fin_then (W_seq (W_region (ws (O_loadgw tg37 rfl) ⟨T1 rfl, trivial⟩ ?_))))
  refine WL_mv rfl rfl ?_
  refine ws (O_call cf99 (impl_fieldOk _ _) rfl) ⟨T1 rfl, T1 rfl, trivial⟩ ?_
  refine WL_mv rfl rfl ?_
  refine wt1 rfl rfl (fun hc => (O_field tf37_2)) ⟨tg rfl, trivial⟩ ?_
  refine wt1 rfl rfl (fun hc => (O_load ta4)) ⟨tg rfl, trivial⟩ ?_
  refine wt1 rfl rfl (fun hc => O_not) ⟨tg rfl, trivial⟩ ?_
  refine ws O_and ⟨T1 rfl, tg rfl, trivial⟩ ?_
  refine WL_as rfl rfl ?_
  exact WL_nil (Fin_then (W_ret (RetC rfl (Res1 rfl (RV.tmp rfl (Imp.bool (by unfold sortOk; rw [Bool.and_comm])))))))
set_option maxRecDepth 8000 in
theorem impl_sortsOk1 (f : Fld) (n : Int) (bare : Bool) : FnC Try.prog 113 [A.agg (cFld f), A.pt [A.int n], A.pt [A.bool bare]] (A.bool (!(sortOk f n) || (bare && decide (f.kind = 3)))) := by
  refine Fn_of_W Try.func113 rfl rfl fun r w => ?_
  refine W_seq (W_region (ws O_boxg ⟨T1 rfl, trivial⟩ ?_))
  refine WL_ac rfl ?_
  refine WL_nil (Fin_then (W_seq (W_region (ws (O_loadgw tg37 rfl) ⟨T1 rfl, trivial⟩ ?_))))
  refine ws (O_load ta3) ⟨T1 rfl, trivial⟩ ?_
  refine ws (O_call cf114 (impl_sortOk _ _) rfl) ⟨T1 rfl, T1 rfl, trivial⟩ ?_
  refine ws O_not ⟨T1 rfl, trivial⟩ ?_
  refine WL_mv rfl rfl ?_
  refine wf1 rfl rfl (fun hc => (O_load ta4)) ⟨tg rfl, trivial⟩ ?_
  refine wf1 rfl rfl (fun hc => O_move) ⟨tg rfl, trivial⟩ ?_
  refine wt rfl rfl (fun hc => (O_field tf37_0)) ⟨tg rfl, trivial⟩ ?_
  refine wt rfl rfl (fun hc => (O_load ta3)) ⟨tg rfl, trivial⟩ ?_
  refine wt rfl rfl (fun hc => O_eql) ⟨tg rfl, C1, trivial⟩ ?_
  refine wf1 rfl rfl (fun hc => O_and) ⟨tg rfl, tg rfl, trivial⟩ ?_
  refine ws O_or ⟨T1 rfl, tg rfl, trivial⟩ ?_
  refine WL_as rfl rfl ?_
  exact WL_nil (Fin_then (W_ret (RetC rfl (Res1 rfl (RV.tmp rfl (by first | exact Imp.refl | exact Imp.slv | exact Imp.nil | exact Imp.int (by omega) | exact Imp.int (by simp; done) | exact Imp.bool (by simp_all; done)))))))
set_option maxRecDepth 8000 in
theorem impl_sortsOk (L : List Fld) (n most : Int) (bare : Bool) : FnC Try.prog 61 [A.sl 3 cFld L, A.int n, A.int most, A.bool bare] (A.bool (decide ((L.length : Int) ≤ most) && sortsOk L n bare)) := by
  refine Fn_of_W Try.func61 rfl rfl fun r w => ?_
  refine W_seq (W_region (ws (O_box1 (by first | exact OneCell.int | exact OneCell.bool | exact OneCell.sl | exact OneCell.pt | exact OneCell.any1)) ⟨T1 rfl, trivial⟩ ?_))
  refine ws (O_box1 (by first | exact OneCell.int | exact OneCell.bool | exact OneCell.sl | exact OneCell.pt | exact OneCell.any1)) ⟨T1 rfl, trivial⟩ ?_
  refine WL_ac rfl ?_
  refine WL_nil (Fin_then (W_seq (W_region (WL_mv rfl rfl ?_))))
  refine WL_len ts50 rfl rfl fun hl10 => ?_
  refine WL_mv rfl rfl ?_
  refine ws O_leq ⟨T1 rfl, T1 rfl, trivial⟩ ?_
  refine WL_mv rfl rfl ?_
  refine wt1 rfl rfl (fun hc => O_move) ⟨tg rfl, trivial⟩ ?_
  refine wt1 rfl rfl (fun hc => (O_makeFunc (caps := [_, _]) rfl)) ⟨tg rfl, tg rfl, trivial⟩ ?_
  refine wt1 rfl rfl (fun hc => (O_call cf112 (conFuncF _ _ (fun f => !(sortOk f n) || (bare && decide (f.kind = 3))) _ (fun _ _ => by kernel_rfl) (fun y _ => impl_sortsOk1 y n bare)) rfl)) ⟨tg rfl, tg rfl, trivial⟩ ?_
  refine wt1 rfl rfl (fun hc => O_not) ⟨tg rfl, trivial⟩ ?_
  refine ws O_and ⟨T1 rfl, tg rfl, trivial⟩ ?_
  refine WL_as rfl rfl ?_
  exact WL_nil (Fin_then (W_ret (RetC rfl (Res1 rfl (RV.tmp rfl (Imp.bool (by rw [sortsOk_any])))))))
set_option maxRecDepth 8000 in
theorem idxFuncI (f : FuncId) (caps : List A) (p : Isn → Bool) (L : List (Isn)) (hf : CallF Try.prog f) (hp : ∀ y ∈ L, FnC Try.prog f ([A.agg (cIns y)] ++ caps) (A.bool (p y))) : FnC Try.prog 154 [A.sl 3 cIns L, A.cl f caps] (A.int (findI p L)) := by
  refine Fn_of_W Try.func154 rfl rfl fun r w => ?_
  refine W_seq (W_region (WL_ac rfl ?_))
  refine WL_nil (Fin_then (W_seq (W_seq (W_region (WL_mv rfl rfl ?_)))))
  refine WL_len ts102 rfl rfl fun hl7 => ?_
  refine WL_mc rfl ?_
  refine WL_nil (Fin_then (W_block (W_loopk [0, 1, 7] (T := Nat) (fun k => k ≤ L.length ∧ ∀ j : Nat, j < k → p (idx L (j : Int)) = false) (fun k => [(8, true, A.int (k : Int))]) (fun k => L.length - k) 0 ⟨Nat.zero_le _, fun j h => by omega⟩ ⟨⟨rfl, _, rfl, (by first | exact Imp.refl | exact Imp.slv | exact Imp.nil | exact Imp.int (by omega) | exact Imp.int (by simp; done) | exact Imp.bool (by simp_all; done))⟩, trivial⟩ (fun k hx => ?_))))
  have hk := hx.1
  refine W_seq (W_region (ws O_lss ⟨T1 rfl, T1 rfl, trivial⟩ ?_))
  refine WL_nil (Fin_then (W_seq (W_cond rfl (fun h0 => ?_) (fun h0 => ?_))))
  · skip
    try simp only [bl] at h0
    refine W_skip (Fin_then (W_seq (W_block (W_seq (W_region (WL_mv rfl rfl ?_))))))
    refine WL_as rfl rfl ?_
    refine WL_nil (Fin_then (W_seq (W_region (WL_mv rfl rfl ?_))))
    refine WL_mv rfl rfl ?_
    refine WL_mv rfl rfl ?_
    refine ws (O_index ts102 (by omega)) ⟨T1 rfl, T1 rfl, trivial⟩ ?_
    refine ws (O_loadgw tg171 rfl) ⟨T1 rfl, trivial⟩ ?_
    refine ws (O_callcl hf (hp _ (idx_mem (by omega) (by omega))) rfl) ⟨T1 rfl, T1 rfl, trivial⟩ ?_
    refine WL_nil (Fin_then (W_cond rfl (fun h1 => ?_) (fun h1 => ?_)))
    · skip
      try simp only [bl] at h1
      refine W_seq (W_region (WL_mv rfl rfl ?_))
      refine WL_as rfl rfl ?_
      exact WL_nil (Fin_then (W_ret (Fin_block_ret (Fin_then_ret (Fin_then_ret (Fin_block_ret (Fin_then_ret (RetC rfl (Res1 rfl (RV.tmp rfl (Imp.int (findI_some (by omega) (by simpa using h1) hx.2).symm)))))))))))
    try simp only [bl] at h1
    refine W_skip (Fin_block (Fin_then (W_region (ws (O_add (by omega)) ⟨T1 rfl, C1, trivial⟩ ?_))))
    refine WL_mv rfl rfl ?_
    exact WL_nil (Fin_back (k + 1) ⟨by omega, fun j hj => by rcases Nat.lt_or_ge j k with q | q; exact hx.2 j q; rw [show j = k from by omega]; simpa using h1⟩ (by omega) ⟨⟨rfl, _, rfl, (by first | exact Imp.refl | exact Imp.slv | exact Imp.nil | exact Imp.int (by omega) | exact Imp.int (by simp; done) | exact Imp.bool (by simp_all; done))⟩, trivial⟩ ⟨rfl, rfl, rfl, trivial⟩ rfl rfl)
  try simp only [bl] at h0
  refine W_exit (Fin_then_exit (Fin_then_exit (Fin_block_exit (Fin_then (W_seq (W_region (WL_ac rfl ?_)))))))
  exact WL_nil (Fin_then (W_ret (RetC rfl (Res1 rfl (RV.tmp rfl (Imp.int (findI_none (fun j hj => hx.2 j (by omega))).symm))))))
set_option maxRecDepth 8000 in
theorem conFuncI (f : FuncId) (caps : List A) (p : Isn → Bool) (L : List (Isn)) (hf : CallF Try.prog f) (hp : ∀ y ∈ L, FnC Try.prog f ([A.agg (cIns y)] ++ caps) (A.bool (p y))) : FnC Try.prog 116 [A.sl 3 cIns L, A.cl f caps] (A.bool (L.any p)) := by
  refine Fn_of_W Try.func116 rfl rfl fun r w => ?_
  refine W_seq (W_region (WL_ac rfl ?_))
  refine WL_nil (Fin_then (W_seq (W_region (WL_mv rfl rfl ?_))))
  refine WL_mv rfl rfl ?_
  refine ws (O_call cf154 (idxFuncI _ _ _ _ hf hp) rfl) ⟨T1 rfl, T1 rfl, trivial⟩ ?_
  refine ws O_geq ⟨T1 rfl, C1, trivial⟩ ?_
  refine WL_as rfl rfl ?_
  exact WL_nil (Fin_then (W_ret (RetC rfl (Res1 rfl (RV.tmp rfl (Imp.bool (by rw [← findI_any])))))))
set_option maxRecDepth 8000 in
theorem idxFuncN (f : FuncId) (caps : List A) (p : Fnc → Bool) (L : List (Fnc)) (hf : CallF Try.prog f) (hp : ∀ y ∈ L, FnC Try.prog f ([A.agg (cFun y)] ++ caps) (A.bool (p y))) : FnC Try.prog 115 [A.sl 6 cFun L, A.cl f caps] (A.int (findI p L)) := by
  refine Fn_of_W Try.func115 rfl rfl fun r w => ?_
  refine W_seq (W_region (WL_ac rfl ?_))
  refine WL_nil (Fin_then (W_seq (W_seq (W_region (WL_mv rfl rfl ?_)))))
  refine WL_len ts51 rfl rfl fun hl7 => ?_
  refine WL_mc rfl ?_
  refine WL_nil (Fin_then (W_block (W_loopk [0, 1, 7] (T := Nat) (fun k => k ≤ L.length ∧ ∀ j : Nat, j < k → p (idx L (j : Int)) = false) (fun k => [(8, true, A.int (k : Int))]) (fun k => L.length - k) 0 ⟨Nat.zero_le _, fun j h => by omega⟩ ⟨⟨rfl, _, rfl, (by first | exact Imp.refl | exact Imp.slv | exact Imp.nil | exact Imp.int (by omega) | exact Imp.int (by simp; done) | exact Imp.bool (by simp_all; done))⟩, trivial⟩ (fun k hx => ?_))))
  have hk := hx.1
  refine W_seq (W_region (ws O_lss ⟨T1 rfl, T1 rfl, trivial⟩ ?_))
  refine WL_nil (Fin_then (W_seq (W_cond rfl (fun h0 => ?_) (fun h0 => ?_))))
  · skip
    try simp only [bl] at h0
    refine W_skip (Fin_then (W_seq (W_block (W_seq (W_region (WL_mv rfl rfl ?_))))))
    refine WL_as rfl rfl ?_
    refine WL_nil (Fin_then (W_seq (W_region (WL_mv rfl rfl ?_))))
    refine WL_mv rfl rfl ?_
    refine WL_mv rfl rfl ?_
    refine ws (O_index ts51 (by omega)) ⟨T1 rfl, T1 rfl, trivial⟩ ?_
    refine ws (O_loadgw tg104 rfl) ⟨T1 rfl, trivial⟩ ?_
    refine ws (O_callcl hf (hp _ (idx_mem (by omega) (by omega))) rfl) ⟨T1 rfl, T1 rfl, trivial⟩ ?_
    refine WL_nil (Fin_then (W_cond rfl (fun h1 => ?_) (fun h1 => ?_)))
    · skip
      try simp only [bl] at h1
      refine W_seq (W_region (WL_mv rfl rfl ?_))
      refine WL_as rfl rfl ?_
      exact WL_nil (Fin_then (W_ret (Fin_block_ret (Fin_then_ret (Fin_then_ret (Fin_block_ret (Fin_then_ret (RetC rfl (Res1 rfl (RV.tmp rfl (Imp.int (findI_some (by omega) (by simpa using h1) hx.2).symm)))))))))))
    try simp only [bl] at h1
    refine W_skip (Fin_block (Fin_then (W_region (ws (O_add (by omega)) ⟨T1 rfl, C1, trivial⟩ ?_))))
    refine WL_mv rfl rfl ?_
    exact WL_nil (Fin_back (k + 1) ⟨by omega, fun j hj => by rcases Nat.lt_or_ge j k with q | q; exact hx.2 j q; rw [show j = k from by omega]; simpa using h1⟩ (by omega) ⟨⟨rfl, _, rfl, (by first | exact Imp.refl | exact Imp.slv | exact Imp.nil | exact Imp.int (by omega) | exact Imp.int (by simp; done) | exact Imp.bool (by simp_all; done))⟩, trivial⟩ ⟨rfl, rfl, rfl, trivial⟩ rfl rfl)
  try simp only [bl] at h0
  refine W_exit (Fin_then_exit (Fin_then_exit (Fin_block_exit (Fin_then (W_seq (W_region (WL_ac rfl ?_)))))))
  exact WL_nil (Fin_then (W_ret (RetC rfl (Res1 rfl (RV.tmp rfl (Imp.int (findI_none (fun j hj => hx.2 j (by omega))).symm))))))
set_option maxRecDepth 8000 in
theorem conFuncN (f : FuncId) (caps : List A) (p : Fnc → Bool) (L : List (Fnc)) (hf : CallF Try.prog f) (hp : ∀ y ∈ L, FnC Try.prog f ([A.agg (cFun y)] ++ caps) (A.bool (p y))) : FnC Try.prog 62 [A.sl 6 cFun L, A.cl f caps] (A.bool (L.any p)) := by
  refine Fn_of_W Try.func62 rfl rfl fun r w => ?_
  refine W_seq (W_region (WL_ac rfl ?_))
  refine WL_nil (Fin_then (W_seq (W_region (WL_mv rfl rfl ?_))))
  refine WL_mv rfl rfl ?_
  refine ws (O_call cf115 (idxFuncN _ _ _ _ hf hp) rfl) ⟨T1 rfl, T1 rfl, trivial⟩ ?_
  refine ws O_geq ⟨T1 rfl, C1, trivial⟩ ?_
  refine WL_as rfl rfl ?_
  exact WL_nil (Fin_then (W_ret (RetC rfl (Res1 rfl (RV.tmp rfl (Imp.bool (by rw [← findI_any])))))))
set_option maxRecDepth 8000 in
theorem impl_funOk1 (i : Isn) : FnC Try.prog 117 [A.agg (cIns i)] (A.bool (!insOk i)) := by
  refine Fn_of_W Try.func117 rfl rfl fun r w => ?_
  refine W_seq (W_region (ws O_boxg ⟨T1 rfl, trivial⟩ ?_))
  refine WL_ac rfl ?_
  refine WL_nil (Fin_then (W_seq (W_region (ws (O_loadgw tg171 rfl) ⟨T1 rfl, trivial⟩ ?_))))
  refine ws (O_call cf118 (impl_InsOk _) rfl) ⟨T1 rfl, trivial⟩ ?_
  refine ws O_not ⟨T1 rfl, trivial⟩ ?_
  refine WL_as rfl rfl ?_
  exact WL_nil (Fin_then (W_ret (RetC rfl (Res1 rfl (RV.tmp rfl (by first | exact Imp.refl | exact Imp.slv | exact Imp.nil | exact Imp.int (by omega) | exact Imp.int (by simp; done) | exact Imp.bool (by simp_all; done)))))))
set_option maxRecDepth 8000 in
theorem impl_funOk (f : Fnc) (n : Int) : FnC Try.prog 64 [A.agg (cFun f), A.int n] (A.bool (funOk f n)) := by
  refine Fn_of_W Try.func64 rfl rfl fun r w => ?_
  refine W_seq (W_region (ws O_boxg ⟨T1 rfl, trivial⟩ ?_))
  refine WL_ac rfl ?_
  refine WL_nil (Fin_then (W_seq (W_seq (W_region (ws (O_field tf104_0) ⟨T1 rfl, trivial⟩ ?_)))))
  refine ws (O_load ta50) ⟨T1 rfl, trivial⟩ ?_
  refine WL_mv rfl rfl ?_
  refine ws (O_call cf61 (impl_sortsOk _ _ _ _) rfl) ⟨T1 rfl, T1 rfl, C1, C1, trivial⟩ ?_
  refine ws O_not ⟨T1 rfl, trivial⟩ ?_
  refine WL_mv rfl rfl ?_
  refine wf1 rfl rfl (fun hc => (O_field tf104_2)) ⟨tg rfl, trivial⟩ ?_
  refine wf1 rfl rfl (fun hc => (O_load ta50)) ⟨tg rfl, trivial⟩ ?_
  refine wf1 rfl rfl (fun hc => O_move) ⟨tg rfl, trivial⟩ ?_
  refine wf1 rfl rfl (fun hc => (O_call cf61 (impl_sortsOk _ _ _ _) rfl)) ⟨tg rfl, tg rfl, C1, C1, trivial⟩ ?_
  refine wf1 rfl rfl (fun hc => O_not) ⟨tg rfl, trivial⟩ ?_
  refine ws O_or ⟨T1 rfl, tg rfl, trivial⟩ ?_
  refine WL_mv rfl rfl ?_
  refine wf1 rfl rfl (fun hc => (O_field tf104_1)) ⟨tg rfl, trivial⟩ ?_
  refine wf1 rfl rfl (fun hc => (O_loadg tg37 (Nat.le_of_ble_eq_true rfl))) ⟨tg rfl, trivial⟩ ?_
  refine wf1 rfl rfl (fun hc => O_move) ⟨tg rfl, trivial⟩ ?_
  refine wf1 rfl rfl (fun hc => (O_call cf114 (impl_sortOk _ _) rfl)) ⟨tg rfl, tg rfl, trivial⟩ ?_
  refine wf1 rfl rfl (fun hc => O_not) ⟨tg rfl, trivial⟩ ?_
  refine ws O_or ⟨T1 rfl, tg rfl, trivial⟩ ?_
  refine WL_nil (Fin_then (W_cond rfl (fun h0 => ?_) (fun h0 => ?_)))
  · skip
    try simp only [bl] at h0
    refine W_seq (W_region (WL_ac rfl ?_))
    exact WL_nil (Fin_then (W_ret (Fin_then_ret (RetC rfl (Res1 rfl (RV.tmp rfl (Imp.bool (by rw [funOk_eq]; grind))))))))
  try simp only [bl] at h0
  refine W_skip (Fin_then (W_seq (W_region (ws (O_field tf104_3) ⟨T1 rfl, trivial⟩ ?_))))
  refine ws (O_load ta102) ⟨T1 rfl, trivial⟩ ?_
  refine WL_len ts102 rfl rfl fun hl26 => ?_
  refine ws O_geq ⟨T1 rfl, C1, trivial⟩ ?_
  refine WL_mv rfl rfl ?_
  refine wt1 rfl rfl (fun hc => (O_field tf104_3)) ⟨tg rfl, trivial⟩ ?_
  refine wt1 rfl rfl (fun hc => (O_load ta102)) ⟨tg rfl, trivial⟩ ?_
  refine wt1 rfl rfl (fun hc => (O_len ts102)) ⟨tg rfl, trivial⟩ ?_
  refine wt1 rfl rfl (fun hc => O_leq) ⟨tg rfl, C1, trivial⟩ ?_
  refine ws O_and ⟨T1 rfl, tg rfl, trivial⟩ ?_
  refine WL_mv rfl rfl ?_
  refine wt1 rfl rfl (fun hc => (O_field tf104_3)) ⟨tg rfl, trivial⟩ ?_
  refine wt1 rfl rfl (fun hc => (O_load ta102)) ⟨tg rfl, trivial⟩ ?_
  refine wt1 rfl rfl (fun hc => (O_call cf116 (conFuncI 117 [] (fun i => !insOk i) _ (fun _ _ => by kernel_rfl) (fun y _ => impl_funOk1 y)) rfl)) ⟨tg rfl, F1c, trivial⟩ ?_
  refine wt1 rfl rfl (fun hc => O_not) ⟨tg rfl, trivial⟩ ?_
  refine ws O_and ⟨T1 rfl, tg rfl, trivial⟩ ?_
  refine WL_as rfl rfl ?_
  exact WL_nil (Fin_then (W_ret (RetC rfl (Res1 rfl (RV.tmp rfl (Imp.bool (by rw [funOk_eq, all_any]; grind)))))))
set_option maxRecDepth 8000 in
theorem impl_ProgOk1 (f : Fnc) (G : Kin) (h : kinOk G = true) : FnC Try.prog 63 [A.agg (cFun f), A.pt [kOpt (kinOk G) (krows G) (canonL G)]] (A.bool (!funOk f (kcnt G))) := by
  have hn := krows_cnt G
  have hcl := canonL_len G
  refine Fn_of_W Try.func63 rfl rfl fun r w => ?_
  refine W_seq (W_region (ws O_boxg ⟨T1 rfl, trivial⟩ ?_))
  refine WL_ac rfl ?_
  refine WL_nil (Fin_then (W_seq (W_draw 8 mix rfl rfl ?_)))
  refine cs (O_loadgw tg104 rfl) ⟨T1 rfl, trivial⟩ ?_
  refine cs (O_load ta88) ⟨T1 rfl, trivial⟩ ?_
  refine cs ((O_nilCheck).pre1 (kOpt_imp h)) ⟨T1 rfl, trivial⟩ ?_
  refine cs (O_field tf110_0) ⟨T1 rfl, trivial⟩ ?_
  refine cs (O_load ta108) ⟨T1 rfl, trivial⟩ ?_
  refine cs (O_len ts108) ⟨T1 rfl, trivial⟩ ?_
  refine cs (O_call cf64 (impl_funOk _ _) rfl) ⟨T1 rfl, T1 rfl, trivial⟩ ?_
  refine cs O_not ⟨T1 rfl, trivial⟩ ?_
  refine Chain_nil ?_
  refine WL_as rfl rfl ?_
  exact WL_nil (Fin_then (W_ret (RetC rfl (Res1 rfl (RV.tmp rfl (Imp.bool (by rw [hn])))))))
set_option maxRecDepth 8000 in
theorem impl_ProgOk (p : Prg) (hG : Small p.types) : FnC Try.prog 24 [A.agg (cProg p)] (A.bool (progOk p)) := by
  have hn := krows_cnt p.types
  refine Fn_of_W Try.func24 rfl rfl fun r w => ?_
  refine W_seq (W_region (ws O_boxg ⟨T1 rfl, trivial⟩ ?_))
  refine WL_ac rfl ?_
  refine WL_nil (Fin_then (W_seq (W_region (ws (O_field tf53_0) ⟨T1 rfl, trivial⟩ ?_))))
  refine ws (O_load ta31) ⟨T1 rfl, trivial⟩ ?_
  refine ws (O_call cf47 (impl_readKin _ (by assumption)) rfl) ⟨T1 rfl, trivial⟩ ?_
  refine WL_mv rfl rfl ?_
  refine ws (O_extract rfl) ⟨T1 rfl, trivial⟩ ?_
  refine ws (O_extract rfl) ⟨T1 rfl, trivial⟩ ?_
  refine WL_alloc tz88 rfl fun b3 => ?_
  refine WL_store 0 rfl ⟨T1 rfl, T1 rfl, trivial⟩ (CellsOf.one OneV.kOpt) sz88 (Nat.le_of_ble_eq_true rfl) ?_
  refine WL_as rfl rfl ?_
  refine WL_nil (Fin_then (W_seq (W_seq (W_draw 25 mix rfl rfl ?_))))
  refine cs O_move ⟨T1 rfl, trivial⟩ ?_
  refine cs O_not ⟨T1 rfl, trivial⟩ ?_
  refine cs O_move ⟨T1 rfl, trivial⟩ ?_
  refine cf1 rfl rfl (fun hc => (O_field tf53_1)) ⟨tg rfl, trivial⟩ ?_
  refine cf1 rfl rfl (fun hc => (O_load ta50)) ⟨tg rfl, trivial⟩ ?_
  refine cf1 rfl rfl (fun hc => (O_loado 0 ta88 rfl rfl)) ⟨tg rfl, trivial⟩ ?_
  refine cf1 rfl rfl (fun hc => ((O_nilCheck).pre1 (kOpt_imp (by simpa using hc)))) ⟨tg rfl, trivial⟩ ?_
  refine cf1 rfl rfl (fun hc => (O_field tf110_0)) ⟨tg rfl, trivial⟩ ?_
  refine cf1 rfl rfl (fun hc => (O_load ta108)) ⟨tg rfl, trivial⟩ ?_
  refine cf1 rfl rfl (fun hc => (O_len ts108)) ⟨tg rfl, trivial⟩ ?_
  refine cf1 rfl rfl (fun hc => (O_call cf61 (impl_sortsOk _ _ _ _) rfl)) ⟨tg rfl, tg rfl, C1, C1, trivial⟩ ?_
  refine cf1 rfl rfl (fun hc => O_not) ⟨tg rfl, trivial⟩ ?_
  refine cs O_or ⟨T1 rfl, tg rfl, trivial⟩ ?_
  refine cs O_move ⟨T1 rfl, trivial⟩ ?_
  refine cf1 rfl rfl (fun hc => (O_field tf53_2)) ⟨tg rfl, trivial⟩ ?_
  refine cf1 rfl rfl (fun hc => (O_load ta51)) ⟨tg rfl, trivial⟩ ?_
  refine cf1 rfl rfl (fun hc => (O_len ts51)) ⟨tg rfl, trivial⟩ ?_
  refine cf1 rfl rfl (fun hc => O_lss) ⟨tg rfl, C1, trivial⟩ ?_
  refine cs O_or ⟨T1 rfl, tg rfl, trivial⟩ ?_
  refine cs O_move ⟨T1 rfl, trivial⟩ ?_
  refine cf1 rfl rfl (fun hc => (O_field tf53_2)) ⟨tg rfl, trivial⟩ ?_
  refine cf1 rfl rfl (fun hc => (O_load ta51)) ⟨tg rfl, trivial⟩ ?_
  refine cf1 rfl rfl (fun hc => (O_len ts51)) ⟨tg rfl, trivial⟩ ?_
  refine cf1 rfl rfl (fun hc => O_gtr) ⟨tg rfl, C1, trivial⟩ ?_
  refine cs O_or ⟨T1 rfl, tg rfl, trivial⟩ ?_
  refine Chain_nil ?_
  refine WL_nil (Fin_then (W_cond rfl (fun h0 => ?_) (fun h0 => ?_)))
  · skip
    rw [hn] at h0; (try simp only [bl] at h0)
    refine W_seq (W_region (WL_ac rfl ?_))
    exact WL_nil (Fin_then (W_ret (Fin_then_ret (RetC rfl (Res1 rfl (RV.tmp rfl (Imp.bool (by unfold progOk; grind))))))))
  rw [hn] at h0; (try simp only [bl] at h0)
  refine W_skip (Fin_then (W_seq (W_region (ws (O_field tf53_2) ⟨T1 rfl, trivial⟩ ?_))))
  refine ws (O_load ta51) ⟨T1 rfl, trivial⟩ ?_
  refine WL_freeze 0 rfl 3 rfl (u := A.pt [kOpt (kinOk p.types) (krows p.types) (canonL p.types)]) (fun r _ hat => ⟨_, _, rfl, hat⟩) ?_
  refine ws (O_makeFunc (caps := [_]) rfl) ⟨T1 rfl, trivial⟩ ?_
  refine ws (O_call cf62 (conFuncN _ _ (fun f => !funOk f (kcnt p.types)) _ (fun _ _ => by kernel_rfl) (fun y _ => impl_ProgOk1 y p.types (by grind))) rfl) ⟨T1 rfl, T1 rfl, trivial⟩ ?_
  refine ws O_not ⟨T1 rfl, trivial⟩ ?_
  refine WL_as rfl rfl ?_
  exact WL_nil (Fin_then (W_ret (RetC rfl (Res1 rfl (RV.tmp rfl (Imp.bool (by unfold progOk; rw [all_any]; grind)))))))
end Go.Proofs.Ytfjggobjijeniaa
