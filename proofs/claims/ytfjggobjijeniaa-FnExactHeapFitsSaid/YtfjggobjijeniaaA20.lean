import Derived.Test.YtfjggobjijeniaaRows
import Derived.Test.YtfjggobjijeniaaWalk3
import Derived.Test.YtfjggobjijeniaaWalk2
import Derived.Test.YtfjggobjijeniaaPure6
import Derived.Test.YtfjggobjijeniaaPure7
import Derived.Test.YtfjggobjijeniaaPure8
import Derived.Test.YtfjggobjijeniaaPure9
import Derived.Test.YtfjggobjijeniaaPure10
import Derived.Test.YtfjggobjijeniaaA1
import Derived.Test.YtfjggobjijeniaaA2
import Derived.Test.YtfjggobjijeniaaA4
import Derived.Test.YtfjggobjijeniaaA5
import Derived.Test.YtfjggobjijeniaaA7
import Derived.Test.YtfjggobjijeniaaA8
import Derived.Test.YtfjggobjijeniaaA13
import Derived.Test.YtfjggobjijeniaaA17
namespace Go.Proofs.Ytfjggobjijeniaa.A20
open Go Go.RowKit Go.L
theorem mix : Try.prog.follows .mixedOrders = true := by kernel_rfl
theorem cf100 : CallF Try.prog 100 := fun w vs => by kernel_rfl
theorem cf162 : CallF Try.prog 162 := fun w vs => by kernel_rfl
theorem cf179 : CallF Try.prog 179 := fun w vs => by kernel_rfl
theorem cf181 : CallF Try.prog 181 := fun w vs => by kernel_rfl
theorem cf183 : CallF Try.prog 183 := fun w vs => by kernel_rfl
theorem sz35 : sizeAt Try.prog 35 = some 2 := by kernel_rfl
theorem ta3 : TA Try.prog 3 := by unfold TA; kernel_rfl
theorem ta62 : TA Try.prog 62 := by unfold TA; kernel_rfl
theorem tb35 : TB Try.prog 35 [.int .i64 0, .int .i64 0] [(0, 1), (1, 1)] := ⟨by kernel_rfl, by kernel_rfl⟩
theorem tez50 : TEZ Try.prog 50 37 3 24 [.int .i64 0, .int .i64 0, .bool false] := ⟨by kernel_rfl, by kernel_rfl⟩
theorem te50 : TE Try.prog 50 37 3 24 := tez50.te rfl
theorem tf35_0 : TF Try.prog 35 0 0 := by unfold TF; kernel_rfl
theorem tf35_1 : TF Try.prog 35 1 1 := by unfold TF; kernel_rfl
theorem tf37_0 : TF Try.prog 37 0 0 := by unfold TF; kernel_rfl
theorem tf67_0 : TF Try.prog 67 0 0 := by unfold TF; kernel_rfl
theorem tf67_1 : TF Try.prog 67 1 1 := by unfold TF; kernel_rfl
theorem tf67_2 : TF Try.prog 67 2 2 := by unfold TF; kernel_rfl
theorem tf67_3 : TF Try.prog 67 3 3 := by unfold TF; kernel_rfl
theorem tg35 : TG Try.prog 35 2 := ⟨by kernel_rfl, by kernel_rfl⟩
theorem tg67 : TG Try.prog 67 5 := ⟨by kernel_rfl, by kernel_rfl⟩
theorem ts50 : TS Try.prog 50 37 3 := ⟨by kernel_rfl, by kernel_rfl⟩
theorem ts62 : TS Try.prog 62 3 1 := ⟨by kernel_rfl, by kernel_rfl⟩
theorem tz35 : TZ Try.prog 35 [.int .i64 0, .int .i64 0] := by unfold TZ; kernel_rfl
theorem ui244 : Try.prog.underlying 244 = some (.int .u64) := by kernel_rfl
theorem ui3 : Try.prog.underlying 3 = some (.int .i64) := by kernel_rfl
end Go.Proofs.Ytfjggobjijeniaa.A20
namespace Go.Proofs.Ytfjggobjijeniaa
open Go Go.RowKit Go.L A20
set_option maxRecDepth 8000 in
theorem impl_WordOf (v : Vl) : FnC Try.prog 179 [A.agg (cVal v)] (A.int (wordOf v)) := by
  refine Fn_of_W Try.func179 rfl rfl fun r w => ?_
  refine W_seq (W_region (ws O_boxg ⟨T1 rfl, trivial⟩ ?_))
  refine WL_ac rfl ?_
  refine WL_nil (Fin_then (W_seq (W_block (W_seq (W_region (ws (O_field tf35_0) ⟨T1 rfl, trivial⟩ ?_))))))
  refine ws (O_load ta3) ⟨T1 rfl, trivial⟩ ?_
  refine ws O_eql ⟨T1 rfl, C1, trivial⟩ ?_
  refine WL_mv rfl rfl ?_
  refine wt1 rfl rfl (fun hc => (O_field tf35_1)) ⟨tg rfl, trivial⟩ ?_
  refine wt1 rfl rfl (fun hc => (O_load ta3)) ⟨tg rfl, trivial⟩ ?_
  refine wt1 rfl rfl (fun hc => (O_call cf100 (impl_isNum _) rfl)) ⟨tg rfl, trivial⟩ ?_
  refine ws O_and ⟨T1 rfl, tg rfl, trivial⟩ ?_
  refine WL_as rfl rfl ?_
  refine WL_nil (Fin_then (W_cond rfl (fun h0 => ?_) (fun h0 => ?_)))
  · skip
    try simp only [bl] at h0
    have hv := h0.2
    unfold vnum at hv
    simp only [Bool.and_eq_true, decide_eq_true_eq] at hv
    refine W_seq (W_region (ws (O_field tf35_1) ⟨T1 rfl, trivial⟩ ?_))
    refine ws (O_load ta3) ⟨T1 rfl, trivial⟩ ?_
    refine WL_as rfl rfl ?_
    exact WL_nil (Fin_then (W_ret (Fin_block_ret (Fin_then_ret (RetC rfl (Res1 rfl (RV.tmp rfl (Imp.int (by unfold wordOf; rw [if_pos h0])))))))))
  try simp only [bl] at h0
  refine W_seq (W_region (ws (O_field tf35_0) ⟨T1 rfl, trivial⟩ ?_))
  refine ws (O_load ta3) ⟨T1 rfl, trivial⟩ ?_
  refine ws O_eql ⟨T1 rfl, C1, trivial⟩ ?_
  refine WL_mv rfl rfl ?_
  refine wt1 rfl rfl (fun hc => (O_field tf35_1)) ⟨tg rfl, trivial⟩ ?_
  refine wt1 rfl rfl (fun hc => (O_load ta3)) ⟨tg rfl, trivial⟩ ?_
  refine wt1 rfl rfl (fun hc => (O_call cf100 (impl_isNum _) rfl)) ⟨tg rfl, trivial⟩ ?_
  refine ws O_and ⟨T1 rfl, tg rfl, trivial⟩ ?_
  refine WL_as rfl rfl ?_
  refine WL_nil (Fin_then (W_cond rfl (fun h1 => ?_) (fun h1 => ?_)))
  · skip
    try simp only [bl] at h1
    have hv := h1.2
    unfold vnum at hv
    simp only [Bool.and_eq_true, decide_eq_true_eq] at hv
    refine W_seq (W_region (ws (O_field tf35_1) ⟨T1 rfl, trivial⟩ ?_))
    refine ws (O_load ta3) ⟨T1 rfl, trivial⟩ ?_
    refine ws (O_mul (by omega)) ⟨C1, T1 rfl, trivial⟩ ?_
    refine ws (O_add (by omega)) ⟨T1 rfl, C1, trivial⟩ ?_
    refine WL_as rfl rfl ?_
    exact WL_nil (Fin_then (W_ret (Fin_block_ret (Fin_then_ret (RetC rfl (Res1 rfl (RV.tmp rfl (Imp.int (by unfold wordOf; rw [if_neg (by grind), if_pos h1])))))))))
  try simp only [bl] at h1
  refine W_seq (W_region (ws (O_field tf35_0) ⟨T1 rfl, trivial⟩ ?_))
  refine ws (O_load ta3) ⟨T1 rfl, trivial⟩ ?_
  refine ws O_eql ⟨T1 rfl, C1, trivial⟩ ?_
  refine WL_mv rfl rfl ?_
  refine wt1 rfl rfl (fun hc => (O_field tf35_1)) ⟨tg rfl, trivial⟩ ?_
  refine wt1 rfl rfl (fun hc => (O_load ta3)) ⟨tg rfl, trivial⟩ ?_
  refine wt1 rfl rfl (fun hc => O_geq) ⟨tg rfl, C1, trivial⟩ ?_
  refine ws O_and ⟨T1 rfl, tg rfl, trivial⟩ ?_
  refine WL_mv rfl rfl ?_
  refine wt1 rfl rfl (fun hc => (O_field tf35_1)) ⟨tg rfl, trivial⟩ ?_
  refine wt1 rfl rfl (fun hc => (O_load ta3)) ⟨tg rfl, trivial⟩ ?_
  refine wt1 rfl rfl (fun hc => O_lss) ⟨tg rfl, C1, trivial⟩ ?_
  refine ws O_and ⟨T1 rfl, tg rfl, trivial⟩ ?_
  refine WL_as rfl rfl ?_
  refine WL_nil (Fin_then (W_cond rfl (fun h2 => ?_) (fun h2 => ?_)))
  · skip
    try simp only [bl] at h2
    refine W_seq (W_region (ws (O_field tf35_1) ⟨T1 rfl, trivial⟩ ?_))
    refine ws (O_load ta3) ⟨T1 rfl, trivial⟩ ?_
    refine ws (O_mul (by omega)) ⟨C1, T1 rfl, trivial⟩ ?_
    refine ws (O_add (by omega)) ⟨T1 rfl, C1, trivial⟩ ?_
    refine WL_as rfl rfl ?_
    exact WL_nil (Fin_then (W_ret (Fin_block_ret (Fin_then_ret (RetC rfl (Res1 rfl (RV.tmp rfl (Imp.int (by unfold wordOf; rw [if_neg (by grind), if_neg (by grind), if_pos (by omega)])))))))))
  try simp only [bl] at h2
  refine W_skip (Fin_block (Fin_then (W_seq (W_region (WL_ac rfl ?_)))))
  exact WL_nil (Fin_then (W_ret (RetC rfl (Res1 rfl (RV.tmp rfl (Imp.int (by unfold wordOf; rw [if_neg (by grind), if_neg (by grind), if_neg (by omega)])))))))
set_option maxRecDepth 8000 in
theorem impl_WordVal (f : Fld) (wd : Int) (hw : inI wd) : FnC Try.prog 164 [A.agg (cFld f), A.int wd] (A.tup [A.agg (cVal (wordVal f wd).1), A.bool (wordVal f wd).2]) := by
  refine Fn_of_W Try.func164 rfl rfl fun r w => ?_
  refine W_seq (W_region (ws O_boxg ⟨T1 rfl, trivial⟩ ?_))
  refine WL_alloc tz35 rfl fun b4 => ?_
  refine WL_ac rfl ?_
  refine WL_nil (Fin_then (W_seq (W_region (WL_alloc tz35 rfl fun b6 => ?_))))
  refine WL_nil (Fin_then (W_seq (W_block (W_seq (W_region (WL_mv rfl rfl ?_))))))
  refine ws O_lss ⟨T1 rfl, C1, trivial⟩ ?_
  refine WL_mv rfl rfl ?_
  refine wf1 rfl rfl (fun hc => (O_field tf37_0)) ⟨tg rfl, trivial⟩ ?_
  refine wf1 rfl rfl (fun hc => (O_load ta3)) ⟨tg rfl, trivial⟩ ?_
  refine wf1 rfl rfl (fun hc => O_lss) ⟨tg rfl, C1, trivial⟩ ?_
  refine ws O_or ⟨T1 rfl, tg rfl, trivial⟩ ?_
  refine WL_mv rfl rfl ?_
  refine wf1 rfl rfl (fun hc => (O_field tf37_0)) ⟨tg rfl, trivial⟩ ?_
  refine wf1 rfl rfl (fun hc => (O_load ta3)) ⟨tg rfl, trivial⟩ ?_
  refine wf1 rfl rfl (fun hc => O_gtr) ⟨tg rfl, C1, trivial⟩ ?_
  refine ws O_or ⟨T1 rfl, tg rfl, trivial⟩ ?_
  refine WL_as rfl rfl ?_
  refine WL_nil (Fin_then (W_cond rfl (fun h0 => ?_) (fun h0 => ?_)))
  · skip
    try simp only [bl] at h0
    refine W_seq (W_region (ws (O_build [] tb35 rfl trivial rfl) trivial ?_))
    refine WL_store 1 rfl ⟨T1 rfl, T1 rfl, trivial⟩ (CellsOf.agg (by exact ⟨OneV.int, OneV.int, trivial⟩)) sz35 (Nat.le_of_ble_eq_true rfl) ?_
    refine WL_ac rfl ?_
    refine WL_nil (Fin_then (W_ret (Fin_block_ret (Fin_then_ret ?_))))
    have hwv := wv_bad (f := f) (w := wd) (by omega)
    exact RetC rfl (Res2 rfl (RV.cellg 1 rfl tg35 rfl rfl (Imp.eq (by rw [hwv]; rfl))) (RV.tmp rfl (Imp.bool (by rw [hwv]))))
  try simp only [bl] at h0
  refine W_seq (W_region (ws (O_field tf37_0) ⟨T1 rfl, trivial⟩ ?_))
  refine ws (O_load ta3) ⟨T1 rfl, trivial⟩ ?_
  refine ws O_eql ⟨T1 rfl, C1, trivial⟩ ?_
  refine WL_as rfl rfl ?_
  refine WL_nil (Fin_then (W_cond rfl (fun h1 => ?_) (fun h1 => ?_)))
  · skip
    try simp only [bl] at h1
    refine W_region (WL_mv rfl rfl ?_)
    refine ws (O_build [(_, _), (_, _)] tb35 rfl ⟨(CellsOf.one OneV.int), (CellsOf.one OneV.int), trivial⟩ rfl) ⟨C1, T1 rfl, trivial⟩ ?_
    refine WL_store 0 rfl ⟨T1 rfl, T1 rfl, trivial⟩ (CellsOf.agg (by exact ⟨OneV.int, OneV.int, trivial⟩)) sz35 (Nat.le_of_ble_eq_true rfl) ?_
    refine WL_nil (Fin_block (Fin_then (W_seq (W_seq (W_region (ws (O_loadog 0 tg35 rfl (Nat.le_of_ble_eq_true rfl)) ⟨T1 rfl, trivial⟩ ?_))))))
    refine ws (O_call cf179 (impl_WordOf ⟨1, wd⟩) rfl) ⟨T1 rfl, trivial⟩ ?_
    refine WL_mv rfl rfl ?_
    refine ws O_neq ⟨T1 rfl, T1 rfl, trivial⟩ ?_
    refine WL_nil (Fin_then (W_cond rfl (fun h5 => ?_) (fun h5 => ?_)))
    · skip
      try simp only [bl] at h5
      refine W_seq (W_region (ws (O_build [] tb35 rfl trivial rfl) trivial ?_))
      refine WL_store 1 rfl ⟨T1 rfl, T1 rfl, trivial⟩ (CellsOf.agg (by exact ⟨OneV.int, OneV.int, trivial⟩)) sz35 (Nat.le_of_ble_eq_true rfl) ?_
      refine WL_ac rfl ?_
      refine WL_nil (Fin_then (W_ret (Fin_then_ret ?_)))
      have hwv := (wv_num (f := f) (w := wd) (by omega) h1).1 h5
      exact RetC rfl (Res2 rfl (RV.cellg 1 rfl tg35 rfl rfl (Imp.eq (by rw [hwv]; rfl))) (RV.tmp rfl (Imp.bool (by rw [hwv]))))
    try simp only [bl] at h5
    refine W_skip (Fin_then (W_seq (W_region (ws (O_loadog 0 tg35 rfl (Nat.le_of_ble_eq_true rfl)) ⟨T1 rfl, trivial⟩ ?_))))
    refine WL_store 1 rfl ⟨T1 rfl, T1 rfl, trivial⟩ (CellsOf.agg (by exact ⟨OneV.int, OneV.int, trivial⟩)) sz35 (Nat.le_of_ble_eq_true rfl) ?_
    refine WL_ac rfl ?_
    refine WL_nil (Fin_then (W_ret ?_))
    have hwv := (wv_num (f := f) (w := wd) (by omega) h1).2 (by simpa using h5)
    exact RetC rfl (Res2 rfl (RV.cellg 1 rfl tg35 rfl rfl (Imp.eq (by rw [hwv]; rfl))) (RV.tmp rfl (Imp.bool (by rw [hwv]))))
  try simp only [bl] at h1
  refine W_seq (W_region (WL_mv rfl rfl ?_))
  refine ws O_eql ⟨T1 rfl, C1, trivial⟩ ?_
  refine WL_mv rfl rfl ?_
  refine wt1 rfl rfl (fun hc => (O_field tf37_0)) ⟨tg rfl, trivial⟩ ?_
  refine wt1 rfl rfl (fun hc => (O_load ta3)) ⟨tg rfl, trivial⟩ ?_
  refine wt1 rfl rfl (fun hc => O_eql) ⟨tg rfl, C1, trivial⟩ ?_
  refine ws O_and ⟨T1 rfl, tg rfl, trivial⟩ ?_
  refine WL_as rfl rfl ?_
  refine WL_nil (Fin_then (W_cond rfl (fun h2 => ?_) (fun h2 => ?_)))
  · skip
    try simp only [bl] at h2
    refine W_seq (W_region (ws (O_build [] tb35 rfl trivial rfl) trivial ?_))
    refine WL_store 1 rfl ⟨T1 rfl, T1 rfl, trivial⟩ (CellsOf.agg (by exact ⟨OneV.int, OneV.int, trivial⟩)) sz35 (Nat.le_of_ble_eq_true rfl) ?_
    refine WL_ac rfl ?_
    refine WL_nil (Fin_then (W_ret (Fin_block_ret (Fin_then_ret ?_))))
    have hwv := (wv_none (f := f) (w := wd) (by omega) h1 h2.1).1 h2.2
    exact RetC rfl (Res2 rfl (RV.cellg 1 rfl tg35 rfl rfl (Imp.eq (by rw [hwv]; rfl))) (RV.tmp rfl (Imp.bool (by rw [hwv]))))
  try simp only [bl] at h2
  refine W_seq (W_region (WL_mv rfl rfl ?_))
  refine ws O_eql ⟨T1 rfl, C1, trivial⟩ ?_
  refine WL_as rfl rfl ?_
  refine WL_nil (Fin_then (W_cond rfl (fun h3 => ?_) (fun h3 => ?_)))
  · skip
    try simp only [bl] at h3
    refine W_seq (W_region (ws (O_build [(_, _)] tb35 rfl ⟨(CellsOf.one OneV.int), trivial⟩ rfl) ⟨C1, trivial⟩ ?_))
    refine WL_store 1 rfl ⟨T1 rfl, T1 rfl, trivial⟩ (CellsOf.agg (by exact ⟨OneV.int, OneV.int, trivial⟩)) sz35 (Nat.le_of_ble_eq_true rfl) ?_
    refine WL_ac rfl ?_
    refine WL_nil (Fin_then (W_ret (Fin_block_ret (Fin_then_ret ?_))))
    have hwv := (wv_none (f := f) (w := wd) (by omega) h1 h3).2 (by omega)
    exact RetC rfl (Res2 rfl (RV.cellg 1 rfl tg35 rfl rfl (Imp.eq (by rw [hwv]; rfl))) (RV.tmp rfl (Imp.bool (by rw [hwv]))))
  try simp only [bl] at h3
  refine W_seq (W_region (WL_mv rfl rfl ?_))
  refine ws (O_rem (by (unfold inI at *; omega)) (by (unfold inI at *; omega))) ⟨T1 rfl, C1, trivial⟩ ?_
  refine ws O_eql ⟨T1 rfl, C1, trivial⟩ ?_
  refine WL_as rfl rfl ?_
  refine WL_nil (Fin_then (W_cond rfl (fun h4 => ?_) (fun h4 => ?_)))
  · skip
    try simp only [bl] at h4
    refine W_region (WL_mv rfl rfl ?_)
    refine ws (O_quo (by (unfold inI at *; omega)) (by (unfold inI at *; omega)) (by (unfold inI at *; omega))) ⟨T1 rfl, C1, trivial⟩ ?_
    refine ws (O_build [(_, _), (_, _)] tb35 rfl ⟨(CellsOf.one OneV.int), (CellsOf.one OneV.int), trivial⟩ rfl) ⟨C1, T1 rfl, trivial⟩ ?_
    refine WL_store 0 rfl ⟨T1 rfl, T1 rfl, trivial⟩ (CellsOf.agg (by exact ⟨OneV.int, OneV.int, trivial⟩)) sz35 (Nat.le_of_ble_eq_true rfl) ?_
    refine WL_nil (Fin_block (Fin_then (W_seq (W_seq (W_region (ws (O_loadog 0 tg35 rfl (Nat.le_of_ble_eq_true rfl)) ⟨T1 rfl, trivial⟩ ?_))))))
    refine ws (O_call cf179 (impl_WordOf ⟨3, wd / 2⟩) rfl) ⟨T1 rfl, trivial⟩ ?_
    refine WL_mv rfl rfl ?_
    refine ws O_neq ⟨T1 rfl, T1 rfl, trivial⟩ ?_
    refine WL_nil (Fin_then (W_cond rfl (fun h5 => ?_) (fun h5 => ?_)))
    · skip
      try simp only [bl] at h5
      refine W_seq (W_region (ws (O_build [] tb35 rfl trivial rfl) trivial ?_))
      refine WL_store 1 rfl ⟨T1 rfl, T1 rfl, trivial⟩ (CellsOf.agg (by exact ⟨OneV.int, OneV.int, trivial⟩)) sz35 (Nat.le_of_ble_eq_true rfl) ?_
      refine WL_ac rfl ?_
      refine WL_nil (Fin_then (W_ret (Fin_then_ret ?_)))
      have hwv := (wv_chip (f := f) (w := wd) (by omega) h1 h4).1 h5
      exact RetC rfl (Res2 rfl (RV.cellg 1 rfl tg35 rfl rfl (Imp.eq (by rw [hwv]; rfl))) (RV.tmp rfl (Imp.bool (by rw [hwv]))))
    try simp only [bl] at h5
    refine W_skip (Fin_then (W_seq (W_region (ws (O_loadog 0 tg35 rfl (Nat.le_of_ble_eq_true rfl)) ⟨T1 rfl, trivial⟩ ?_))))
    refine WL_store 1 rfl ⟨T1 rfl, T1 rfl, trivial⟩ (CellsOf.agg (by exact ⟨OneV.int, OneV.int, trivial⟩)) sz35 (Nat.le_of_ble_eq_true rfl) ?_
    refine WL_ac rfl ?_
    refine WL_nil (Fin_then (W_ret ?_))
    have hwv := (wv_chip (f := f) (w := wd) (by omega) h1 h4).2 (by simpa using h5)
    exact RetC rfl (Res2 rfl (RV.cellg 1 rfl tg35 rfl rfl (Imp.eq (by rw [hwv]; rfl))) (RV.tmp rfl (Imp.bool (by rw [hwv]))))
  try simp only [bl] at h4
  refine W_region (WL_mv rfl rfl ?_)
  refine ws (O_quo (by (unfold inI at *; omega)) (by (unfold inI at *; omega)) (by (unfold inI at *; omega))) ⟨T1 rfl, C1, trivial⟩ ?_
  refine ws (O_sub (by (unfold inI at *; omega))) ⟨T1 rfl, C1, trivial⟩ ?_
  refine ws (O_build [(_, _), (_, _)] tb35 rfl ⟨(CellsOf.one OneV.int), (CellsOf.one OneV.int), trivial⟩ rfl) ⟨C1, T1 rfl, trivial⟩ ?_
  refine WL_store 0 rfl ⟨T1 rfl, T1 rfl, trivial⟩ (CellsOf.agg (by exact ⟨OneV.int, OneV.int, trivial⟩)) sz35 (Nat.le_of_ble_eq_true rfl) ?_
  refine WL_nil (Fin_block (Fin_then (W_seq (W_seq (W_region (ws (O_loadog 0 tg35 rfl (Nat.le_of_ble_eq_true rfl)) ⟨T1 rfl, trivial⟩ ?_))))))
  refine ws (O_call cf179 (impl_WordOf ⟨4, wd / 2 - 1⟩) rfl) ⟨T1 rfl, trivial⟩ ?_
  refine WL_mv rfl rfl ?_
  refine ws O_neq ⟨T1 rfl, T1 rfl, trivial⟩ ?_
  refine WL_nil (Fin_then (W_cond rfl (fun h5 => ?_) (fun h5 => ?_)))
  · skip
    try simp only [bl] at h5
    refine W_seq (W_region (ws (O_build [] tb35 rfl trivial rfl) trivial ?_))
    refine WL_store 1 rfl ⟨T1 rfl, T1 rfl, trivial⟩ (CellsOf.agg (by exact ⟨OneV.int, OneV.int, trivial⟩)) sz35 (Nat.le_of_ble_eq_true rfl) ?_
    refine WL_ac rfl ?_
    refine WL_nil (Fin_then (W_ret (Fin_then_ret ?_)))
    have hwv := (wv_thing (f := f) (w := wd) (by omega) h1 h3 h4).1 h5
    exact RetC rfl (Res2 rfl (RV.cellg 1 rfl tg35 rfl rfl (Imp.eq (by rw [hwv]; rfl))) (RV.tmp rfl (Imp.bool (by rw [hwv]))))
  try simp only [bl] at h5
  refine W_skip (Fin_then (W_seq (W_region (ws (O_loadog 0 tg35 rfl (Nat.le_of_ble_eq_true rfl)) ⟨T1 rfl, trivial⟩ ?_))))
  refine WL_store 1 rfl ⟨T1 rfl, T1 rfl, trivial⟩ (CellsOf.agg (by exact ⟨OneV.int, OneV.int, trivial⟩)) sz35 (Nat.le_of_ble_eq_true rfl) ?_
  refine WL_ac rfl ?_
  refine WL_nil (Fin_then (W_ret ?_))
  have hwv := (wv_thing (f := f) (w := wd) (by omega) h1 h3 h4).2 (by simpa using h5)
  exact RetC rfl (Res2 rfl (RV.cellg 1 rfl tg35 rfl rfl (Imp.eq (by rw [hwv]; rfl))) (RV.tmp rfl (Imp.bool (by rw [hwv]))))
set_option maxRecDepth 8000 in
theorem impl_youngSize (h : Hp) (ho : inI ((h.words.length : Int) - h.old)) : FnC Try.prog 162 [A.agg (cHeap h)] (A.int ((h.words.length : Int) - h.old)) := by
  refine Fn_of_W Try.func162 rfl rfl fun r w => ?_
  refine W_seq (W_region (ws O_boxg ⟨T1 rfl, trivial⟩ ?_))
  refine WL_ac rfl ?_
  refine WL_nil (Fin_then (W_seq (W_region (ws (O_field tf67_0) ⟨T1 rfl, trivial⟩ ?_))))
  refine ws (O_load ta62) ⟨T1 rfl, trivial⟩ ?_
  refine WL_len ts62 rfl rfl fun hl5 => ?_
  refine ws (O_field tf67_1) ⟨T1 rfl, trivial⟩ ?_
  refine ws (O_load ta3) ⟨T1 rfl, trivial⟩ ?_
  refine ws (O_sub (by (unfold inI at *; omega))) ⟨T1 rfl, T1 rfl, trivial⟩ ?_
  refine WL_as rfl rfl ?_
  exact WL_nil (Fin_then (W_ret (RetC rfl (Res1 rfl (RV.tmp rfl (by first | exact Imp.refl | exact Imp.slv | exact Imp.nil | exact Imp.int (by omega) | exact Imp.int (by simp; done) | exact Imp.bool (by simp_all; done)))))))
set_option maxRecDepth 8000 in
theorem impl_sizesOk (h : Hp) (hl : h.words.length ≤ 1048576) : FnC Try.prog 128 [A.agg (cHeap h)] (A.bool (hsize h)) := by
  refine Fn_of_W Try.func128 rfl rfl fun r w => ?_
  refine W_seq (W_region (ws O_boxg ⟨T1 rfl, trivial⟩ ?_))
  refine WL_ac rfl ?_
  refine WL_nil (Fin_then (W_seq (W_seq (W_region (ws (O_field tf67_1) ⟨T1 rfl, trivial⟩ ?_)))))
  refine ws (O_load ta3) ⟨T1 rfl, trivial⟩ ?_
  refine ws O_lss ⟨T1 rfl, C1, trivial⟩ ?_
  refine WL_mv rfl rfl ?_
  refine wf1 rfl rfl (fun hc => (O_field tf67_1)) ⟨tg rfl, trivial⟩ ?_
  refine wf1 rfl rfl (fun hc => (O_load ta3)) ⟨tg rfl, trivial⟩ ?_
  refine wf1 rfl rfl (fun hc => O_gtr) ⟨tg rfl, C1, trivial⟩ ?_
  refine ws O_or ⟨T1 rfl, tg rfl, trivial⟩ ?_
  refine WL_mv rfl rfl ?_
  refine wf1 rfl rfl (fun hc => (O_field tf67_0)) ⟨tg rfl, trivial⟩ ?_
  refine wf1 rfl rfl (fun hc => (O_load ta62)) ⟨tg rfl, trivial⟩ ?_
  refine wf1 rfl rfl (fun hc => (O_len ts62)) ⟨tg rfl, trivial⟩ ?_
  refine wf1 rfl rfl (fun hc => (O_field tf67_1)) ⟨tg rfl, trivial⟩ ?_
  refine wf1 rfl rfl (fun hc => (O_load ta3)) ⟨tg rfl, trivial⟩ ?_
  refine wf1 rfl rfl (fun hc => O_lss) ⟨tg rfl, tg rfl, trivial⟩ ?_
  refine ws O_or ⟨T1 rfl, tg rfl, trivial⟩ ?_
  refine WL_mv rfl rfl ?_
  refine wf1 rfl rfl (fun hc => (O_loadgw tg67 rfl)) ⟨tg rfl, trivial⟩ ?_
  refine wf1 rfl rfl (fun hc => (O_call cf162 (impl_youngSize _ (by unfold inI; (try simp only [bl] at hc); omega)) rfl)) ⟨tg rfl, trivial⟩ ?_
  refine wf1 rfl rfl (fun hc => O_gtr) ⟨tg rfl, C1, trivial⟩ ?_
  refine ws O_or ⟨T1 rfl, tg rfl, trivial⟩ ?_
  refine WL_nil (Fin_then (W_cond rfl (fun h0 => ?_) (fun h0 => ?_)))
  · skip
    try simp only [bl] at h0
    refine W_seq (W_region (WL_ac rfl ?_))
    exact WL_nil (Fin_then (W_ret (Fin_then_ret (RetC rfl (Res1 rfl (RV.tmp rfl (Imp.bool (by unfold hsize; grind))))))))
  try simp only [bl] at h0
  refine W_skip (Fin_then (W_seq (W_draw 22 mix rfl rfl ?_)))
  refine cs (O_field tf67_2) ⟨T1 rfl, trivial⟩ ?_
  refine cs (O_load ta3) ⟨T1 rfl, trivial⟩ ?_
  refine cs O_geq ⟨T1 rfl, C1, trivial⟩ ?_
  refine cs O_move ⟨T1 rfl, trivial⟩ ?_
  refine ct1 rfl rfl (fun hc => (O_field tf67_2)) ⟨tg rfl, trivial⟩ ?_
  refine ct1 rfl rfl (fun hc => (O_load ta3)) ⟨tg rfl, trivial⟩ ?_
  refine ct1 rfl rfl (fun hc => (O_field tf67_1)) ⟨tg rfl, trivial⟩ ?_
  refine ct1 rfl rfl (fun hc => (O_load ta3)) ⟨tg rfl, trivial⟩ ?_
  refine ct1 rfl rfl (fun hc => O_leq) ⟨tg rfl, tg rfl, trivial⟩ ?_
  refine cs O_and ⟨T1 rfl, tg rfl, trivial⟩ ?_
  refine cs O_move ⟨T1 rfl, trivial⟩ ?_
  refine ct1 rfl rfl (fun hc => (O_field tf67_3)) ⟨tg rfl, trivial⟩ ?_
  refine ct1 rfl rfl (fun hc => (O_load ta3)) ⟨tg rfl, trivial⟩ ?_
  refine ct1 rfl rfl (fun hc => O_geq) ⟨tg rfl, C1, trivial⟩ ?_
  refine cs O_and ⟨T1 rfl, tg rfl, trivial⟩ ?_
  refine cs O_move ⟨T1 rfl, trivial⟩ ?_
  refine ct1 rfl rfl (fun hc => (O_field tf67_3)) ⟨tg rfl, trivial⟩ ?_
  refine ct1 rfl rfl (fun hc => (O_load ta3)) ⟨tg rfl, trivial⟩ ?_
  refine ct1 rfl rfl (fun hc => (O_loadgw tg67 rfl)) ⟨tg rfl, trivial⟩ ?_
  refine ct1 rfl rfl (fun hc => (O_call cf162 (impl_youngSize _ (by unfold inI; (try simp only [bl] at hc); omega)) rfl)) ⟨tg rfl, trivial⟩ ?_
  refine ct1 rfl rfl (fun hc => O_leq) ⟨tg rfl, tg rfl, trivial⟩ ?_
  refine cs O_and ⟨T1 rfl, tg rfl, trivial⟩ ?_
  refine Chain_nil ?_
  refine WL_as rfl rfl ?_
  exact WL_nil (Fin_then (W_ret (RetC rfl (Res1 rfl (RV.tmp rfl (Imp.bool (by unfold hsize; grind)))))))
set_option maxRecDepth 8000 in
theorem impl_views (h : Hp) (h0 : 0 ≤ h.old) (h1 : h.old ≤ h.words.length) : FnC Try.prog 130 [A.agg (cHeap h)] (A.tup [A.sl 1 cInt (h.words.take h.old.toNat), A.sl 1 cInt (h.words.drop h.old.toNat)]) := by
  refine Fn_of_W Try.func130 rfl rfl fun r w => ?_
  refine W_seq (W_region (ws O_boxg ⟨T1 rfl, trivial⟩ ?_))
  refine WL_ac rfl ?_
  refine WL_ac rfl ?_
  refine WL_nil (Fin_then (W_seq (W_draw 12 mix rfl rfl ?_)))
  refine cs (O_field tf67_0) ⟨T1 rfl, trivial⟩ ?_
  refine cs (O_load ta62) ⟨T1 rfl, trivial⟩ ?_
  refine cs (O_field tf67_1) ⟨T1 rfl, trivial⟩ ?_
  refine cs (O_load ta3) ⟨T1 rfl, trivial⟩ ?_
  refine cs (O_slice_h ts62 (by omega)) ⟨T1 rfl, T1 rfl, trivial⟩ ?_
  refine cs (O_field tf67_0) ⟨T1 rfl, trivial⟩ ?_
  refine cs (O_load ta62) ⟨T1 rfl, trivial⟩ ?_
  refine cs (O_field tf67_1) ⟨T1 rfl, trivial⟩ ?_
  refine cs (O_load ta3) ⟨T1 rfl, trivial⟩ ?_
  refine cs (O_slice_l ts62 (by omega)) ⟨T1 rfl, T1 rfl, trivial⟩ ?_
  refine cs O_assign ⟨T1 rfl, trivial⟩ ?_
  refine cs O_assign ⟨T1 rfl, trivial⟩ ?_
  refine Chain_nil ?_
  exact WL_nil (Fin_then (W_ret (RetC rfl (Res2 rfl (RV.tmp rfl (by first | exact Imp.refl | exact Imp.slv | exact Imp.nil | exact Imp.int (by omega) | exact Imp.int (by simp; done) | exact Imp.bool (by simp_all; done))) (RV.tmp rfl (by first | exact Imp.refl | exact Imp.slv | exact Imp.nil | exact Imp.int (by omega) | exact Imp.int (by simp; done) | exact Imp.bool (by simp_all; done)))))))
set_option maxRecDepth 8000 in
theorem impl_isYoung (h : Hp) (v : Vl) : FnC Try.prog 167 [A.agg (cHeap h), A.agg (cVal v)] (A.bool (decide (v.kind = 4) && decide (h.old ≤ v.n))) := by
  refine Fn_of_W Try.func167 rfl rfl fun r w => ?_
  refine W_seq (W_region (ws O_boxg ⟨T1 rfl, trivial⟩ ?_))
  refine ws O_boxg ⟨T1 rfl, trivial⟩ ?_
  refine WL_ac rfl ?_
  refine WL_nil (Fin_then (W_seq (W_region (ws (O_field tf35_0) ⟨T1 rfl, trivial⟩ ?_))))
  refine ws (O_load ta3) ⟨T1 rfl, trivial⟩ ?_
  refine ws O_eql ⟨T1 rfl, C1, trivial⟩ ?_
  refine WL_mv rfl rfl ?_
  refine wt1 rfl rfl (fun hc => (O_field tf35_1)) ⟨tg rfl, trivial⟩ ?_
  refine wt1 rfl rfl (fun hc => (O_load ta3)) ⟨tg rfl, trivial⟩ ?_
  refine wt1 rfl rfl (fun hc => (O_field tf67_1)) ⟨tg rfl, trivial⟩ ?_
  refine wt1 rfl rfl (fun hc => (O_load ta3)) ⟨tg rfl, trivial⟩ ?_
  refine wt1 rfl rfl (fun hc => O_geq) ⟨tg rfl, tg rfl, trivial⟩ ?_
  refine ws O_and ⟨T1 rfl, tg rfl, trivial⟩ ?_
  refine WL_as rfl rfl ?_
  exact WL_nil (Fin_then (W_ret (RetC rfl (Res1 rfl (RV.tmp rfl (by first | exact Imp.refl | exact Imp.slv | exact Imp.nil | exact Imp.int (by omega) | exact Imp.int (by simp; done) | exact Imp.bool (by simp_all; done)))))))
set_option maxRecDepth 8000 in
theorem bits_Mul64 (n : Int) (h0 : 0 ≤ n) (h1 : n ≤ 7) : FnC Try.prog 183 [A.u64 1, A.u64 n] (A.tup [A.u64 0, A.u64 n]) := by
  refine Fn_of_W Try.func183 rfl rfl fun r w => ?_
  refine W_seq (W_region (WL_ac rfl ?_))
  refine WL_ac rfl ?_
  refine WL_nil (Fin_then (W_seq (W_region (WL_mv rfl rfl ?_))))
  refine ws (O_andU (by omega) (by omega)) ⟨T1 rfl, C1, trivial⟩ ?_
  refine WL_as rfl rfl ?_
  refine WL_nil (Fin_then (W_seq (W_region (WL_mv rfl rfl ?_))))
  refine ws (O_shrU (by omega) (by omega)) ⟨T1 rfl, C1, trivial⟩ ?_
  refine WL_as rfl rfl ?_
  refine WL_nil (Fin_then (W_seq (W_region (WL_mv rfl rfl ?_))))
  refine ws (O_andU (by omega) (by omega)) ⟨T1 rfl, C1, trivial⟩ ?_
  refine WL_as rfl rfl ?_
  refine WL_nil (Fin_then (W_seq (W_region (WL_mv rfl rfl ?_))))
  refine ws (O_shrU (by omega) (by omega)) ⟨T1 rfl, C1, trivial⟩ ?_
  refine WL_as rfl rfl ?_
  refine WL_nil (Fin_then (W_seq (W_region (WL_mv rfl rfl ?_))))
  refine WL_mv rfl rfl ?_
  refine ws (O_mulU (by omega) (by omega)) ⟨T1 rfl, T1 rfl, trivial⟩ ?_
  refine WL_as rfl rfl ?_
  refine WL_nil (Fin_then (W_seq (W_region (WL_mv rfl rfl ?_))))
  refine WL_mv rfl rfl ?_
  refine ws (O_mulU (by omega) (by omega)) ⟨T1 rfl, T1 rfl, trivial⟩ ?_
  refine WL_mv rfl rfl ?_
  refine ws (O_shrU (by omega) (by omega)) ⟨T1 rfl, C1, trivial⟩ ?_
  refine ws (O_addU (by omega) (by omega)) ⟨T1 rfl, T1 rfl, trivial⟩ ?_
  refine WL_as rfl rfl ?_
  refine WL_nil (Fin_then (W_seq (W_region (WL_mv rfl rfl ?_))))
  refine ws (O_andU (by omega) (by omega)) ⟨T1 rfl, C1, trivial⟩ ?_
  refine WL_as rfl rfl ?_
  refine WL_nil (Fin_then (W_seq (W_region (WL_mv rfl rfl ?_))))
  refine ws (O_shrU (by omega) (by omega)) ⟨T1 rfl, C1, trivial⟩ ?_
  refine WL_as rfl rfl ?_
  refine WL_nil (Fin_then (W_seq (W_region (WL_mv rfl rfl ?_))))
  refine WL_mv rfl rfl ?_
  refine WL_mv rfl rfl ?_
  refine ws (O_mulU (by omega) (by omega)) ⟨T1 rfl, T1 rfl, trivial⟩ ?_
  refine ws (O_addU (by omega) (by omega)) ⟨T1 rfl, T1 rfl, trivial⟩ ?_
  refine WL_as rfl rfl ?_
  refine WL_nil (Fin_then (W_seq (W_region (WL_mv rfl rfl ?_))))
  refine WL_mv rfl rfl ?_
  refine ws (O_mulU (by omega) (by omega)) ⟨T1 rfl, T1 rfl, trivial⟩ ?_
  refine WL_mv rfl rfl ?_
  refine ws (O_addU (by omega) (by omega)) ⟨T1 rfl, T1 rfl, trivial⟩ ?_
  refine WL_mv rfl rfl ?_
  refine ws (O_shrU (by omega) (by omega)) ⟨T1 rfl, C1, trivial⟩ ?_
  refine ws (O_addU (by omega) (by omega)) ⟨T1 rfl, T1 rfl, trivial⟩ ?_
  refine WL_as rfl rfl ?_
  refine WL_nil (Fin_then (W_seq (W_region (WL_mv rfl rfl ?_))))
  refine WL_mv rfl rfl ?_
  refine ws (O_mulU (by omega) (by omega)) ⟨T1 rfl, T1 rfl, trivial⟩ ?_
  refine WL_as rfl rfl ?_
  exact WL_nil (Fin_then (W_ret (RetC rfl (Res2 rfl (RV.tmp rfl (Imp.eq (by simp))) (RV.tmp rfl (Imp.eq (by rw [Int.one_mul])))))))
set_option maxRecDepth 8000 in
theorem bits_Mul (n : Int) (h0 : 0 ≤ n) (h1 : n ≤ 7) : FnC Try.prog 181 [A.u64 1, A.u64 n] (A.tup [A.u64 0, A.u64 n]) := by
  refine Fn_of_W Try.func181 rfl rfl fun r w => ?_
  refine W_seq (W_region (WL_ac rfl ?_))
  refine WL_ac rfl ?_
  refine WL_nil (Fin_then (W_seq (W_condf ?_)))
  refine W_skip (Fin_then (W_seq (W_region (WL_mv rfl rfl ?_))))
  refine WL_mv rfl rfl ?_
  refine ws (O_call cf183 (bits_Mul64 _ (by omega) (by omega)) rfl) ⟨T1 rfl, T1 rfl, trivial⟩ ?_
  refine WL_mv rfl rfl ?_
  refine ws (O_extract rfl) ⟨T1 rfl, trivial⟩ ?_
  refine ws (O_extract rfl) ⟨T1 rfl, trivial⟩ ?_
  refine WL_as rfl rfl ?_
  refine WL_as rfl rfl ?_
  refine WL_nil (Fin_then (W_seq (W_region (WL_mv rfl rfl ?_))))
  refine WL_mv rfl rfl ?_
  refine WL_as rfl rfl ?_
  refine WL_as rfl rfl ?_
  exact WL_nil (Fin_then (W_ret (RetC rfl (Res2 rfl (RV.tmp rfl (by first | exact Imp.refl | exact Imp.slv | exact Imp.nil | exact Imp.int (by omega) | exact Imp.int (by simp; done) | exact Imp.bool (by simp_all; done))) (RV.tmp rfl (by first | exact Imp.refl | exact Imp.slv | exact Imp.nil | exact Imp.int (by omega) | exact Imp.int (by simp; done) | exact Imp.bool (by simp_all; done)))))))
set_option maxRecDepth 8000 in
theorem repeat_Field (f : Fld) (n : Int) (h0 : 0 ≤ n) (h1 : n ≤ 7) (L : List Fld) (hL : L = List.replicate n.toNat f) : FnN Try.prog 178 [A.sl 3 cFld [f], A.int n] (A.sl 3 cFld L) := by
  have hLl : (L.length : Int) = n := by rw [hL, List.length_replicate]; omega
  refine FnN_of_W Try.func178 rfl rfl fun r w => ?_
  refine W_seq (W_region (WL_ac rfl ?_))
  refine WL_nil (Fin_then (W_seq (W_seq (W_region (WL_mv rfl rfl ?_)))))
  refine ws O_lss ⟨T1 rfl, C1, trivial⟩ ?_
  refine WL_nil (Fin_then (W_cond rfl (fun h0 => ?_) (fun h0 => ?_)))
  · skip
    try simp only [bl] at h0
    exfalso; omega
  try simp only [bl] at h0
  refine W_skip (Fin_then (W_seq (W_region (WL_mv rfl rfl ?_))))
  refine WL_len ts50 rfl rfl fun hl14 => ?_
  refine ws (O_toU ui3 ui244 (by omega) (by omega)) ⟨T1 rfl, trivial⟩ ?_
  refine WL_mv rfl rfl ?_
  refine ws (O_toU ui3 ui244 (by omega) (by omega)) ⟨T1 rfl, trivial⟩ ?_
  refine ws (O_call cf181 (bits_Mul n h0 h1) rfl) ⟨T1 rfl, T1 rfl, trivial⟩ ?_
  refine WL_mv rfl rfl ?_
  refine ws (O_extract rfl) ⟨T1 rfl, trivial⟩ ?_
  refine ws (O_extract rfl) ⟨T1 rfl, trivial⟩ ?_
  refine WL_as rfl rfl ?_
  refine WL_as rfl rfl ?_
  refine WL_nil (Fin_then (W_seq (W_seq (W_region (WL_mv rfl rfl ?_)))))
  refine ws O_gtrU ⟨T1 rfl, C1, trivial⟩ ?_
  refine WL_mv rfl rfl ?_
  refine wf1 rfl rfl (fun hc => O_move) ⟨tg rfl, trivial⟩ ?_
  refine wf1 rfl rfl (fun hc => O_gtrU) ⟨tg rfl, C1, trivial⟩ ?_
  refine ws O_or ⟨T1 rfl, tg rfl, trivial⟩ ?_
  refine WL_nil (Fin_then (W_cond rfl (fun h1 => ?_) (fun h1 => ?_)))
  · skip
    try simp only [bl] at h1
    exfalso; omega
  try simp only [bl] at h1
  refine W_skip (Fin_then (W_seq (W_region (WL_mv rfl rfl ?_))))
  refine ws (O_ofU ui244 ui3 (by omega) (by omega)) ⟨T1 rfl, trivial⟩ ?_
  refine WL_make tez50 rfl ⟨T1 rfl, T1 rfl, trivial⟩ (by omega) (by omega) (by omega) rfl fun b30 => ?_
  refine WL_as rfl rfl ?_
  refine WL_nil (Fin_then (W_seq (W_region (WL_mv rfl rfl ?_))))
  refine WL_mv rfl rfl ?_
  refine WL_copy 0 (min 1 n.toNat) (([f].take (min 1 n.toNat)).flatMap cFld) ts50 rfl ⟨T1 rfl, T1 rfl, trivial⟩ (CopyFrom.sl (fun _ => rfl) rfl) (AllOne.flatMap (f := cFld) (fun _ => ⟨OneV.int, OneV.int, OneV.bool, trivial⟩) _) (by rw [flatMap_len (k := 3) (fun _ => rfl), List.length_take]; congr 1; simp) (by simp; omega) rfl ?_
  refine WL_as rfl rfl ?_
  refine WL_nil (Fin_then (W_seq (W_block (W_loopp [7] [0] [] [] (T := Nat) (fun j => j ≤ L.length ∧ (0 < L.length → 0 < j)) (fun j => [(8, true, A.int (j : Int))]) (fun j => { own := [(b30, 37, filled cFld [A.val (.int .i64 0), A.val (.int .i64 0), A.val (.bool false)] L j)], rooms := [], maps := [] }) (fun j => L.length - j) (min 1 n.toNat) ⟨by omega, by omega⟩ ⟨⟨rfl, _, rfl, Imp.refl⟩, trivial⟩ (.cons (AllImp.eq (filled_one hL (by omega))) OSub.nil) rfl rfl rfl (fun j hx => ?_)))))
  have hfl := filled_len (f := cFld) (z := [A.val (.int .i64 0), A.val (.int .i64 0), A.val (.bool false)]) (k := 3) (L := L) (j := j) (fun _ => rfl) rfl hx.1
  refine W_seq (W_seq (W_region (WL_mv rfl rfl ?_)))
  refine WL_mv rfl rfl ?_
  refine ws (O_lenv ts50) ⟨T1 rfl, trivial⟩ ?_
  refine ws O_lss ⟨T1 rfl, T1 rfl, trivial⟩ ?_
  refine WL_nil (Fin_then (W_cond rfl (fun h2 => ?_) (fun h2 => ?_)))
  · skip
    try simp only [bl] at h2
    refine W_skip (Fin_then (W_block (W_drawL 7 [0] mix rfl rfl (by kernel_rfl) rfl ?_)))
    refine cs O_move ⟨T1 rfl, trivial⟩ ?_
    refine cs O_move ⟨T1 rfl, trivial⟩ ?_
    refine cs O_move ⟨T1 rfl, trivial⟩ ?_
    refine cs (O_slicev_l ts50 (by omega)) ⟨T1 rfl, T1 rfl, trivial⟩ ?_
    refine cs O_move ⟨T1 rfl, trivial⟩ ?_
    refine cs O_move ⟨T1 rfl, trivial⟩ ?_
    refine cs (O_slicev_h ts50 (by omega)) ⟨T1 rfl, T1 rfl, trivial⟩ ?_
    refine Chain_nil ?_
    refine WL_copy 0 (min j (L.length - j)) ((filled cFld [A.val (.int .i64 0), A.val (.int .i64 0), A.val (.bool false)] L j).take (min j (L.length - j) * 3)) ts50 rfl ⟨T1 rfl, T1 rfl, trivial⟩ (CopyFrom.own (by show min _ _ = _; omega) (by rw [hfl]; exact Nat.mul_le_mul_right _ (by omega))) (by rw [take_filled (k := 3) (fun _ => rfl) (by omega) (by omega)]; exact AllOne.flatMap (f := cFld) (fun _ => ⟨OneV.int, OneV.int, OneV.bool, trivial⟩) _) (by rw [List.length_take, hfl]; omega) (by rw [hfl]; omega) rfl ?_
    refine ws (O_add (by omega)) ⟨T1 rfl, T1 rfl, trivial⟩ ?_
    refine WL_as rfl rfl ?_
    exact WL_nil (Fin_nop (Fin_block (Fin_backp [0] (j + min j (L.length - j)) ⟨by omega, by omega⟩ (by omega) ⟨⟨rfl, _, rfl, (Imp.int (by omega))⟩, trivial⟩ ⟨rfl, trivial⟩ (.cons (AllImp.eq (by rw [take_filled (k := 3) (fun _ => rfl) (by omega) (by omega), show 0 + (j : Int).toNat * 3 = j * 3 from by omega, over_filled (k := 3) (fun _ => rfl) rfl (repl_takeL hL (by omega)) (by omega)])) OSub.nil) rfl (List.Sublist.refl _) rfl)))
  try simp only [bl] at h2
  refine W_exit (Fin_then_exit (Fin_then_exit (Fin_block_exit (Fin_then (W_seq (W_region (WL_freezeSl (k := 3) (L := L) (f := cFld) (f' := cFld) 0 r [] (List.Mem.head _) rfl 7 rfl (by rw [filled_all (by omega)]; simp) (by first | rfl | simp | omega) (by omega) (by simp only [maxLen]; omega) (fun _ => rfl) (fun _ => ⟨NwI.val, NwI.val, NwI.val, trivial⟩) ?_)))))))
  refine WL_mv rfl rfl ?_
  refine WL_as rfl rfl ?_
  exact WL_nil (Fin_then (W_ret (RetC rfl (Res1 rfl (RV.tmp rfl Imp.refl)))))
end Go.Proofs.Ytfjggobjijeniaa
