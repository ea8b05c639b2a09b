import Derived.Test.YtfjggobjijeniaaRows
import Derived.Test.YtfjggobjijeniaaWalk3
import Derived.Test.YtfjggobjijeniaaWalk2
import Derived.Test.YtfjggobjijeniaaPure6
import Derived.Test.YtfjggobjijeniaaPure7
import Derived.Test.YtfjggobjijeniaaPure8
import Derived.Test.YtfjggobjijeniaaPure9
import Derived.Test.YtfjggobjijeniaaA1
import Derived.Test.YtfjggobjijeniaaA2
import Derived.Test.YtfjggobjijeniaaA4
import Derived.Test.YtfjggobjijeniaaA13
namespace Go.Proofs.Ytfjggobjijeniaa.A18
open Go Go.RowKit Go.L
theorem mix : Try.prog.follows .mixedOrders = true := by kernel_rfl
theorem cf123 : CallF Try.prog 123 := fun w vs => by kernel_rfl
theorem cf125 : CallF Try.prog 125 := fun w vs => by kernel_rfl
theorem cf136 : CallF Try.prog 136 := fun w vs => by kernel_rfl
theorem cf160 : CallF Try.prog 160 := fun w vs => by kernel_rfl
theorem cf161 : CallF Try.prog 161 := fun w vs => by kernel_rfl
theorem cf168 : CallF Try.prog 168 := fun w vs => by kernel_rfl
theorem cf177 : CallF Try.prog 177 := fun w vs => by kernel_rfl
theorem cf52 : CallF Try.prog 52 := fun w vs => by kernel_rfl
theorem cf72 : CallF Try.prog 72 := fun w vs => by kernel_rfl
theorem cf79 : CallF Try.prog 79 := fun w vs => by kernel_rfl
theorem cf81 : CallF Try.prog 81 := fun w vs => by kernel_rfl
theorem cf90 : CallF Try.prog 90 := fun w vs => by kernel_rfl
theorem sz3 : sizeAt Try.prog 3 = some 1 := by kernel_rfl
theorem sz35 : sizeAt Try.prog 35 = some 2 := by kernel_rfl
theorem sz37 : sizeAt Try.prog 37 = some 3 := by kernel_rfl
theorem sz62 : sizeAt Try.prog 62 = some 1 := by kernel_rfl
theorem sz67 : sizeAt Try.prog 67 = some 5 := by kernel_rfl
theorem ta3 : TA Try.prog 3 := by unfold TA; kernel_rfl
theorem ta50 : TA Try.prog 50 := by unfold TA; kernel_rfl
theorem ta62 : TA Try.prog 62 := by unfold TA; kernel_rfl
theorem tb35 : TB Try.prog 35 [.int .i64 0, .int .i64 0] [(0, 1), (1, 1)] := ⟨by kernel_rfl, by kernel_rfl⟩
theorem tez62 : TEZ Try.prog 62 3 1 8 [.int .i64 0] := ⟨by kernel_rfl, by kernel_rfl⟩
theorem te62 : TE Try.prog 62 3 1 8 := tez62.te rfl
theorem tf145_0 : TF Try.prog 145 0 0 := by unfold TF; kernel_rfl
theorem tf145_3 : TF Try.prog 145 3 3 := by unfold TF; kernel_rfl
theorem tf35_0 : TF Try.prog 35 0 0 := by unfold TF; kernel_rfl
theorem tf35_1 : TF Try.prog 35 1 1 := by unfold TF; kernel_rfl
theorem tf37_0 : TF Try.prog 37 0 0 := by unfold TF; kernel_rfl
theorem tf37_1 : TF Try.prog 37 1 1 := by unfold TF; kernel_rfl
theorem tf64_0 : TF Try.prog 64 0 0 := by unfold TF; kernel_rfl
theorem tf64_1 : TF Try.prog 64 1 1 := by unfold TF; kernel_rfl
theorem tf64_2 : TF Try.prog 64 2 2 := by unfold TF; kernel_rfl
theorem tf64_3 : TF Try.prog 64 3 3 := by unfold TF; kernel_rfl
theorem tf64_4 : TF Try.prog 64 4 4 := by unfold TF; kernel_rfl
theorem tf67_0 : TF Try.prog 67 0 0 := by unfold TF; kernel_rfl
theorem tf67_1 : TF Try.prog 67 1 1 := by unfold TF; kernel_rfl
theorem tf67_2 : TF Try.prog 67 2 2 := by unfold TF; kernel_rfl
theorem tf67_3 : TF Try.prog 67 3 3 := by unfold TF; kernel_rfl
theorem tf67_4 : TF Try.prog 67 4 4 := by unfold TF; kernel_rfl
theorem tg35 : TG Try.prog 35 2 := ⟨by kernel_rfl, by kernel_rfl⟩
theorem tg37 : TG Try.prog 37 3 := ⟨by kernel_rfl, by kernel_rfl⟩
theorem tg67 : TG Try.prog 67 5 := ⟨by kernel_rfl, by kernel_rfl⟩
theorem ts50 : TS Try.prog 50 37 3 := ⟨by kernel_rfl, by kernel_rfl⟩
theorem ts62 : TS Try.prog 62 3 1 := ⟨by kernel_rfl, by kernel_rfl⟩
theorem ts82 : TS Try.prog 82 145 4 := ⟨by kernel_rfl, by kernel_rfl⟩
theorem tz35 : TZ Try.prog 35 [.int .i64 0, .int .i64 0] := by unfold TZ; kernel_rfl
theorem tz37 : TZ Try.prog 37 [.int .i64 0, .int .i64 0, .bool false] := by unfold TZ; kernel_rfl
theorem tz67 : TZ Try.prog 67 [.slice none 0 0, .int .i64 0, .int .i64 0, .int .i64 0, .slice none 0 0] := by unfold TZ; kernel_rfl
end Go.Proofs.Ytfjggobjijeniaa.A18
namespace Go.Proofs.Ytfjggobjijeniaa
open Go Go.RowKit Go.L A18
set_option maxRecDepth 8000 in
theorem laws_szIntS (L : (List Int)) (left : Int) (h0 : 0 ≤ left) (h1 : left ≤ 1048576) : FnC Try.prog 72 [A.sl 1 cInt L, A.int left] (A.int (neg1 (left - L.length))) := by
  refine Fn_of_W Try.func72 rfl rfl fun r w => ?_
  refine W_seq (W_region (WL_ac rfl ?_))
  refine WL_nil (Fin_then (W_seq (W_region (WL_mv rfl rfl ?_))))
  refine WL_mv rfl rfl ?_
  refine WL_len ts62 rfl rfl fun hl7 => ?_
  refine ws (O_sub (by omega)) ⟨T1 rfl, T1 rfl, trivial⟩ ?_
  refine WL_as rfl rfl ?_
  refine WL_nil (Fin_then (W_seq (W_seq (W_region (WL_mv rfl rfl ?_)))))
  refine ws O_lss ⟨T1 rfl, C1, trivial⟩ ?_
  refine WL_nil (Fin_then (W_cond rfl (fun h0 => ?_) (fun h0 => ?_)))
  · skip
    try simp only [bl] at h0
    refine W_seq (W_region (WL_ac rfl ?_))
    exact WL_nil (Fin_then (W_ret (Fin_then_ret (RetC rfl (Res1 rfl (RV.tmp rfl (Imp.int (by unfold neg1; (first | rw [if_pos (by omega)] | rw [if_neg (by omega)])))))))))
  try simp only [bl] at h0
  refine W_skip (Fin_then (W_seq (W_region (WL_mv rfl rfl ?_))))
  refine WL_as rfl rfl ?_
  exact WL_nil (Fin_then (W_ret (RetC rfl (Res1 rfl (RV.tmp rfl (Imp.int (by unfold neg1; (first | rw [if_pos (by omega)] | rw [if_neg (by omega)]))))))))
set_option maxRecDepth 8000 in
theorem laws_szHeap (t : Hp) (left : Int) (h0 : 0 ≤ left) (h1 : left ≤ 1048576) : FnC Try.prog 32 [A.agg (cHeap t), A.int left] (A.int (neg1 (left - bHeap t))) := by
  have hu : bHeap t = (t.words.length) + (t.log.length) := rfl
  refine Fn_of_W Try.func32 rfl rfl fun r w => ?_
  refine W_seq (W_region (ws O_boxg ⟨T1 rfl, trivial⟩ ?_))
  refine WL_ac rfl ?_
  refine WL_nil (Fin_then (W_seq (W_region (ws (O_field tf64_0) ⟨T1 rfl, trivial⟩ ?_))))
  refine ws (O_load ta62) ⟨T1 rfl, trivial⟩ ?_
  refine WL_mv rfl rfl ?_
  refine ws (O_call cf72 (laws_szIntS _ _ (by (first | omega | (unfold neg1 at *; grind))) (by (first | omega | (unfold neg1 at *; grind)))) rfl) ⟨T1 rfl, T1 rfl, trivial⟩ ?_
  refine WL_as rfl rfl ?_
  refine WL_nil (Fin_then (W_seq (W_seq (W_region (WL_mv rfl rfl ?_)))))
  refine ws O_lss ⟨T1 rfl, C1, trivial⟩ ?_
  refine WL_nil (Fin_then (W_cond rfl (fun h0 => ?_) (fun h0 => ?_)))
  · skip
    simp only [decide_eq_true_eq, decide_eq_false_iff_not] at h0; unfold neg1 at h0
    refine W_seq (W_region (WL_ac rfl ?_))
    exact WL_nil (Fin_then (W_ret (Fin_then_ret (RetC rfl (Res1 rfl (RV.tmp rfl (Imp.int (by unfold neg1 at *; grind))))))))
  simp only [decide_eq_true_eq, decide_eq_false_iff_not] at h0; unfold neg1 at h0
  refine W_skip (Fin_then (W_seq (W_region (ws (O_field tf64_4) ⟨T1 rfl, trivial⟩ ?_))))
  refine ws (O_load ta62) ⟨T1 rfl, trivial⟩ ?_
  refine WL_mv rfl rfl ?_
  refine ws (O_call cf72 (laws_szIntS _ _ (by (first | omega | (unfold neg1 at *; grind))) (by (first | omega | (unfold neg1 at *; grind)))) rfl) ⟨T1 rfl, T1 rfl, trivial⟩ ?_
  refine WL_as rfl rfl ?_
  refine WL_nil (Fin_then (W_seq (W_seq (W_region (WL_mv rfl rfl ?_)))))
  refine ws O_lss ⟨T1 rfl, C1, trivial⟩ ?_
  refine WL_nil (Fin_then (W_cond rfl (fun h1 => ?_) (fun h1 => ?_)))
  · skip
    simp only [decide_eq_true_eq, decide_eq_false_iff_not] at h1; unfold neg1 at h1
    refine W_seq (W_region (WL_ac rfl ?_))
    exact WL_nil (Fin_then (W_ret (Fin_then_ret (RetC rfl (Res1 rfl (RV.tmp rfl (Imp.int (by unfold neg1 at *; grind))))))))
  simp only [decide_eq_true_eq, decide_eq_false_iff_not] at h1; unfold neg1 at h1
  refine W_skip (Fin_then (W_seq (W_region (WL_mv rfl rfl ?_))))
  refine WL_as rfl rfl ?_
  exact WL_nil (Fin_then (W_ret (RetC rfl (Res1 rfl (RV.tmp rfl (Imp.int (by unfold neg1 at *; grind)))))))
set_option maxRecDepth 8000 in
theorem laws_toIntS (L : (List Int)) (hL : (L.length) ≤ 1048576) : FnN Try.prog 79 [A.sl 1 cInt L] (A.sl 1 cInt L) := by
  refine FnN_of_W Try.func79 rfl rfl fun r w => ?_
  refine W_seq (W_region (WL_ac rfl ?_))
  refine WL_nil (Fin_then (W_seq (W_region (WL_mv rfl rfl ?_))))
  refine WL_len ts62 rfl rfl fun hl6 => ?_
  refine WL_make tez62 rfl ⟨T1 rfl, T1 rfl, trivial⟩ (by omega) (by omega) (by omega) rfl fun b7 => ?_
  refine WL_as rfl rfl ?_
  refine WL_nil (Fin_then (W_seq (W_seq (W_region (WL_ac rfl ?_)))))
  refine WL_nil (Fin_then (W_block (W_loopp [0, 3] [0] [] [] (T := Nat) (fun k => k ≤ L.length) (fun k => [(4, true, A.int (k : Int))]) (fun k => { own := [(b7, 3, filled cInt [A.val (.int .i64 0)] L k)], rooms := [], maps := [] }) (fun k => L.length - k) 0 (Nat.zero_le _) ⟨⟨rfl, _, rfl, (by first | exact Imp.refl | exact Imp.slv | exact Imp.nil | exact Imp.int (by omega) | exact Imp.int (by simp; done) | exact Imp.bool (by simp_all; done))⟩, trivial⟩ (.cons (AllImp.eq filled_zero.symm) OSub.nil) rfl rfl rfl (fun k hx => ?_))))
  have hfl := filled_len (f := cInt) (z := [A.val (.int .i64 0)]) (k := 1) (L := L) (j := k) (fun _ => rfl) rfl (by omega)
  refine W_seq (W_seq (W_region (WL_mv rfl rfl ?_)))
  refine WL_mv rfl rfl ?_
  refine WL_len ts62 rfl rfl fun hl10 => ?_
  refine ws O_lss ⟨T1 rfl, T1 rfl, trivial⟩ ?_
  refine WL_nil (Fin_then (W_cond rfl (fun h0 => ?_) (fun h0 => ?_)))
  · skip
    try simp only [bl] at h0
    refine W_skip (Fin_then (W_seq (W_block (W_region (WL_mv rfl rfl ?_)))))
    refine WL_mv rfl rfl ?_
    refine WL_mv rfl rfl ?_
    refine WL_mv rfl rfl ?_
    refine ws (O_index ts62 (by omega)) ⟨T1 rfl, T1 rfl, trivial⟩ ?_
    refine ws (O_load ta3) ⟨T1 rfl, trivial⟩ ?_
    refine ws (O_indexo ts62 (by omega)) ⟨T1 rfl, T1 rfl, trivial⟩ ?_
    refine WL_store 0 rfl ⟨T1 rfl, T1 rfl, trivial⟩ (CellsOf.one OneV.int) sz3 (by rw [hfl]; (first | (show _ + 1 ≤ _; omega) | (simp; omega))) ?_
    refine WL_nil (Fin_block (Fin_then (W_region (WL_mv rfl rfl ?_))))
    refine ws (O_add (by omega)) ⟨T1 rfl, C1, trivial⟩ ?_
    refine WL_as rfl rfl ?_
    exact WL_nil (Fin_backp [0] (k + 1) (by omega) (by omega) ⟨⟨rfl, _, rfl, (by first | exact Imp.refl | exact Imp.slv | exact Imp.nil | exact Imp.int (by omega) | exact Imp.int (by simp; done) | exact Imp.bool (by simp_all; done))⟩, trivial⟩ ⟨rfl, rfl, trivial⟩ (.cons (AllImp.eq (filled_step (f := cInt) (z := [A.val (.int .i64 0)]) L k (fun _ => rfl) rfl (by omega)).symm) OSub.nil) rfl (List.Sublist.refl _) rfl)
  try simp only [bl] at h0
  refine W_exit (Fin_then_exit (Fin_then_exit (Fin_block_exit (Fin_then (W_seq (W_region (WL_freezeSl (k := 1) (L := L) (f := cInt) (f' := cInt) 0 r [] (List.Mem.head _) rfl 3 rfl (by rw [filled_all (by omega)]; simp) (by first | rfl | simp | omega) (by omega) (by simp only [maxLen]; omega) (fun _ => rfl) (fun _ => ⟨NwI.val, trivial⟩) ?_)))))))
  refine WL_mv rfl rfl ?_
  refine WL_as rfl rfl ?_
  exact WL_nil (Fin_then (W_ret (RetC rfl (Res1 rfl (RV.tmp rfl Imp.refl)))))
set_option maxRecDepth 8000 in
theorem laws_toHeap (t : Hp) (hL : (bHeap t) ≤ 1048576) : FnN Try.prog 34 [A.agg (cHeap t)] (A.agg (cHeap t)) := by
  have hu : bHeap t = (t.words.length) + (t.log.length) := rfl
  refine FnN_of_W Try.func34 rfl rfl fun r w => ?_
  refine W_seq (W_region (ws O_boxg ⟨T1 rfl, trivial⟩ ?_))
  refine WL_alloc tz67 rfl fun b2 => ?_
  refine WL_nil (Fin_then (W_seq (W_region (WL_alloc tz67 rfl fun b3 => ?_))))
  refine WL_nil (Fin_then (W_seq (W_region (ws (O_field tf64_0) ⟨T1 rfl, trivial⟩ ?_))))
  refine ws (O_load ta62) ⟨T1 rfl, trivial⟩ ?_
  refine ws (O_callN r (List.Mem.head _) cf79 (laws_toIntS _ (by omega)) rfl) ⟨T1 rfl, trivial⟩ ?_
  refine ws (O_fieldv tf67_0) ⟨T1 rfl, trivial⟩ ?_
  refine WL_store 0 rfl ⟨T1 rfl, T1 rfl, trivial⟩ (CellsOf.one (OneV.nw OneV.sl)) sz62 (Nat.le_of_ble_eq_true rfl) ?_
  refine WL_nil (Fin_then (W_seq (W_region (ws (O_field tf64_1) ⟨T1 rfl, trivial⟩ ?_))))
  refine ws (O_load ta3) ⟨T1 rfl, trivial⟩ ?_
  refine ws (O_fieldv tf67_1) ⟨T1 rfl, trivial⟩ ?_
  refine WL_store 0 rfl ⟨T1 rfl, T1 rfl, trivial⟩ (CellsOf.one OneV.int) sz3 (Nat.le_of_ble_eq_true rfl) ?_
  refine WL_nil (Fin_then (W_seq (W_region (ws (O_field tf64_2) ⟨T1 rfl, trivial⟩ ?_))))
  refine ws (O_load ta3) ⟨T1 rfl, trivial⟩ ?_
  refine ws (O_fieldv tf67_2) ⟨T1 rfl, trivial⟩ ?_
  refine WL_store 0 rfl ⟨T1 rfl, T1 rfl, trivial⟩ (CellsOf.one OneV.int) sz3 (Nat.le_of_ble_eq_true rfl) ?_
  refine WL_nil (Fin_then (W_seq (W_region (ws (O_field tf64_3) ⟨T1 rfl, trivial⟩ ?_))))
  refine ws (O_load ta3) ⟨T1 rfl, trivial⟩ ?_
  refine ws (O_fieldv tf67_3) ⟨T1 rfl, trivial⟩ ?_
  refine WL_store 0 rfl ⟨T1 rfl, T1 rfl, trivial⟩ (CellsOf.one OneV.int) sz3 (Nat.le_of_ble_eq_true rfl) ?_
  refine WL_nil (Fin_then (W_seq (W_region (ws (O_field tf64_4) ⟨T1 rfl, trivial⟩ ?_))))
  refine ws (O_load ta62) ⟨T1 rfl, trivial⟩ ?_
  refine ws (O_callN r (List.Mem.head _) cf79 (laws_toIntS _ (by omega)) rfl) ⟨T1 rfl, trivial⟩ ?_
  refine ws (O_fieldv tf67_4) ⟨T1 rfl, trivial⟩ ?_
  refine WL_store 0 rfl ⟨T1 rfl, T1 rfl, trivial⟩ (CellsOf.one (OneV.nw OneV.sl)) sz62 (Nat.le_of_ble_eq_true rfl) ?_
  refine WL_nil (Fin_then (W_seq (W_region (ws (O_loadog 0 tg67 rfl (Nat.le_of_ble_eq_true rfl)) ⟨T1 rfl, trivial⟩ ?_))))
  refine WL_store 1 rfl ⟨T1 rfl, T1 rfl, trivial⟩ (CellsOf.agg (by exact ⟨(OneV.nw OneV.sl), OneV.int, OneV.int, OneV.int, (OneV.nw OneV.sl), trivial⟩)) sz67 (Nat.le_of_ble_eq_true rfl) ?_
  exact WL_nil (Fin_then (W_ret (RetC rfl (Res1 rfl (RV.nw (List.Mem.head _) (RV.cellg 1 rfl tg67 rfl rfl Imp.refl) (NwI.agg ⟨NwI.nw, NwI.val, NwI.val, NwI.val, NwI.nw, trivial⟩))))))
set_option maxRecDepth 8000 in
theorem laws_eqHeap (t u : Hp) : FnC Try.prog 36 [A.agg (cHeap t), A.agg (cHeap u)] (A.bool (decide (t = u))) := by
  refine Fn_of_W Try.func36 rfl rfl fun r w => ?_
  refine W_seq (W_region (ws O_boxg ⟨T1 rfl, trivial⟩ ?_))
  refine ws O_boxg ⟨T1 rfl, trivial⟩ ?_
  refine WL_ac rfl ?_
  refine WL_nil (Fin_then (W_seq (W_seq (W_region (ws (O_field tf67_0) ⟨T1 rfl, trivial⟩ ?_)))))
  refine ws (O_load ta62) ⟨T1 rfl, trivial⟩ ?_
  refine ws (O_field tf67_0) ⟨T1 rfl, trivial⟩ ?_
  refine ws (O_load ta62) ⟨T1 rfl, trivial⟩ ?_
  refine ws (O_call cf81 (laws_eqIntS _ _) rfl) ⟨T1 rfl, T1 rfl, trivial⟩ ?_
  refine ws O_not ⟨T1 rfl, trivial⟩ ?_
  refine WL_nil (Fin_then (W_cond rfl (fun h0 => ?_) (fun h0 => ?_)))
  · skip
    try simp only [bl] at h0
    refine W_seq (W_region (WL_ac rfl ?_))
    exact WL_nil (Fin_then (W_ret (Fin_then_ret (RetC rfl (Res1 rfl (RV.tmp rfl (Imp.bool (by simp only [Hp.eqs]; grind))))))))
  try simp only [bl] at h0
  refine W_skip (Fin_then (W_seq (W_seq (W_region (ws (O_field tf67_1) ⟨T1 rfl, trivial⟩ ?_)))))
  refine ws (O_load ta3) ⟨T1 rfl, trivial⟩ ?_
  refine ws (O_field tf67_1) ⟨T1 rfl, trivial⟩ ?_
  refine ws (O_load ta3) ⟨T1 rfl, trivial⟩ ?_
  refine ws O_neq ⟨T1 rfl, T1 rfl, trivial⟩ ?_
  refine WL_nil (Fin_then (W_cond rfl (fun h1 => ?_) (fun h1 => ?_)))
  · skip
    try simp only [bl] at h1
    refine W_seq (W_region (WL_ac rfl ?_))
    exact WL_nil (Fin_then (W_ret (Fin_then_ret (RetC rfl (Res1 rfl (RV.tmp rfl (Imp.bool (by simp only [Hp.eqs]; grind))))))))
  try simp only [bl] at h1
  refine W_skip (Fin_then (W_seq (W_seq (W_region (ws (O_field tf67_2) ⟨T1 rfl, trivial⟩ ?_)))))
  refine ws (O_load ta3) ⟨T1 rfl, trivial⟩ ?_
  refine ws (O_field tf67_2) ⟨T1 rfl, trivial⟩ ?_
  refine ws (O_load ta3) ⟨T1 rfl, trivial⟩ ?_
  refine ws O_neq ⟨T1 rfl, T1 rfl, trivial⟩ ?_
  refine WL_nil (Fin_then (W_cond rfl (fun h2 => ?_) (fun h2 => ?_)))
  · skip
    try simp only [bl] at h2
    refine W_seq (W_region (WL_ac rfl ?_))
    exact WL_nil (Fin_then (W_ret (Fin_then_ret (RetC rfl (Res1 rfl (RV.tmp rfl (Imp.bool (by simp only [Hp.eqs]; grind))))))))
  try simp only [bl] at h2
  refine W_skip (Fin_then (W_seq (W_seq (W_region (ws (O_field tf67_3) ⟨T1 rfl, trivial⟩ ?_)))))
  refine ws (O_load ta3) ⟨T1 rfl, trivial⟩ ?_
  refine ws (O_field tf67_3) ⟨T1 rfl, trivial⟩ ?_
  refine ws (O_load ta3) ⟨T1 rfl, trivial⟩ ?_
  refine ws O_neq ⟨T1 rfl, T1 rfl, trivial⟩ ?_
  refine WL_nil (Fin_then (W_cond rfl (fun h3 => ?_) (fun h3 => ?_)))
  · skip
    try simp only [bl] at h3
    refine W_seq (W_region (WL_ac rfl ?_))
    exact WL_nil (Fin_then (W_ret (Fin_then_ret (RetC rfl (Res1 rfl (RV.tmp rfl (Imp.bool (by simp only [Hp.eqs]; grind))))))))
  try simp only [bl] at h3
  refine W_skip (Fin_then (W_seq (W_seq (W_region (ws (O_field tf67_4) ⟨T1 rfl, trivial⟩ ?_)))))
  refine ws (O_load ta62) ⟨T1 rfl, trivial⟩ ?_
  refine ws (O_field tf67_4) ⟨T1 rfl, trivial⟩ ?_
  refine ws (O_load ta62) ⟨T1 rfl, trivial⟩ ?_
  refine ws (O_call cf81 (laws_eqIntS _ _) rfl) ⟨T1 rfl, T1 rfl, trivial⟩ ?_
  refine ws O_not ⟨T1 rfl, trivial⟩ ?_
  refine WL_nil (Fin_then (W_cond rfl (fun h4 => ?_) (fun h4 => ?_)))
  · skip
    try simp only [bl] at h4
    refine W_seq (W_region (WL_ac rfl ?_))
    exact WL_nil (Fin_then (W_ret (Fin_then_ret (RetC rfl (Res1 rfl (RV.tmp rfl (Imp.bool (by simp only [Hp.eqs]; grind))))))))
  try simp only [bl] at h4
  refine W_skip (Fin_then (W_seq (W_region (WL_ac rfl ?_))))
  exact WL_nil (Fin_then (W_ret (RetC rfl (Res1 rfl (RV.tmp rfl (Imp.bool (by simp only [Hp.eqs]; grind)))))))
set_option maxRecDepth 8000 in
theorem spec_l5NumVal (n : Int) : FnC Try.prog 177 [A.int n] (A.agg (cVal ⟨1, n⟩)) := by
  refine Fn_of_W Try.func177 rfl rfl fun r w => ?_
  refine W_seq (W_region (WL_alloc tz35 rfl fun b2 => ?_))
  refine WL_nil (Fin_then (W_seq (W_region (WL_mv rfl rfl ?_))))
  refine ws (O_build [(_, _), (_, _)] tb35 rfl ⟨(CellsOf.one OneV.int), (CellsOf.one OneV.int), trivial⟩ rfl) ⟨C1, T1 rfl, trivial⟩ ?_
  refine WL_store 0 rfl ⟨T1 rfl, T1 rfl, trivial⟩ (CellsOf.agg (by exact ⟨OneV.int, OneV.int, trivial⟩)) sz35 (Nat.le_of_ble_eq_true rfl) ?_
  exact WL_nil (Fin_then (W_ret (RetC rfl (Res1 rfl (RV.cellg 0 rfl tg35 rfl rfl (by first | exact Imp.refl | exact Imp.slv | exact Imp.nil | exact Imp.int (by omega) | exact Imp.int (by simp; done) | exact Imp.bool (by simp_all; done)))))))
set_option maxRecDepth 8000 in
theorem spec_l7Many  : FnC Try.prog 168 [] (A.int 160) := by
  refine Fn_of_W Try.func168 rfl rfl fun r w => ?_
  refine W_seq (W_region (WL_ac rfl ?_))
  refine WL_nil (Fin_then (W_seq (W_region (WL_ac rfl ?_))))
  exact WL_nil (Fin_then (W_ret (RetC rfl (Res1 rfl (RV.tmp rfl (by first | exact Imp.refl | exact Imp.slv | exact Imp.nil | exact Imp.int (by omega) | exact Imp.int (by simp; done) | exact Imp.bool (by simp_all; done)))))))
set_option maxRecDepth 8000 in
theorem spec_l7Form (v : Vl) : FnC Try.prog 136 [A.agg (cVal v)] (A.bool (vform v 160)) := by
  refine Fn_of_W Try.func136 rfl rfl fun r w => ?_
  refine W_seq (W_region (ws O_boxg ⟨T1 rfl, trivial⟩ ?_))
  refine WL_ac rfl ?_
  refine WL_nil (Fin_then (W_seq (W_draw 3 mix rfl rfl ?_)))
  refine cs (O_loadgw tg35 rfl) ⟨T1 rfl, trivial⟩ ?_
  refine cs (O_call cf168 (spec_l7Many) rfl) trivial ?_
  refine cs (O_call cf52 (spec_l5Form _ _) rfl) ⟨T1 rfl, T1 rfl, trivial⟩ ?_
  refine Chain_nil ?_
  refine WL_as rfl rfl ?_
  exact WL_nil (Fin_then (W_ret (RetC rfl (Res1 rfl (RV.tmp rfl (by first | exact Imp.refl | exact Imp.slv | exact Imp.nil | exact Imp.int (by omega) | exact Imp.int (by simp; done) | exact Imp.bool (by simp_all; done)))))))
set_option maxRecDepth 8000 in
theorem spec_l6Find (L : List Int) (n : Int) : FnC Try.prog 125 [A.sl 1 cInt L, A.int n] (A.int (find L n)) := by
  refine Fn_of_W Try.func125 rfl rfl fun r w => ?_
  refine W_seq (W_region (WL_ac rfl ?_))
  refine WL_nil (Fin_then (W_seq (W_seq (W_region (WL_ac rfl ?_)))))
  refine WL_nil (Fin_then (W_block (W_loopk [0, 1] (T := Nat) (fun k => k ≤ L.length ∧ ∀ j : Nat, j < k → (fun x => decide (x = n)) (idx L (j : Int)) = false) (fun k => [(5, true, A.int (k : Int))]) (fun k => L.length - k) 0 ⟨Nat.zero_le _, fun j h => by omega⟩ ⟨⟨rfl, _, rfl, (by first | exact Imp.refl | exact Imp.slv | exact Imp.nil | exact Imp.int (by omega) | exact Imp.int (by simp; done) | exact Imp.bool (by simp_all; done))⟩, trivial⟩ (fun k hx => ?_))))
  have hk := hx.1
  refine W_seq (W_seq (W_region (WL_mv rfl rfl ?_)))
  refine WL_mv rfl rfl ?_
  refine WL_len ts62 rfl rfl fun hl8 => ?_
  refine ws O_lss ⟨T1 rfl, T1 rfl, trivial⟩ ?_
  refine WL_nil (Fin_then (W_cond rfl (fun h0 => ?_) (fun h0 => ?_)))
  · skip
    try simp only [bl] at h0
    refine W_skip (Fin_then (W_seq (W_block (W_seq (W_region (WL_mv rfl rfl ?_))))))
    refine WL_mv rfl rfl ?_
    refine ws (O_index ts62 (by omega)) ⟨T1 rfl, T1 rfl, trivial⟩ ?_
    refine ws (O_load ta3) ⟨T1 rfl, trivial⟩ ?_
    refine WL_mv rfl rfl ?_
    refine ws O_eql ⟨T1 rfl, T1 rfl, trivial⟩ ?_
    refine WL_nil (Fin_then (W_cond rfl (fun h1 => ?_) (fun h1 => ?_)))
    · skip
      try simp only [bl] at h1
      refine W_seq (W_region (WL_mv rfl rfl ?_))
      refine WL_as rfl rfl ?_
      exact WL_nil (Fin_then (W_ret (Fin_block_ret (Fin_then_ret (Fin_then_ret (Fin_block_ret (Fin_then_ret (RetC rfl (Res1 rfl (RV.tmp rfl (Imp.int (findI_some (p := fun x => decide (x = n)) (by omega) (by simpa using h1) hx.2).symm)))))))))))
    try simp only [bl] at h1
    refine W_skip (Fin_block (Fin_then (W_region (WL_mv rfl rfl ?_))))
    refine ws (O_add (by omega)) ⟨T1 rfl, C1, trivial⟩ ?_
    refine WL_as rfl rfl ?_
    exact WL_nil (Fin_back (k + 1) ⟨by omega, fun j hj => by rcases Nat.lt_or_ge j k with q | q; exact hx.2 j q; rw [show j = k from by omega]; simpa using h1⟩ (by omega) ⟨⟨rfl, _, rfl, (by first | exact Imp.refl | exact Imp.slv | exact Imp.nil | exact Imp.int (by omega) | exact Imp.int (by simp; done) | exact Imp.bool (by simp_all; done))⟩, trivial⟩ ⟨rfl, rfl, trivial⟩ rfl rfl)
  try simp only [bl] at h0
  refine W_exit (Fin_then_exit (Fin_then_exit (Fin_block_exit (Fin_then (W_seq (W_region (WL_ac rfl ?_)))))))
  exact WL_nil (Fin_then (W_ret (RetC rfl (Res1 rfl (RV.tmp rfl (Imp.int (findI_none (p := fun x => decide (x = n)) (fun j hj => hx.2 j (by omega))).symm))))))
set_option maxRecDepth 8000 in
theorem spec_l7Field (t : Ty) (i : Int) (h : (if t.kind = 2 then 0 else i) < t.fields.length) (h0 : 0 ≤ i) : FnC Try.prog 126 [A.agg (cTy t), A.int i] (A.agg (cFld (fldAt t i))) := by
  refine Fn_of_W Try.func126 rfl rfl fun r w => ?_
  refine W_seq (W_region (ws O_boxg ⟨T1 rfl, trivial⟩ ?_))
  refine WL_alloc tz37 rfl fun b4 => ?_
  refine WL_nil (Fin_then (W_seq (W_seq (W_region (ws (O_field tf145_0) ⟨T1 rfl, trivial⟩ ?_)))))
  refine ws (O_load ta3) ⟨T1 rfl, trivial⟩ ?_
  refine ws O_eql ⟨T1 rfl, C1, trivial⟩ ?_
  refine WL_nil (Fin_then (W_cond rfl (fun h0 => ?_) (fun h0 => ?_)))
  · skip
    try simp only [bl] at h0
    rw [if_pos (by assumption)] at h
    refine W_seq (W_region (ws (O_field tf145_3) ⟨T1 rfl, trivial⟩ ?_))
    refine ws (O_load ta50) ⟨T1 rfl, trivial⟩ ?_
    refine ws (O_index ts50 (by omega)) ⟨T1 rfl, C1, trivial⟩ ?_
    refine ws (O_loadgw tg37 rfl) ⟨T1 rfl, trivial⟩ ?_
    refine WL_store 0 rfl ⟨T1 rfl, T1 rfl, trivial⟩ (CellsOf.agg (by exact ⟨OneV.int, OneV.int, OneV.bool, trivial⟩)) sz37 (Nat.le_of_ble_eq_true rfl) ?_
    exact WL_nil (Fin_then (W_ret (Fin_then_ret (RetC rfl (Res1 rfl (RV.cellg 0 rfl tg37 rfl rfl (Imp.eq (by unfold fldAt; rw [if_pos (by assumption)]; rfl))))))))
  try simp only [bl] at h0
  rw [if_neg (by assumption)] at h
  refine W_skip (Fin_then (W_seq (W_region (ws (O_field tf145_3) ⟨T1 rfl, trivial⟩ ?_))))
  refine ws (O_load ta50) ⟨T1 rfl, trivial⟩ ?_
  refine WL_mv rfl rfl ?_
  refine ws (O_index ts50 (by omega)) ⟨T1 rfl, T1 rfl, trivial⟩ ?_
  refine ws (O_loadgw tg37 rfl) ⟨T1 rfl, trivial⟩ ?_
  refine WL_store 0 rfl ⟨T1 rfl, T1 rfl, trivial⟩ (CellsOf.agg (by exact ⟨OneV.int, OneV.int, OneV.bool, trivial⟩)) sz37 (Nat.le_of_ble_eq_true rfl) ?_
  exact WL_nil (Fin_then (W_ret (RetC rfl (Res1 rfl (RV.cellg 0 rfl tg37 rfl rfl (Imp.eq (by unfold fldAt; rw [if_neg (by assumption)]; rfl)))))))
set_option maxRecDepth 8000 in
theorem spec_l7Val (f : Fld) (wd : Int) (hw : inI wd) : FnC Try.prog 161 [A.agg (cFld f), A.int wd] (A.agg (cVal (wval f wd))) := by
  have hd := tdiv2_in hw
  refine Fn_of_W Try.func161 rfl rfl fun r w => ?_
  refine W_seq (W_region (ws O_boxg ⟨T1 rfl, trivial⟩ ?_))
  refine WL_alloc tz35 rfl fun b4 => ?_
  refine WL_nil (Fin_then (W_seq (W_block (W_seq (W_region (ws (O_field tf37_0) ⟨T1 rfl, trivial⟩ ?_))))))
  refine ws (O_load ta3) ⟨T1 rfl, trivial⟩ ?_
  refine ws O_eql ⟨T1 rfl, C1, trivial⟩ ?_
  refine WL_as rfl rfl ?_
  refine WL_nil (Fin_then (W_cond rfl (fun h0 => ?_) (fun h0 => ?_)))
  · skip
    try simp only [bl] at h0
    refine W_seq (W_region (WL_mv rfl rfl ?_))
    refine ws (O_call cf177 (spec_l5NumVal _) rfl) ⟨T1 rfl, trivial⟩ ?_
    refine WL_store 0 rfl ⟨T1 rfl, T1 rfl, trivial⟩ (CellsOf.agg (by exact ⟨OneV.int, OneV.int, trivial⟩)) sz35 (Nat.le_of_ble_eq_true rfl) ?_
    exact WL_nil (Fin_then (W_ret (Fin_block_ret (Fin_then_ret (RetC rfl (Res1 rfl (RV.cellg 0 rfl tg35 rfl rfl (Imp.eq (by unfold wval; rw [if_pos h0]; rfl)))))))))
  try simp only [bl] at h0
  refine W_seq (W_region (WL_mv rfl rfl ?_))
  refine ws O_eql ⟨T1 rfl, C1, trivial⟩ ?_
  refine WL_as rfl rfl ?_
  refine WL_nil (Fin_then (W_cond rfl (fun h1 => ?_) (fun h1 => ?_)))
  · skip
    try simp only [bl] at h1
    refine W_seq (W_region (ws (O_build [(_, _)] tb35 rfl ⟨(CellsOf.one OneV.int), trivial⟩ rfl) ⟨C1, trivial⟩ ?_))
    refine WL_store 0 rfl ⟨T1 rfl, T1 rfl, trivial⟩ (CellsOf.agg (by exact ⟨OneV.int, OneV.int, trivial⟩)) sz35 (Nat.le_of_ble_eq_true rfl) ?_
    exact WL_nil (Fin_then (W_ret (Fin_block_ret (Fin_then_ret (RetC rfl (Res1 rfl (RV.cellg 0 rfl tg35 rfl rfl (Imp.eq (by unfold wval; rw [if_neg h0, if_pos h1]; rfl)))))))))
  try simp only [bl] at h1
  refine W_seq (W_region (WL_mv rfl rfl ?_))
  refine ws (O_remt (by decide)) ⟨T1 rfl, C1, trivial⟩ ?_
  refine ws O_eql ⟨T1 rfl, C1, trivial⟩ ?_
  refine WL_as rfl rfl ?_
  refine WL_nil (Fin_then (W_cond rfl (fun h2 => ?_) (fun h2 => ?_)))
  · skip
    try simp only [bl] at h2
    refine W_seq (W_region (WL_mv rfl rfl ?_))
    refine ws (O_quot (by decide) hw) ⟨T1 rfl, C1, trivial⟩ ?_
    refine ws (O_build [(_, _), (_, _)] tb35 rfl ⟨(CellsOf.one OneV.int), (CellsOf.one OneV.int), trivial⟩ rfl) ⟨C1, T1 rfl, trivial⟩ ?_
    refine WL_store 0 rfl ⟨T1 rfl, T1 rfl, trivial⟩ (CellsOf.agg (by exact ⟨OneV.int, OneV.int, trivial⟩)) sz35 (Nat.le_of_ble_eq_true rfl) ?_
    exact WL_nil (Fin_then (W_ret (Fin_block_ret (Fin_then_ret (RetC rfl (Res1 rfl (RV.cellg 0 rfl tg35 rfl rfl (Imp.eq (by unfold wval; rw [if_neg h0, if_neg h1, if_pos h2]; rfl)))))))))
  try simp only [bl] at h2
  refine W_skip (Fin_block (Fin_then (W_seq (W_region (WL_mv rfl rfl ?_)))))
  refine ws (O_quot (by decide) hw) ⟨T1 rfl, C1, trivial⟩ ?_
  refine ws (O_sub (by (unfold inI at *; omega))) ⟨T1 rfl, C1, trivial⟩ ?_
  refine ws (O_build [(_, _), (_, _)] tb35 rfl ⟨(CellsOf.one OneV.int), (CellsOf.one OneV.int), trivial⟩ rfl) ⟨C1, T1 rfl, trivial⟩ ?_
  refine WL_store 0 rfl ⟨T1 rfl, T1 rfl, trivial⟩ (CellsOf.agg (by exact ⟨OneV.int, OneV.int, trivial⟩)) sz35 (Nat.le_of_ble_eq_true rfl) ?_
  exact WL_nil (Fin_then (W_ret (RetC rfl (Res1 rfl (RV.cellg 0 rfl tg35 rfl rfl (Imp.eq (by unfold wval; rw [if_neg h0, if_neg h1, if_neg h2]; rfl)))))))
set_option maxRecDepth 8000 in
theorem spec_WordVal (f : Fld) (wd : Int) (hw : inI wd) : FnC Try.prog 127 [A.agg (cFld f), A.int wd] (A.tup [A.agg (cVal (wordVal f wd).1), A.bool (wordVal f wd).2]) := by
  refine Fn_of_W Try.func127 rfl rfl fun r w => ?_
  refine W_seq (W_region (ws O_boxg ⟨T1 rfl, trivial⟩ ?_))
  refine WL_alloc tz35 rfl fun b4 => ?_
  refine WL_ac rfl ?_
  refine WL_nil (Fin_then (W_seq (W_region (ws (O_loadgw tg37 rfl) ⟨T1 rfl, trivial⟩ ?_))))
  refine WL_mv rfl rfl ?_
  refine ws (O_call cf161 (spec_l7Val _ _ (by assumption)) rfl) ⟨T1 rfl, T1 rfl, trivial⟩ ?_
  refine WL_alloc tz35 rfl fun b6 => ?_
  refine WL_store 0 rfl ⟨T1 rfl, T1 rfl, trivial⟩ (CellsOf.agg (by exact ⟨OneV.int, OneV.int, trivial⟩)) sz35 (Nat.le_of_ble_eq_true rfl) ?_
  refine WL_nil (Fin_then (W_seq (W_seq (W_region (ws (O_field tf37_0) ⟨T1 rfl, trivial⟩ ?_)))))
  refine ws (O_load ta3) ⟨T1 rfl, trivial⟩ ?_
  refine ws O_lss ⟨T1 rfl, C1, trivial⟩ ?_
  refine WL_mv rfl rfl ?_
  refine wf1 rfl rfl (fun hc => (O_field tf37_0)) ⟨tg rfl, trivial⟩ ?_
  refine wf1 rfl rfl (fun hc => (O_load ta3)) ⟨tg rfl, trivial⟩ ?_
  refine wf1 rfl rfl (fun hc => O_gtr) ⟨tg rfl, C1, trivial⟩ ?_
  refine ws O_or ⟨T1 rfl, tg rfl, trivial⟩ ?_
  refine WL_mv rfl rfl ?_
  refine wf1 rfl rfl (fun hc => O_move) ⟨tg rfl, trivial⟩ ?_
  refine wf1 rfl rfl (fun hc => O_lss) ⟨tg rfl, C1, trivial⟩ ?_
  refine ws O_or ⟨T1 rfl, tg rfl, trivial⟩ ?_
  refine WL_mv rfl rfl ?_
  refine wf1 rfl rfl (fun hc => (O_loadog 0 tg35 rfl (Nat.le_of_ble_eq_true rfl))) ⟨tg rfl, trivial⟩ ?_
  refine wf1 rfl rfl (fun hc => (O_call cf136 (spec_l7Form _) rfl)) ⟨tg rfl, trivial⟩ ?_
  refine wf1 rfl rfl (fun hc => O_not) ⟨tg rfl, trivial⟩ ?_
  refine ws O_or ⟨T1 rfl, tg rfl, trivial⟩ ?_
  refine WL_mv rfl rfl ?_
  refine wf1 rfl rfl (fun hc => (O_field tf37_0)) ⟨tg rfl, trivial⟩ ?_
  refine wf1 rfl rfl (fun hc => (O_load ta3)) ⟨tg rfl, trivial⟩ ?_
  refine wf1 rfl rfl (fun hc => O_eql) ⟨tg rfl, C1, trivial⟩ ?_
  refine wf1 rfl rfl (fun hc => O_move) ⟨tg rfl, trivial⟩ ?_
  refine wt rfl rfl (fun hc => (O_fieldv tf35_0)) ⟨tg rfl, trivial⟩ ?_
  refine wt rfl rfl (fun hc => (O_loado 0 ta3 rfl rfl)) ⟨tg rfl, trivial⟩ ?_
  refine wt rfl rfl (fun hc => O_eql) ⟨tg rfl, C1, trivial⟩ ?_
  refine wf1 rfl rfl (fun hc => O_and) ⟨tg rfl, tg rfl, trivial⟩ ?_
  refine ws O_or ⟨T1 rfl, tg rfl, trivial⟩ ?_
  refine WL_nil (Fin_then (W_cond rfl (fun h0 => ?_) (fun h0 => ?_)))
  · skip
    try simp only [bl] at h0
    refine W_seq (W_region (ws (O_build [] tb35 rfl trivial rfl) trivial ?_))
    refine WL_store 1 rfl ⟨T1 rfl, T1 rfl, trivial⟩ (CellsOf.agg (by exact ⟨OneV.int, OneV.int, trivial⟩)) sz35 (Nat.le_of_ble_eq_true rfl) ?_
    refine WL_ac rfl ?_
    exact WL_nil (Fin_then (W_ret (Fin_then_ret (RetC rfl (Res2 rfl (RV.cellg 1 rfl tg35 rfl rfl (Imp.eq (by unfold wordVal; rw [if_pos (by grind)]; rfl))) (RV.tmp rfl (Imp.bool (by unfold wordVal; rw [if_pos (by grind)]))))))))
  try simp only [bl] at h0
  refine W_skip (Fin_then (W_seq (W_region (ws (O_loadog 0 tg35 rfl (Nat.le_of_ble_eq_true rfl)) ⟨T1 rfl, trivial⟩ ?_))))
  refine WL_store 1 rfl ⟨T1 rfl, T1 rfl, trivial⟩ (CellsOf.agg (by exact ⟨OneV.int, OneV.int, trivial⟩)) sz35 (Nat.le_of_ble_eq_true rfl) ?_
  refine WL_ac rfl ?_
  exact WL_nil (Fin_then (W_ret (RetC rfl (Res2 rfl (RV.cellg 1 rfl tg35 rfl rfl (Imp.eq (by unfold wordVal; rw [if_neg (by grind)]; rfl))) (RV.tmp rfl (Imp.bool (by unfold wordVal; rw [if_neg (by grind)])))))))
set_option maxRecDepth 8000 in
theorem spec_l7Len (T : List Ty) (wd : Int) (hw : inI wd) : FnC Try.prog 160 [A.sl 4 cTy T, A.int wd] (A.int (hlen T wd)) := by
  have e1 : 0 ≤ wd → wd.tdiv 16 = wd / 16 := fun h => (tde h).1
  have e2 : 0 ≤ wd → wd.tmod 16 = wd % 16 := fun h => (tde h).2.1
  refine Fn_of_W Try.func160 rfl rfl fun r w => ?_
  refine W_seq (W_region (WL_ac rfl ?_))
  refine WL_nil (Fin_then (W_seq (W_region (WL_mv rfl rfl ?_))))
  refine ws (O_quot (by decide) hw) ⟨T1 rfl, C1, trivial⟩ ?_
  refine WL_as rfl rfl ?_
  refine WL_nil (Fin_then (W_seq (W_region (WL_mv rfl rfl ?_))))
  refine ws (O_remt (by decide)) ⟨T1 rfl, C1, trivial⟩ ?_
  refine WL_as rfl rfl ?_
  refine WL_nil (Fin_then (W_seq (W_seq (W_region (WL_mv rfl rfl ?_)))))
  refine ws O_lss ⟨T1 rfl, C1, trivial⟩ ?_
  refine WL_mv rfl rfl ?_
  refine wf1 rfl rfl (fun hc => O_move) ⟨tg rfl, trivial⟩ ?_
  refine wf1 rfl rfl (fun hc => O_move) ⟨tg rfl, trivial⟩ ?_
  refine wf1 rfl rfl (fun hc => (O_len ts82)) ⟨tg rfl, trivial⟩ ?_
  refine wf1 rfl rfl (fun hc => O_geq) ⟨tg rfl, tg rfl, trivial⟩ ?_
  refine ws O_or ⟨T1 rfl, tg rfl, trivial⟩ ?_
  refine WL_nil (Fin_then (W_cond rfl (fun h0 => ?_) (fun h0 => ?_)))
  · skip
    try simp only [bl] at h0
    refine W_seq (W_region (WL_ac rfl ?_))
    exact WL_nil (Fin_then (W_ret (Fin_then_ret (RetC rfl (Res1 rfl (RV.tmp rfl (Imp.int (by unfold hlen; rw [if_pos (by grind)]))))))))
  try simp only [bl] at h0
  have hw0 : 0 ≤ wd := by omega
  have e3 := e1 hw0
  have e4 := e2 hw0
  refine W_skip (Fin_then (W_seq (W_seq (W_region (WL_mv rfl rfl ?_)))))
  refine WL_mv rfl rfl ?_
  refine ws (O_index ts82 (by omega)) ⟨T1 rfl, T1 rfl, trivial⟩ ?_
  refine ws (O_field tf145_0) ⟨T1 rfl, trivial⟩ ?_
  refine ws (O_load ta3) ⟨T1 rfl, trivial⟩ ?_
  refine ws O_eql ⟨T1 rfl, C1, trivial⟩ ?_
  refine WL_mv rfl rfl ?_
  refine wt1 rfl rfl (fun hc => O_move) ⟨tg rfl, trivial⟩ ?_
  refine wt1 rfl rfl (fun hc => O_move) ⟨tg rfl, trivial⟩ ?_
  refine wt1 rfl rfl (fun hc => O_move) ⟨tg rfl, trivial⟩ ?_
  refine wt1 rfl rfl (fun hc => (O_index ts82 (by (try simp only [bl] at hc); omega))) ⟨tg rfl, tg rfl, trivial⟩ ?_
  refine wt1 rfl rfl (fun hc => (O_field tf145_3)) ⟨tg rfl, trivial⟩ ?_
  refine wt1 rfl rfl (fun hc => (O_load ta50)) ⟨tg rfl, trivial⟩ ?_
  refine wt1 rfl rfl (fun hc => (O_len ts50)) ⟨tg rfl, trivial⟩ ?_
  refine wt1 rfl rfl (fun hc => O_neq) ⟨tg rfl, tg rfl, trivial⟩ ?_
  refine ws O_and ⟨T1 rfl, tg rfl, trivial⟩ ?_
  refine WL_mv rfl rfl ?_
  refine wf1 rfl rfl (fun hc => O_move) ⟨tg rfl, trivial⟩ ?_
  refine wf1 rfl rfl (fun hc => O_gtr) ⟨tg rfl, C1, trivial⟩ ?_
  refine ws O_or ⟨T1 rfl, tg rfl, trivial⟩ ?_
  refine WL_nil (Fin_then (W_cond rfl (fun h1 => ?_) (fun h1 => ?_)))
  · skip
    try simp only [bl] at h1
    refine W_seq (W_region (WL_ac rfl ?_))
    exact WL_nil (Fin_then (W_ret (Fin_then_ret (RetC rfl (Res1 rfl (RV.tmp rfl (Imp.int (by unfold hlen; rw [if_neg (by omega), if_pos (by grind)]))))))))
  try simp only [bl] at h1
  refine W_skip (Fin_then (W_seq (W_region (WL_mv rfl rfl ?_))))
  refine WL_as rfl rfl ?_
  exact WL_nil (Fin_then (W_ret (RetC rfl (Res1 rfl (RV.tmp rfl (Imp.int (by unfold hlen; rw [if_neg (by omega), if_neg (by grind)]; omega)))))))
set_option maxRecDepth 8000 in
theorem spec_l7Part (T : List Ty) (h : Hp) (hW : WOk h.words) (a b : Int) (h0 : 0 ≤ a) (hb : b ≤ h.words.length) (hl : h.words.length ≤ 1048576) : FnX Try.prog 123 {} [A.sl 4 cTy T, A.agg (cHeap h), A.int a, A.int b] (fun v : Value => A.tup [A.slv v 1 cInt (hpart T h.words a b).1, A.bool (hpart T h.words a b).2]) (fun v : Value => { rooms := [(v, 3, 1)] }) := by
  refine FnX_of_W Try.func123 rfl rfl fun r w => ?_
  refine W_seq (W_region (ws O_boxg ⟨T1 rfl, trivial⟩ ?_))
  refine WL_ac rfl ?_
  refine WL_ac rfl ?_
  refine WL_nil (Fin_then (W_seq (W_region (WL_slice0r cInt te62 rfl fun v12 => ?_))))
  refine WL_as rfl rfl ?_
  refine WL_nil (Fin_then (W_seq (W_block (W_loopp [0, 3, 5] [] [0] [] (T := Int × List Int × Value) (fun x => a ≤ x.1 ∧ hpart T h.words a b = (x.2.1 ++ (hpart T h.words x.1 b).1, (hpart T h.words x.1 b).2) ∧ (x.2.1.length : Int) ≤ x.1 - a) (fun x => [(2, true, A.int x.1), (10, true, A.slv x.2.2 1 cInt x.2.1)]) (fun x => { own := [], rooms := [(x.2.2, 3, 1)], maps := [] }) (fun x => (b - x.1).toNat) (a, [], v12) ⟨Int.le_refl _, rfl, by simp⟩ ⟨⟨rfl, _, rfl, (by first | exact Imp.refl | exact Imp.slv | exact Imp.nil | exact Imp.int (by omega) | exact Imp.int (by simp; done) | exact Imp.bool (by simp_all; done))⟩, ⟨rfl, _, rfl, (by first | exact Imp.refl | exact Imp.slv | exact Imp.nil | exact Imp.int (by omega) | exact Imp.int (by simp; done) | exact Imp.bool (by simp_all; done))⟩, trivial⟩ OSub.nil rfl rfl rfl (fun x hx => ?_)))))
  obtain ⟨hx1, hx2, hx3⟩ := hx
  have hlr := hlen_rng T (idx h.words x.1)
  have hwr := hW.at x.1
  refine W_seq (W_seq (W_region (WL_mv rfl rfl ?_)))
  refine WL_mv rfl rfl ?_
  refine ws O_lss ⟨T1 rfl, T1 rfl, trivial⟩ ?_
  refine WL_nil (Fin_then (W_cond rfl (fun h0 => ?_) (fun h0 => ?_)))
  · skip
    try simp only [bl] at h0
    refine W_skip (Fin_then (W_block (W_seq (W_region (WL_mv rfl rfl ?_)))))
    refine ws (O_field tf67_0) ⟨T1 rfl, trivial⟩ ?_
    refine ws (O_load ta62) ⟨T1 rfl, trivial⟩ ?_
    refine WL_mv rfl rfl ?_
    refine ws (O_index ts62 (by omega)) ⟨T1 rfl, T1 rfl, trivial⟩ ?_
    refine ws (O_load ta3) ⟨T1 rfl, trivial⟩ ?_
    refine ws (O_call cf160 (spec_l7Len _ _ (by assumption)) rfl) ⟨T1 rfl, T1 rfl, trivial⟩ ?_
    refine WL_as rfl rfl ?_
    refine WL_nil (Fin_then (W_seq (W_seq (W_region (WL_mv rfl rfl ?_)))))
    refine ws O_lss ⟨T1 rfl, C1, trivial⟩ ?_
    refine WL_mv rfl rfl ?_
    refine wf1 rfl rfl (fun hc => O_move) ⟨tg rfl, trivial⟩ ?_
    refine wf1 rfl rfl (fun hc => (O_add (by (try simp only [bl] at hc); omega))) ⟨tg rfl, C1, trivial⟩ ?_
    refine wf1 rfl rfl (fun hc => O_move) ⟨tg rfl, trivial⟩ ?_
    refine wf1 rfl rfl (fun hc => (O_add (by (try simp only [bl] at hc); omega))) ⟨tg rfl, tg rfl, trivial⟩ ?_
    refine wf1 rfl rfl (fun hc => O_move) ⟨tg rfl, trivial⟩ ?_
    refine wf1 rfl rfl (fun hc => O_gtr) ⟨tg rfl, tg rfl, trivial⟩ ?_
    refine ws O_or ⟨T1 rfl, tg rfl, trivial⟩ ?_
    refine WL_nil (Fin_then (W_cond rfl (fun h1 => ?_) (fun h1 => ?_)))
    · skip
      try simp only [bl] at h1
      refine W_seq (W_region (WL_mv rfl rfl ?_))
      refine WL_as rfl rfl ?_
      refine WL_ac rfl ?_
      refine WL_nil (Fin_then (W_ret (Fin_then_ret (Fin_block_ret (Fin_then_ret (Fin_block_ret (Fin_then_ret ?_)))))))
      rw [hpart_bad (a := x.1) (b := b) (by omega) (by omega)] at hx2
      exact RetXs [] x.2.2 rfl (Res2 rfl (RV.tmp rfl (Imp.eq (by rw [hx2]; simp))) (RV.tmp rfl (Imp.bool (by rw [hx2])))) OSub.refl rfl (List.Sublist.refl _) (List.Sublist.refl _)
    try simp only [bl] at h1
    refine W_skip (Fin_then (W_seq (W_region (WL_mv rfl rfl ?_))))
    refine WL_mv rfl rfl ?_
    refine ws (O_slice1 (f := cInt) _ te62 rfl rfl (CellsOf.one OneV.int) AllImp.refl) ⟨T1 rfl, trivial⟩ ?_
    refine WL_append 0 _ te62 ⟨T1 rfl, T1 rfl, trivial⟩ rfl (by decide) (fun _ => rfl) (fun _ => rfl) (fun _ => ⟨OneV.int, trivial⟩) rfl (by (try simp only [List.length_cons, List.length_nil]); (first | done | omega)) (by simp only [maxLen, List.length_cons, List.length_nil]; omega) rfl fun v37 => ?_
    refine WL_as rfl rfl ?_
    refine WL_nil (Fin_then (W_region (WL_mv rfl rfl ?_)))
    refine ws (O_add (by omega)) ⟨T1 rfl, C1, trivial⟩ ?_
    refine WL_mv rfl rfl ?_
    refine ws (O_add (by omega)) ⟨T1 rfl, T1 rfl, trivial⟩ ?_
    refine WL_as rfl rfl ?_
    refine WL_nil (Fin_block ?_)
    rw [hpart_step (a := x.1) (b := b) (by omega) (by omega)] at hx2
    exact Fin_backp [] (x.1 + 1 + hlen T (idx h.words x.1), x.2.1 ++ [x.1], v37) ⟨by simp only; omega, by rw [hx2]; simp, by simp only [List.length_append, List.length_cons, List.length_nil]; omega⟩ (by simp only; omega) ⟨⟨rfl, _, rfl, (by first | exact Imp.refl | exact Imp.int (by simp only))⟩, ⟨rfl, _, rfl, (by first | exact Imp.refl | exact Imp.int (by simp only))⟩, trivial⟩ ⟨rfl, rfl, rfl, trivial⟩ OSub.nil rfl (List.Sublist.refl _) rfl
  try simp only [bl] at h0
  refine W_exit (Fin_then_exit (Fin_then_exit (Fin_block_exit (Fin_then (W_seq (W_region (WL_mv rfl rfl ?_)))))))
  refine WL_as rfl rfl ?_
  refine WL_ac rfl ?_
  refine WL_nil (Fin_then (W_ret ?_))
  rw [hpart_end (a := x.1) (b := b) (by omega)] at hx2
  exact RetXs [] x.2.2 rfl (Res2 rfl (RV.tmp rfl (Imp.eq (by rw [hx2]; simp))) (RV.tmp rfl (Imp.bool (by rw [hx2])))) OSub.refl rfl (List.Sublist.refl _) (List.Sublist.refl _)
set_option maxRecDepth 8000 in
theorem spec_l7Size (h : Hp) (ho : inI h.old) (hl : h.words.length ≤ 1048576) : FnC Try.prog 73 [A.agg (cHeap h)] (A.bool (hsize h)) := by
  refine Fn_of_W Try.func73 rfl rfl fun r w => ?_
  refine W_seq (W_region (ws O_boxg ⟨T1 rfl, trivial⟩ ?_))
  refine WL_ac rfl ?_
  refine WL_nil (Fin_then (W_seq (W_region (ws (O_field tf67_0) ⟨T1 rfl, trivial⟩ ?_))))
  refine ws (O_load ta62) ⟨T1 rfl, trivial⟩ ?_
  refine WL_len ts62 rfl rfl fun hl6 => ?_
  refine ws (O_field tf67_1) ⟨T1 rfl, trivial⟩ ?_
  refine ws (O_load ta3) ⟨T1 rfl, trivial⟩ ?_
  refine ws O_subw ⟨T1 rfl, T1 rfl, trivial⟩ ?_
  refine WL_as rfl rfl ?_
  refine WL_nil (Fin_then (W_seq (W_region (ws (O_field tf67_1) ⟨T1 rfl, trivial⟩ ?_))))
  refine ws (O_load ta3) ⟨T1 rfl, trivial⟩ ?_
  refine ws O_geq ⟨T1 rfl, C1, trivial⟩ ?_
  refine WL_mv rfl rfl ?_
  refine wt1 rfl rfl (fun hc => (O_field tf67_1)) ⟨tg rfl, trivial⟩ ?_
  refine wt1 rfl rfl (fun hc => (O_load ta3)) ⟨tg rfl, trivial⟩ ?_
  refine wt1 rfl rfl (fun hc => O_leq) ⟨tg rfl, C1, trivial⟩ ?_
  refine ws O_and ⟨T1 rfl, tg rfl, trivial⟩ ?_
  refine WL_mv rfl rfl ?_
  refine wt1 rfl rfl (fun hc => O_move) ⟨tg rfl, trivial⟩ ?_
  refine wt1 rfl rfl (fun hc => O_geq) ⟨tg rfl, C1, trivial⟩ ?_
  refine ws O_and ⟨T1 rfl, tg rfl, trivial⟩ ?_
  refine WL_mv rfl rfl ?_
  refine wt1 rfl rfl (fun hc => O_move) ⟨tg rfl, trivial⟩ ?_
  refine wt1 rfl rfl (fun hc => O_leq) ⟨tg rfl, C1, trivial⟩ ?_
  refine ws O_and ⟨T1 rfl, tg rfl, trivial⟩ ?_
  refine WL_mv rfl rfl ?_
  refine wt1 rfl rfl (fun hc => (O_field tf67_2)) ⟨tg rfl, trivial⟩ ?_
  refine wt1 rfl rfl (fun hc => (O_load ta3)) ⟨tg rfl, trivial⟩ ?_
  refine wt1 rfl rfl (fun hc => O_geq) ⟨tg rfl, C1, trivial⟩ ?_
  refine ws O_and ⟨T1 rfl, tg rfl, trivial⟩ ?_
  refine WL_mv rfl rfl ?_
  refine wt1 rfl rfl (fun hc => (O_field tf67_2)) ⟨tg rfl, trivial⟩ ?_
  refine wt1 rfl rfl (fun hc => (O_load ta3)) ⟨tg rfl, trivial⟩ ?_
  refine wt1 rfl rfl (fun hc => (O_field tf67_1)) ⟨tg rfl, trivial⟩ ?_
  refine wt1 rfl rfl (fun hc => (O_load ta3)) ⟨tg rfl, trivial⟩ ?_
  refine wt1 rfl rfl (fun hc => O_leq) ⟨tg rfl, tg rfl, trivial⟩ ?_
  refine ws O_and ⟨T1 rfl, tg rfl, trivial⟩ ?_
  refine WL_mv rfl rfl ?_
  refine wt1 rfl rfl (fun hc => (O_field tf67_3)) ⟨tg rfl, trivial⟩ ?_
  refine wt1 rfl rfl (fun hc => (O_load ta3)) ⟨tg rfl, trivial⟩ ?_
  refine wt1 rfl rfl (fun hc => O_geq) ⟨tg rfl, C1, trivial⟩ ?_
  refine ws O_and ⟨T1 rfl, tg rfl, trivial⟩ ?_
  refine WL_mv rfl rfl ?_
  refine wt1 rfl rfl (fun hc => (O_field tf67_3)) ⟨tg rfl, trivial⟩ ?_
  refine wt1 rfl rfl (fun hc => (O_load ta3)) ⟨tg rfl, trivial⟩ ?_
  refine wt1 rfl rfl (fun hc => O_move) ⟨tg rfl, trivial⟩ ?_
  refine wt1 rfl rfl (fun hc => O_leq) ⟨tg rfl, tg rfl, trivial⟩ ?_
  refine ws O_and ⟨T1 rfl, tg rfl, trivial⟩ ?_
  refine WL_as rfl rfl ?_
  exact WL_nil (Fin_then (W_ret (RetC rfl (Res1 rfl (RV.tmp rfl (Imp.bool (by unfold hsize; by_cases q : 1 ≤ h.old; (rw [wrap_in (show inI ((h.words.length : Int) - h.old) from by unfold inI at *; omega)]); (simp [q]))))))))
set_option maxRecDepth 8000 in
theorem spec_l7Zero (h : Hp) (hs : hsize h = true) (hl : h.words.length ≤ 1048576) : FnC Try.prog 74 [A.agg (cHeap h)] (A.bool (hzero h)) := by
  have hu := hsize_use hs
  refine Fn_of_W Try.func74 rfl rfl fun r w => ?_
  refine W_seq (W_region (ws O_boxg ⟨T1 rfl, trivial⟩ ?_))
  refine WL_ac rfl ?_
  refine WL_nil (Fin_then (W_seq (W_seq (W_region (WL_ac rfl ?_)))))
  refine WL_nil (Fin_then (W_block (W_loopk [1] (T := Nat) (fun k => k ≤ h.words.length ∧ ∀ j, j < k → (fun i => decide (idx h.words (i : Int) = 0) || !((decide (h.oldAt ≤ i) && decide ((i : Int) < h.old)) || decide (h.old + h.youngAt ≤ i))) j = true) (fun k => [(3, true, A.int (k : Int))]) (fun k => h.words.length - k) 0 ⟨Nat.zero_le _, allN_zero⟩ ⟨⟨rfl, _, rfl, (by first | exact Imp.refl | exact Imp.slv | exact Imp.nil | exact Imp.int (by omega) | exact Imp.int (by simp; done) | exact Imp.bool (by simp_all; done))⟩, trivial⟩ (fun k hx => ?_))))
  have hk := hx.1
  have hj := hx.2
  refine W_seq (W_seq (W_region (WL_mv rfl rfl ?_)))
  refine ws (O_field tf67_0) ⟨T1 rfl, trivial⟩ ?_
  refine ws (O_load ta62) ⟨T1 rfl, trivial⟩ ?_
  refine WL_len ts62 rfl rfl fun hl7 => ?_
  refine ws O_lss ⟨T1 rfl, T1 rfl, trivial⟩ ?_
  refine WL_nil (Fin_then (W_cond rfl (fun h0 => ?_) (fun h0 => ?_)))
  · skip
    try simp only [bl] at h0
    refine W_skip (Fin_then (W_seq (W_block (W_seq (W_region (ws (O_field tf67_0) ⟨T1 rfl, trivial⟩ ?_))))))
    refine ws (O_load ta62) ⟨T1 rfl, trivial⟩ ?_
    refine WL_mv rfl rfl ?_
    refine ws (O_index ts62 (by omega)) ⟨T1 rfl, T1 rfl, trivial⟩ ?_
    refine ws (O_load ta3) ⟨T1 rfl, trivial⟩ ?_
    refine ws O_neq ⟨T1 rfl, C1, trivial⟩ ?_
    refine WL_mv rfl rfl ?_
    refine wt1 rfl rfl (fun hc => O_move) ⟨tg rfl, trivial⟩ ?_
    refine wt1 rfl rfl (fun hc => (O_field tf67_2)) ⟨tg rfl, trivial⟩ ?_
    refine wt1 rfl rfl (fun hc => (O_load ta3)) ⟨tg rfl, trivial⟩ ?_
    refine wt1 rfl rfl (fun hc => O_geq) ⟨tg rfl, tg rfl, trivial⟩ ?_
    refine wt1 rfl rfl (fun hc => O_move) ⟨tg rfl, trivial⟩ ?_
    refine wt rfl rfl (fun hc => O_move) ⟨tg rfl, trivial⟩ ?_
    refine wt rfl rfl (fun hc => (O_field tf67_1)) ⟨tg rfl, trivial⟩ ?_
    refine wt rfl rfl (fun hc => (O_load ta3)) ⟨tg rfl, trivial⟩ ?_
    refine wt rfl rfl (fun hc => O_lss) ⟨tg rfl, tg rfl, trivial⟩ ?_
    refine wt1 rfl rfl (fun hc => O_and) ⟨tg rfl, tg rfl, trivial⟩ ?_
    refine wt1 rfl rfl (fun hc => O_move) ⟨tg rfl, trivial⟩ ?_
    refine wf rfl rfl (fun hc => O_move) ⟨tg rfl, trivial⟩ ?_
    refine wf rfl rfl (fun hc => (O_field tf67_1)) ⟨tg rfl, trivial⟩ ?_
    refine wf rfl rfl (fun hc => (O_load ta3)) ⟨tg rfl, trivial⟩ ?_
    refine wf rfl rfl (fun hc => (O_field tf67_3)) ⟨tg rfl, trivial⟩ ?_
    refine wf rfl rfl (fun hc => (O_load ta3)) ⟨tg rfl, trivial⟩ ?_
    refine wf rfl rfl (fun hc => (O_add (by (try simp only [bl] at hc); omega))) ⟨tg rfl, tg rfl, trivial⟩ ?_
    refine wf rfl rfl (fun hc => O_geq) ⟨tg rfl, tg rfl, trivial⟩ ?_
    refine wt1 rfl rfl (fun hc => O_or) ⟨tg rfl, tg rfl, trivial⟩ ?_
    refine ws O_and ⟨T1 rfl, tg rfl, trivial⟩ ?_
    refine WL_nil (Fin_then (W_cond rfl (fun h1 => ?_) (fun h1 => ?_)))
    · skip
      try simp only [bl] at h1
      refine W_seq (W_region (WL_ac rfl ?_))
      exact WL_nil (Fin_then (W_ret (Fin_block_ret (Fin_then_ret (Fin_then_ret (Fin_block_ret (Fin_then_ret (RetC rfl (Res1 rfl (RV.tmp rfl (Imp.bool (by unfold hzero; rw [allN_false k (by omega) (by grind)]))))))))))))
    try simp only [bl] at h1
    refine W_skip (Fin_block (Fin_then (W_region (WL_mv rfl rfl ?_))))
    refine ws (O_add (by omega)) ⟨T1 rfl, C1, trivial⟩ ?_
    refine WL_as rfl rfl ?_
    exact WL_nil (Fin_back (k + 1) ⟨by omega, allN_succ hj (by grind)⟩ (by omega) ⟨⟨rfl, _, rfl, (by first | exact Imp.refl | exact Imp.slv | exact Imp.nil | exact Imp.int (by omega) | exact Imp.int (by simp; done) | exact Imp.bool (by simp_all; done))⟩, trivial⟩ ⟨rfl, trivial⟩ rfl rfl)
  try simp only [bl] at h0
  refine W_exit (Fin_then_exit (Fin_then_exit (Fin_block_exit (Fin_then (W_seq (W_region (WL_ac rfl ?_)))))))
  exact WL_nil (Fin_then (W_ret (RetC rfl (Res1 rfl (RV.tmp rfl (Imp.bool (by unfold hzero; rw [allN_true (fun j q => hj j (by omega))])))))))
set_option maxRecDepth 8000 in
theorem spec_l7Things (T : List Ty) (h : Hp) (hs : hsize h = true) (hW : WOk h.words) (hl : h.words.length ≤ 1048576) : FnC Try.prog 76 [A.sl 4 cTy T, A.agg (cHeap h)] (A.tup [A.sl 1 cInt (hthings T h).1, A.bool (hthings T h).2]) := by
  have hu := hsize_use hs
  have hl1 := hpart_len (T := T) (W := h.words) (b := h.oldAt) _ 0 (Nat.le_refl _)
  have hl2 := hpart_len (T := T) (W := h.words) (b := h.old + h.youngAt) _ h.old (Nat.le_refl _)
  refine Fn_of_W Try.func76 rfl rfl fun r w => ?_
  refine W_seq (W_region (ws O_boxg ⟨T1 rfl, trivial⟩ ?_))
  refine WL_ac rfl ?_
  refine WL_ac rfl ?_
  refine WL_nil (Fin_then (W_seq (W_region (WL_mv rfl rfl ?_))))
  refine ws (O_loadgw tg67 rfl) ⟨T1 rfl, trivial⟩ ?_
  refine ws (O_field tf67_2) ⟨T1 rfl, trivial⟩ ?_
  refine ws (O_load ta3) ⟨T1 rfl, trivial⟩ ?_
  refine WL_callX [] [] [] cf123 (spec_l7Part _ _ (by assumption) _ _ (by omega) (by omega) (by omega)) rfl ⟨T1 rfl, T1 rfl, C1, T1 rfl, trivial⟩ OSub.nil rfl rfl rfl rfl fun x15 => ?_
  refine WL_mv rfl rfl ?_
  refine ws (O_extract rfl) ⟨T1 rfl, trivial⟩ ?_
  refine ws (O_extract rfl) ⟨T1 rfl, trivial⟩ ?_
  refine WL_as rfl rfl ?_
  refine WL_as rfl rfl ?_
  refine WL_nil (Fin_then (W_seq (W_region (WL_mv rfl rfl ?_))))
  refine ws (O_loadgw tg67 rfl) ⟨T1 rfl, trivial⟩ ?_
  refine ws (O_field tf67_1) ⟨T1 rfl, trivial⟩ ?_
  refine ws (O_load ta3) ⟨T1 rfl, trivial⟩ ?_
  refine ws (O_field tf67_1) ⟨T1 rfl, trivial⟩ ?_
  refine ws (O_load ta3) ⟨T1 rfl, trivial⟩ ?_
  refine ws (O_field tf67_3) ⟨T1 rfl, trivial⟩ ?_
  refine ws (O_load ta3) ⟨T1 rfl, trivial⟩ ?_
  refine ws (O_add (by omega)) ⟨T1 rfl, T1 rfl, trivial⟩ ?_
  refine WL_callX [] [] [] cf123 (spec_l7Part _ _ (by assumption) _ _ (by omega) (by omega) (by omega)) rfl ⟨T1 rfl, T1 rfl, T1 rfl, T1 rfl, trivial⟩ OSub.nil rfl rfl rfl rfl fun x28 => ?_
  refine WL_mv rfl rfl ?_
  refine ws (O_extract rfl) ⟨T1 rfl, trivial⟩ ?_
  refine ws (O_extract rfl) ⟨T1 rfl, trivial⟩ ?_
  refine WL_as rfl rfl ?_
  refine WL_as rfl rfl ?_
  refine WL_nil (Fin_then (W_seq (W_region (WL_mv rfl rfl ?_))))
  refine WL_mv rfl rfl ?_
  refine WL_imp 32 rfl Imp.slv ?_
  refine WL_append 1 _ te62 ⟨T1 rfl, T1 rfl, trivial⟩ rfl (by decide) (fun _ => rfl) (fun _ => rfl) (fun _ => ⟨OneV.int, trivial⟩) rfl (by omega) (by simp only [maxLen]; omega) rfl fun v33 => ?_
  refine WL_mv rfl rfl ?_
  refine WL_mv rfl rfl ?_
  refine wt1 rfl rfl (fun hc => O_move) ⟨tg rfl, trivial⟩ ?_
  refine ws O_and ⟨T1 rfl, tg rfl, trivial⟩ ?_
  refine WL_as rfl rfl ?_
  refine WL_as rfl rfl ?_
  exact WL_nil (Fin_then (W_ret (RetC rfl (Res2 rfl (RV.tmp rfl Imp.slv) (RV.tmp rfl (Imp.bool rfl))))))
set_option maxRecDepth 8000 in
theorem spec_l7Fits (G : Kin) (hG : Small G) (hk : kinOk G = true) (h : Hp) (hW : WOk h.words) (S : List Int) (hS : ∀ s ∈ S, AtOk G.flatten h.words s) (v : Vl) (f : Fld) (hf : fieldOk f (kcnt G) = true) : FnC Try.prog 82 [A.sl 1 cGrp G, A.agg (cHeap h), A.sl 1 cInt S, A.agg (cVal v), A.agg (cFld f)] (A.bool (hfits G h S v f)) := by
  have hr := fieldOk_rng hf
  have hp := kparts_ok (kinOk_parts hk)
  have hc0 := kcnt_nonneg G
  have hS3 : 0 ≤ find S v.n → 0 ≤ v.n ∧ v.n < h.words.length ∧ 0 ≤ idx h.words v.n ∧ idx h.words v.n / 16 < kcnt G := fun q => by have := (hS _ (find_mem.1 q)).use; unfold kcnt; omega
  have hwr := hW.at v.n
  refine Fn_of_W Try.func82 rfl rfl fun r w => ?_
  refine W_seq (W_region (ws O_boxg ⟨T1 rfl, trivial⟩ ?_))
  refine ws O_boxg ⟨T1 rfl, trivial⟩ ?_
  refine ws O_boxg ⟨T1 rfl, trivial⟩ ?_
  refine WL_ac rfl ?_
  refine WL_nil (Fin_then (W_seq (W_seq (W_region (ws (O_loadgw tg35 rfl) ⟨T1 rfl, trivial⟩ ?_)))))
  refine ws (O_call cf136 (spec_l7Form _) rfl) ⟨T1 rfl, trivial⟩ ?_
  refine ws O_not ⟨T1 rfl, trivial⟩ ?_
  refine WL_nil (Fin_then (W_cond rfl (fun h0 => ?_) (fun h0 => ?_)))
  · skip
    try simp only [bl] at h0
    refine W_seq (W_region (WL_ac rfl ?_))
    exact WL_nil (Fin_then (W_ret (Fin_then_ret (RetC rfl (Res1 rfl (RV.tmp rfl (Imp.bool (by unfold hfits; rw [if_pos (by grind)]))))))))
  try simp only [bl] at h0
  refine W_skip (Fin_then (W_seq (W_seq (W_region (ws (O_field tf37_0) ⟨T1 rfl, trivial⟩ ?_)))))
  refine ws (O_load ta3) ⟨T1 rfl, trivial⟩ ?_
  refine ws O_eql ⟨T1 rfl, C1, trivial⟩ ?_
  refine WL_mv rfl rfl ?_
  refine wf1 rfl rfl (fun hc => (O_field tf35_0)) ⟨tg rfl, trivial⟩ ?_
  refine wf1 rfl rfl (fun hc => (O_load ta3)) ⟨tg rfl, trivial⟩ ?_
  refine wf1 rfl rfl (fun hc => O_eql) ⟨tg rfl, C1, trivial⟩ ?_
  refine ws O_or ⟨T1 rfl, tg rfl, trivial⟩ ?_
  refine WL_nil (Fin_then (W_cond rfl (fun h1 => ?_) (fun h1 => ?_)))
  · skip
    try simp only [bl] at h1
    refine W_seq (W_region (ws (O_field tf37_0) ⟨T1 rfl, trivial⟩ ?_))
    refine ws (O_load ta3) ⟨T1 rfl, trivial⟩ ?_
    refine ws O_eql ⟨T1 rfl, C1, trivial⟩ ?_
    refine WL_mv rfl rfl ?_
    refine wt1 rfl rfl (fun hc => (O_field tf35_0)) ⟨tg rfl, trivial⟩ ?_
    refine wt1 rfl rfl (fun hc => (O_load ta3)) ⟨tg rfl, trivial⟩ ?_
    refine wt1 rfl rfl (fun hc => O_eql) ⟨tg rfl, C1, trivial⟩ ?_
    refine ws O_and ⟨T1 rfl, tg rfl, trivial⟩ ?_
    refine WL_as rfl rfl ?_
    exact WL_nil (Fin_then (W_ret (Fin_then_ret (RetC rfl (Res1 rfl (RV.tmp rfl (Imp.bool (by unfold hfits; rw [if_neg (by grind), if_pos (by omega)]))))))))
  try simp only [bl] at h1
  refine W_skip (Fin_then (W_seq (W_seq (W_region (ws (O_field tf35_0) ⟨T1 rfl, trivial⟩ ?_)))))
  refine ws (O_load ta3) ⟨T1 rfl, trivial⟩ ?_
  refine WL_nil (Fin_then (W_block (W_seq (W_region (ws O_eql ⟨T1 rfl, C1, trivial⟩ ?_)))))
  refine WL_as rfl rfl ?_
  refine WL_nil (Fin_then (W_cond rfl (fun h2 => ?_) (fun h2 => ?_)))
  · skip
    try simp only [bl] at h2
    refine W_seq (W_region (ws (O_field tf37_0) ⟨T1 rfl, trivial⟩ ?_))
    refine ws (O_load ta3) ⟨T1 rfl, trivial⟩ ?_
    refine ws O_eql ⟨T1 rfl, C1, trivial⟩ ?_
    refine WL_as rfl rfl ?_
    exact WL_nil (Fin_then (W_ret (Fin_block_ret (Fin_then_ret (RetC rfl (Res1 rfl (RV.tmp rfl (Imp.bool (by unfold hfits; rw [if_neg (by grind), if_neg (by omega), if_pos h2])))))))))
  try simp only [bl] at h2
  refine W_seq (W_region (ws O_eql ⟨T1 rfl, C1, trivial⟩ ?_))
  refine WL_as rfl rfl ?_
  refine WL_nil (Fin_then (W_cond rfl (fun h3 => ?_) (fun h3 => ?_)))
  · skip
    try simp only [bl] at h3
    refine W_seq (W_region (WL_mv rfl rfl ?_))
    refine ws (O_field tf37_1) ⟨T1 rfl, trivial⟩ ?_
    refine ws (O_load ta3) ⟨T1 rfl, trivial⟩ ?_
    refine ws (O_call cf90 (spec_l1Under _ (by assumption) hp.ups _ _ (by omega) (by omega)) rfl) ⟨T1 rfl, C1, T1 rfl, trivial⟩ ?_
    refine WL_as rfl rfl ?_
    exact WL_nil (Fin_then (W_ret (Fin_block_ret (Fin_then_ret (RetC rfl (Res1 rfl (RV.tmp rfl (Imp.bool (by unfold hfits; rw [if_neg (by grind), if_neg (by omega), if_neg h2, if_pos h3])))))))))
  try simp only [bl] at h3
  refine W_skip (Fin_block (Fin_then (W_seq (W_draw 18 mix rfl rfl ?_))))
  refine cs O_move ⟨T1 rfl, trivial⟩ ?_
  refine cs (O_field tf35_1) ⟨T1 rfl, trivial⟩ ?_
  refine cs (O_load ta3) ⟨T1 rfl, trivial⟩ ?_
  refine cs (O_call cf125 (spec_l6Find _ _) rfl) ⟨T1 rfl, T1 rfl, trivial⟩ ?_
  refine cs O_geq ⟨T1 rfl, C1, trivial⟩ ?_
  refine cs O_move ⟨T1 rfl, trivial⟩ ?_
  refine ct1 rfl rfl (fun hc => O_move) ⟨tg rfl, trivial⟩ ?_
  refine ct1 rfl rfl (fun hc => (O_field tf67_0)) ⟨tg rfl, trivial⟩ ?_
  refine ct1 rfl rfl (fun hc => (O_load ta62)) ⟨tg rfl, trivial⟩ ?_
  refine ct1 rfl rfl (fun hc => (O_field tf35_1)) ⟨tg rfl, trivial⟩ ?_
  refine ct1 rfl rfl (fun hc => (O_load ta3)) ⟨tg rfl, trivial⟩ ?_
  refine ct1 rfl rfl (fun hc => (O_index ts62 (by (try simp only [bl] at hc); (first | omega | (have hS4 := hS3 (by simpa using hc); omega))))) ⟨tg rfl, tg rfl, trivial⟩ ?_
  refine ct1 rfl rfl (fun hc => (O_load ta3)) ⟨tg rfl, trivial⟩ ?_
  refine ct1 rfl rfl (fun hc => (O_quo (by (try simp only [bl] at hc); (first | omega | (have hS4 := hS3 (by simpa using hc); omega))) (by (try simp only [bl] at hc); (first | omega | (have hS4 := hS3 (by simpa using hc); omega))) (by (try simp only [bl] at hc); (first | omega | (have hS4 := hS3 (by simpa using hc); omega))))) ⟨tg rfl, C1, trivial⟩ ?_
  refine ct1 rfl rfl (fun hc => (O_field tf37_1)) ⟨tg rfl, trivial⟩ ?_
  refine ct1 rfl rfl (fun hc => (O_load ta3)) ⟨tg rfl, trivial⟩ ?_
  refine ct1 rfl rfl (fun hc => (O_call cf90 (spec_l1Under _ (by assumption) hp.ups _ _ (by (try simp only [bl] at hc); (first | omega | (have hS4 := hS3 (by simpa using hc); omega))) (by omega)) rfl)) ⟨tg rfl, tg rfl, tg rfl, trivial⟩ ?_
  refine cs O_and ⟨T1 rfl, tg rfl, trivial⟩ ?_
  refine Chain_nil ?_
  refine WL_as rfl rfl ?_
  exact WL_nil (Fin_then (W_ret (RetC rfl (Res1 rfl (RV.tmp rfl (Imp.bool (by unfold hfits; rw [if_neg (by grind), if_neg (by omega), if_neg h2, if_neg h3])))))))
end Go.Proofs.Ytfjggobjijeniaa
