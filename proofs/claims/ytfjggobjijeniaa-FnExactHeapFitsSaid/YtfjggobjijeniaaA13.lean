import Derived.Test.YtfjggobjijeniaaRows
import Derived.Test.YtfjggobjijeniaaWalk3
import Derived.Test.YtfjggobjijeniaaWalk2
import Derived.Test.YtfjggobjijeniaaPure6
import Derived.Test.YtfjggobjijeniaaPure7
import Derived.Test.YtfjggobjijeniaaA1
import Derived.Test.YtfjggobjijeniaaA2
import Derived.Test.YtfjggobjijeniaaA4
import Derived.Test.YtfjggobjijeniaaA5
import Derived.Test.YtfjggobjijeniaaA7
import Derived.Test.YtfjggobjijeniaaA8
namespace Go.Proofs.Ytfjggobjijeniaa.A13
open Go Go.RowKit Go.L
theorem mix : Try.prog.follows .mixedOrders = true := by kernel_rfl
theorem cf100 : CallF Try.prog 100 := fun w vs => by kernel_rfl
theorem cf101 : CallF Try.prog 101 := fun w vs => by kernel_rfl
theorem cf102 : CallF Try.prog 102 := fun w vs => by kernel_rfl
theorem cf105 : CallF Try.prog 105 := fun w vs => by kernel_rfl
theorem cf106 : CallF Try.prog 106 := fun w vs => by kernel_rfl
theorem cf107 : CallF Try.prog 107 := fun w vs => by kernel_rfl
theorem cf14 : CallF Try.prog 14 := fun w vs => by kernel_rfl
theorem cf145 : CallF Try.prog 145 := fun w vs => by kernel_rfl
theorem cf147 : CallF Try.prog 147 := fun w vs => by kernel_rfl
theorem cf40 : CallF Try.prog 40 := fun w vs => by kernel_rfl
theorem cf41 : CallF Try.prog 41 := fun w vs => by kernel_rfl
theorem cf42 : CallF Try.prog 42 := fun w vs => by kernel_rfl
theorem cf43 : CallF Try.prog 43 := fun w vs => by kernel_rfl
theorem cf44 : CallF Try.prog 44 := fun w vs => by kernel_rfl
theorem cf46 : CallF Try.prog 46 := fun w vs => by kernel_rfl
theorem cf51 : CallF Try.prog 51 := fun w vs => by kernel_rfl
theorem cf52 : CallF Try.prog 52 := fun w vs => by kernel_rfl
theorem cf53 : CallF Try.prog 53 := fun w vs => by kernel_rfl
theorem cf85 : CallF Try.prog 85 := fun w vs => by kernel_rfl
theorem cf88 : CallF Try.prog 88 := fun w vs => by kernel_rfl
theorem cf89 : CallF Try.prog 89 := fun w vs => by kernel_rfl
theorem cf90 : CallF Try.prog 90 := fun w vs => by kernel_rfl
theorem cf92 : CallF Try.prog 92 := fun w vs => by kernel_rfl
theorem cf99 : CallF Try.prog 99 := fun w vs => by kernel_rfl
theorem sz3 : sizeAt Try.prog 3 = some 1 := by kernel_rfl
theorem sz35 : sizeAt Try.prog 35 = some 2 := by kernel_rfl
theorem sz84 : sizeAt Try.prog 84 = some 1 := by kernel_rfl
theorem sz86 : sizeAt Try.prog 86 = some 2 := by kernel_rfl
theorem ta108 : TA Try.prog 108 := by unfold TA; kernel_rfl
theorem ta3 : TA Try.prog 3 := by unfold TA; kernel_rfl
theorem ta33 : TA Try.prog 33 := by unfold TA; kernel_rfl
theorem ta62 : TA Try.prog 62 := by unfold TA; kernel_rfl
theorem ta76 : TA Try.prog 76 := by unfold TA; kernel_rfl
theorem ta84 : TA Try.prog 84 := by unfold TA; kernel_rfl
theorem tb163 : TB Try.prog 163 [.slice none 0 0] [(0, 1)] := ⟨by kernel_rfl, by kernel_rfl⟩
theorem tb86 : TB Try.prog 86 [.int .i64 0, .slice none 0 0] [(0, 1), (1, 1)] := ⟨by kernel_rfl, by kernel_rfl⟩
theorem tez33 : TEZ Try.prog 33 86 2 32 [.int .i64 0, .slice none 0 0] := ⟨by kernel_rfl, by kernel_rfl⟩
theorem te33 : TE Try.prog 33 86 2 32 := tez33.te rfl
theorem tez84 : TEZ Try.prog 84 35 2 16 [.int .i64 0, .int .i64 0] := ⟨by kernel_rfl, by kernel_rfl⟩
theorem te84 : TE Try.prog 84 35 2 16 := tez84.te rfl
theorem tf110_0 : TF Try.prog 110 0 0 := by unfold TF; kernel_rfl
theorem tf110_1 : TF Try.prog 110 1 1 := by unfold TF; kernel_rfl
theorem tf163_0 : TF Try.prog 163 0 0 := by unfold TF; kernel_rfl
theorem tf25_0 : TF Try.prog 25 0 0 := by unfold TF; kernel_rfl
theorem tf25_1 : TF Try.prog 25 1 1 := by unfold TF; kernel_rfl
theorem tf35_0 : TF Try.prog 35 0 0 := by unfold TF; kernel_rfl
theorem tf35_1 : TF Try.prog 35 1 1 := by unfold TF; kernel_rfl
theorem tf37_0 : TF Try.prog 37 0 0 := by unfold TF; kernel_rfl
theorem tf37_1 : TF Try.prog 37 1 1 := by unfold TF; kernel_rfl
theorem tf78_0 : TF Try.prog 78 0 0 := by unfold TF; kernel_rfl
theorem tf78_1 : TF Try.prog 78 1 1 := by unfold TF; kernel_rfl
theorem tf86_0 : TF Try.prog 86 0 0 := by unfold TF; kernel_rfl
theorem tf86_1 : TF Try.prog 86 1 1 := by unfold TF; kernel_rfl
theorem tg25 : TG Try.prog 25 2 := ⟨by kernel_rfl, by kernel_rfl⟩
theorem tg35 : TG Try.prog 35 2 := ⟨by kernel_rfl, by kernel_rfl⟩
theorem tg37 : TG Try.prog 37 3 := ⟨by kernel_rfl, by kernel_rfl⟩
theorem tg78 : TG Try.prog 78 2 := ⟨by kernel_rfl, by kernel_rfl⟩
theorem tg86 : TG Try.prog 86 2 := ⟨by kernel_rfl, by kernel_rfl⟩
theorem ts108 : TS Try.prog 108 156 6 := ⟨by kernel_rfl, by kernel_rfl⟩
theorem ts23 : TS Try.prog 23 78 2 := ⟨by kernel_rfl, by kernel_rfl⟩
theorem ts33 : TS Try.prog 33 86 2 := ⟨by kernel_rfl, by kernel_rfl⟩
theorem ts62 : TS Try.prog 62 3 1 := ⟨by kernel_rfl, by kernel_rfl⟩
theorem ts76 : TS Try.prog 76 25 2 := ⟨by kernel_rfl, by kernel_rfl⟩
theorem ts84 : TS Try.prog 84 35 2 := ⟨by kernel_rfl, by kernel_rfl⟩
theorem tz35 : TZ Try.prog 35 [.int .i64 0, .int .i64 0] := by unfold TZ; kernel_rfl
theorem tz86 : TZ Try.prog 86 [.int .i64 0, .slice none 0 0] := by unfold TZ; kernel_rfl
end Go.Proofs.Ytfjggobjijeniaa.A13
namespace Go.Proofs.Ytfjggobjijeniaa
open Go Go.RowKit Go.L A13
set_option maxRecDepth 8000 in
theorem laws_szValS (L : (List Vl)) (left : Int) (h0 : 0 ≤ left) (h1 : left ≤ 1048576) : FnC Try.prog 85 [A.sl 2 cVal L, A.int left] (A.int (neg1 (left - L.length))) := by
  refine Fn_of_W Try.func85 rfl rfl fun r w => ?_
  refine W_seq (W_region (WL_ac rfl ?_))
  refine WL_nil (Fin_then (W_seq (W_region (WL_mv rfl rfl ?_))))
  refine WL_mv rfl rfl ?_
  refine WL_len ts76 rfl rfl fun hl7 => ?_
  refine ws (O_sub (by omega)) ⟨T1 rfl, T1 rfl, trivial⟩ ?_
  refine WL_as rfl rfl ?_
  refine WL_nil (Fin_then (W_seq (W_seq (W_region (WL_mv rfl rfl ?_)))))
  refine ws O_lss ⟨T1 rfl, C1, trivial⟩ ?_
  refine WL_nil (Fin_then (W_cond rfl (fun h0 => ?_) (fun h0 => ?_)))
  · skip
    try simp only [bl] at h0
    refine W_seq (W_region (WL_ac rfl ?_))
    exact WL_nil (Fin_then (W_ret (Fin_then_ret (RetC rfl (Res1 rfl (RV.tmp rfl (Imp.int (by unfold neg1; (first | rw [if_pos (by omega)] | rw [if_neg (by omega)])))))))))
  try simp only [bl] at h0
  refine W_skip (Fin_then (W_seq (W_region (WL_mv rfl rfl ?_))))
  refine WL_as rfl rfl ?_
  exact WL_nil (Fin_then (W_ret (RetC rfl (Res1 rfl (RV.tmp rfl (Imp.int (by unfold neg1; (first | rw [if_pos (by omega)] | rw [if_neg (by omega)]))))))))
set_option maxRecDepth 8000 in
theorem laws_szThing (t : Thg) (left : Int) (h0 : 0 ≤ left) (h1 : left ≤ 1048576) : FnC Try.prog 40 [A.agg (cThing t), A.int left] (A.int (neg1 (left - bThing t))) := by
  have hu : bThing t = (t.vals.length) := rfl
  refine Fn_of_W Try.func40 rfl rfl fun r w => ?_
  refine W_seq (W_region (ws O_boxg ⟨T1 rfl, trivial⟩ ?_))
  refine WL_ac rfl ?_
  refine WL_nil (Fin_then (W_seq (W_region (ws (O_field tf78_1) ⟨T1 rfl, trivial⟩ ?_))))
  refine ws (O_load ta76) ⟨T1 rfl, trivial⟩ ?_
  refine WL_mv rfl rfl ?_
  refine ws (O_call cf85 (laws_szValS _ _ (by (first | omega | (unfold neg1 at *; grind))) (by (first | omega | (unfold neg1 at *; grind)))) rfl) ⟨T1 rfl, T1 rfl, trivial⟩ ?_
  refine WL_as rfl rfl ?_
  refine WL_nil (Fin_then (W_seq (W_seq (W_region (WL_mv rfl rfl ?_)))))
  refine ws O_lss ⟨T1 rfl, C1, trivial⟩ ?_
  refine WL_nil (Fin_then (W_cond rfl (fun h0 => ?_) (fun h0 => ?_)))
  · skip
    simp only [decide_eq_true_eq, decide_eq_false_iff_not] at h0; unfold neg1 at h0
    refine W_seq (W_region (WL_ac rfl ?_))
    exact WL_nil (Fin_then (W_ret (Fin_then_ret (RetC rfl (Res1 rfl (RV.tmp rfl (Imp.int (by unfold neg1 at *; grind))))))))
  simp only [decide_eq_true_eq, decide_eq_false_iff_not] at h0; unfold neg1 at h0
  refine W_skip (Fin_then (W_seq (W_region (WL_mv rfl rfl ?_))))
  refine WL_as rfl rfl ?_
  exact WL_nil (Fin_then (W_ret (RetC rfl (Res1 rfl (RV.tmp rfl (Imp.int (by unfold neg1 at *; grind)))))))
set_option maxRecDepth 8000 in
theorem laws_szThingS (L : (List Thg)) (left : Int) (h0 : 0 ≤ left) (h1 : left ≤ 1048576) : FnC Try.prog 10 [A.sl 2 cThing L, A.int left] (A.int (neg1 (left - (bThings L)))) := by
  have hb := bulk_len (f := bThing) (L := L)
  have hu : ((bThings L) : Nat) = bulkL bThing L := rfl
  refine Fn_of_W Try.func10 rfl rfl fun r w => ?_
  refine W_seq (W_region (WL_ac rfl ?_))
  refine WL_nil (Fin_then (W_seq (W_region (WL_mv rfl rfl ?_))))
  refine WL_mv rfl rfl ?_
  refine WL_len ts23 rfl rfl fun hl8 => ?_
  refine ws (O_sub (by omega)) ⟨T1 rfl, T1 rfl, trivial⟩ ?_
  refine WL_as rfl rfl ?_
  refine WL_nil (Fin_then (W_seq (W_seq (W_region (WL_mv rfl rfl ?_)))))
  refine ws O_lss ⟨T1 rfl, C1, trivial⟩ ?_
  refine WL_nil (Fin_then (W_cond rfl (fun h0 => ?_) (fun h0 => ?_)))
  · skip
    try simp only [bl] at h0
    refine W_seq (W_region (WL_ac rfl ?_))
    exact WL_nil (Fin_then (W_ret (Fin_then_ret (RetC rfl (Res1 rfl (RV.tmp rfl (Imp.int (by unfold neg1 at *; grind))))))))
  try simp only [bl] at h0
  refine W_skip (Fin_then (W_seq (W_seq (W_region (WL_ac rfl ?_)))))
  refine WL_nil (Fin_then (W_block (W_loopk [0] (T := Nat) (fun k => k ≤ L.length ∧ 0 ≤ left - L.length - (sumTo bThing L k : Int)) (fun k => [(1, true, A.int (left - L.length - (sumTo bThing L k : Int))), (5, true, A.int (k : Int))]) (fun k => L.length - k) 0 ⟨Nat.zero_le _, by rw [sumTo_zero]; omega⟩ ⟨⟨rfl, _, rfl, (Imp.int (by first | (rw [sumTo_zero]; omega) | omega))⟩, ⟨rfl, _, rfl, (Imp.int (by first | (rw [sumTo_zero]; omega) | omega))⟩, trivial⟩ (fun k hx => ?_))))
  have hk := hx.1
  have hq := hx.2
  have hs := sumTo_le bThing L k
  have hs1 := sumTo_le bThing L (k + 1)
  have hs2 : k < L.length → sumTo bThing L (k + 1) = sumTo bThing L k + bThing (idx L (k : Int)) := sumTo_step bThing L k
  have hs3 : L.length ≤ k → L.length + sumTo bThing L k = bulkL bThing L := sumTo_all bThing L k
  refine W_seq (W_seq (W_region (WL_mv rfl rfl ?_)))
  refine WL_mv rfl rfl ?_
  refine WL_len ts23 rfl rfl fun hl14 => ?_
  refine ws O_lss ⟨T1 rfl, T1 rfl, trivial⟩ ?_
  refine WL_nil (Fin_then (W_cond rfl (fun h1 => ?_) (fun h1 => ?_)))
  · skip
    try simp only [bl] at h1
    refine W_skip (Fin_then (W_seq (W_block (W_seq (W_region (WL_mv rfl rfl ?_))))))
    refine WL_mv rfl rfl ?_
    refine ws (O_index ts23 (by omega)) ⟨T1 rfl, T1 rfl, trivial⟩ ?_
    refine ws (O_loadgw tg78 rfl) ⟨T1 rfl, trivial⟩ ?_
    refine WL_mv rfl rfl ?_
    refine ws (O_call cf40 (laws_szThing _ _ (by omega) (by omega)) rfl) ⟨T1 rfl, T1 rfl, trivial⟩ ?_
    refine WL_as rfl rfl ?_
    refine WL_nil (Fin_then (W_seq (W_region (WL_mv rfl rfl ?_))))
    refine ws O_lss ⟨T1 rfl, C1, trivial⟩ ?_
    refine WL_nil (Fin_then (W_cond rfl (fun h2 => ?_) (fun h2 => ?_)))
    · skip
      try simp only [bl] at h2
      refine W_seq (W_region (WL_ac rfl ?_))
      exact WL_nil (Fin_then (W_ret (Fin_block_ret (Fin_then_ret (Fin_then_ret (Fin_block_ret (Fin_then_ret (RetC rfl (Res1 rfl (RV.tmp rfl (Imp.int (by unfold neg1 at *; grind))))))))))))
    try simp only [bl] at h2
    refine W_skip (Fin_block (Fin_then (W_region (WL_mv rfl rfl ?_))))
    refine ws (O_add (by omega)) ⟨T1 rfl, C1, trivial⟩ ?_
    refine WL_as rfl rfl ?_
    refine WL_nil ?_
    have hs4 := hs2 (by omega)
    unfold neg1 at h2
    exact Fin_back (k + 1) ⟨by omega, by grind⟩ (by omega) ⟨⟨rfl, _, rfl, (Imp.int (by (try unfold neg1); grind))⟩, ⟨rfl, _, rfl, (Imp.int (by (try unfold neg1); grind))⟩, trivial⟩ ⟨rfl, trivial⟩ rfl rfl
  try simp only [bl] at h1
  refine W_exit (Fin_then_exit (Fin_then_exit (Fin_block_exit (Fin_then (W_seq (W_region (WL_mv rfl rfl ?_)))))))
  refine WL_as rfl rfl ?_
  exact WL_nil (Fin_then (W_ret (RetC rfl (Res1 rfl (RV.tmp rfl (Imp.int (by unfold neg1 at *; grind)))))))
set_option maxRecDepth 8000 in
theorem laws_toVal (t : Vl) : FnC Try.prog 14 [A.agg (cVal t)] (A.agg (cVal t)) := by
  refine Fn_of_W Try.func14 rfl rfl fun r w => ?_
  refine W_seq (W_region (ws O_boxg ⟨T1 rfl, trivial⟩ ?_))
  refine WL_alloc tz35 rfl fun b2 => ?_
  refine WL_nil (Fin_then (W_seq (W_region (WL_alloc tz35 rfl fun b3 => ?_))))
  refine WL_nil (Fin_then (W_seq (W_region (ws (O_field tf25_0) ⟨T1 rfl, trivial⟩ ?_))))
  refine ws (O_load ta3) ⟨T1 rfl, trivial⟩ ?_
  refine ws (O_fieldv tf35_0) ⟨T1 rfl, trivial⟩ ?_
  refine WL_store 0 rfl ⟨T1 rfl, T1 rfl, trivial⟩ (CellsOf.one OneV.int) sz3 (Nat.le_of_ble_eq_true rfl) ?_
  refine WL_nil (Fin_then (W_seq (W_region (ws (O_field tf25_1) ⟨T1 rfl, trivial⟩ ?_))))
  refine ws (O_load ta3) ⟨T1 rfl, trivial⟩ ?_
  refine ws (O_fieldv tf35_1) ⟨T1 rfl, trivial⟩ ?_
  refine WL_store 0 rfl ⟨T1 rfl, T1 rfl, trivial⟩ (CellsOf.one OneV.int) sz3 (Nat.le_of_ble_eq_true rfl) ?_
  refine WL_nil (Fin_then (W_seq (W_region (ws (O_loadog 0 tg35 rfl (Nat.le_of_ble_eq_true rfl)) ⟨T1 rfl, trivial⟩ ?_))))
  refine WL_store 1 rfl ⟨T1 rfl, T1 rfl, trivial⟩ (CellsOf.agg (by exact ⟨OneV.int, OneV.int, trivial⟩)) sz35 (Nat.le_of_ble_eq_true rfl) ?_
  exact WL_nil (Fin_then (W_ret (RetC rfl (Res1 rfl (RV.cellg 1 rfl tg35 rfl rfl Imp.refl)))))
set_option maxRecDepth 8000 in
theorem laws_toValS (L : (List Vl)) (hL : (L.length) ≤ 1048576) : FnN Try.prog 92 [A.sl 2 cVal L] (A.sl 2 cVal L) := by
  refine FnN_of_W Try.func92 rfl rfl fun r w => ?_
  refine W_seq (W_region (WL_ac rfl ?_))
  refine WL_nil (Fin_then (W_seq (W_region (WL_mv rfl rfl ?_))))
  refine WL_len ts76 rfl rfl fun hl6 => ?_
  refine WL_make tez84 rfl ⟨T1 rfl, T1 rfl, trivial⟩ (by omega) (by omega) (by omega) rfl fun b7 => ?_
  refine WL_as rfl rfl ?_
  refine WL_nil (Fin_then (W_seq (W_seq (W_region (WL_ac rfl ?_)))))
  refine WL_nil (Fin_then (W_block (W_loopp [0, 3] [0] [] [] (T := Nat) (fun k => k ≤ L.length) (fun k => [(4, true, A.int (k : Int))]) (fun k => { own := [(b7, 35, filled cVal [A.val (.int .i64 0), A.val (.int .i64 0)] L k)], rooms := [], maps := [] }) (fun k => L.length - k) 0 (Nat.zero_le _) ⟨⟨rfl, _, rfl, (by first | exact Imp.refl | exact Imp.slv | exact Imp.nil | exact Imp.int (by omega) | exact Imp.int (by simp; done) | exact Imp.bool (by simp_all; done))⟩, trivial⟩ (.cons (AllImp.eq filled_zero.symm) OSub.nil) rfl rfl rfl (fun k hx => ?_))))
  have hfl := filled_len (f := cVal) (z := [A.val (.int .i64 0), A.val (.int .i64 0)]) (k := 2) (L := L) (j := k) (fun _ => rfl) rfl (by omega)
  refine W_seq (W_seq (W_region (WL_mv rfl rfl ?_)))
  refine WL_mv rfl rfl ?_
  refine WL_len ts76 rfl rfl fun hl10 => ?_
  refine ws O_lss ⟨T1 rfl, T1 rfl, trivial⟩ ?_
  refine WL_nil (Fin_then (W_cond rfl (fun h0 => ?_) (fun h0 => ?_)))
  · skip
    try simp only [bl] at h0
    refine W_skip (Fin_then (W_seq (W_block (W_region (WL_mv rfl rfl ?_)))))
    refine WL_mv rfl rfl ?_
    refine WL_mv rfl rfl ?_
    refine WL_mv rfl rfl ?_
    refine ws (O_index ts76 (by omega)) ⟨T1 rfl, T1 rfl, trivial⟩ ?_
    refine ws (O_loadgw tg25 rfl) ⟨T1 rfl, trivial⟩ ?_
    refine ws (O_call cf14 (laws_toVal _) rfl) ⟨T1 rfl, trivial⟩ ?_
    refine ws (O_indexo ts84 (by omega)) ⟨T1 rfl, T1 rfl, trivial⟩ ?_
    refine WL_store 0 rfl ⟨T1 rfl, T1 rfl, trivial⟩ (CellsOf.agg (by exact ⟨OneV.int, OneV.int, trivial⟩)) sz35 (by rw [hfl]; (first | (show _ + 2 ≤ _; omega) | (simp; omega))) ?_
    refine WL_nil (Fin_block (Fin_then (W_region (WL_mv rfl rfl ?_))))
    refine ws (O_add (by omega)) ⟨T1 rfl, C1, trivial⟩ ?_
    refine WL_as rfl rfl ?_
    exact WL_nil (Fin_backp [0] (k + 1) (by omega) (by omega) ⟨⟨rfl, _, rfl, (by first | exact Imp.refl | exact Imp.slv | exact Imp.nil | exact Imp.int (by omega) | exact Imp.int (by simp; done) | exact Imp.bool (by simp_all; done))⟩, trivial⟩ ⟨rfl, rfl, trivial⟩ (.cons (AllImp.eq (filled_step (f := cVal) (z := [A.val (.int .i64 0), A.val (.int .i64 0)]) L k (fun _ => rfl) rfl (by omega)).symm) OSub.nil) rfl (List.Sublist.refl _) rfl)
  try simp only [bl] at h0
  refine W_exit (Fin_then_exit (Fin_then_exit (Fin_block_exit (Fin_then (W_seq (W_region (WL_freezeSl (k := 2) (L := L) (f := cVal) (f' := cVal) 0 r [] (List.Mem.head _) rfl 3 rfl (by rw [filled_all (by omega)]; simp) (by first | rfl | simp | omega) (by omega) (by simp only [maxLen]; omega) (fun _ => rfl) (fun _ => ⟨NwI.val, NwI.val, trivial⟩) ?_)))))))
  refine WL_mv rfl rfl ?_
  refine WL_as rfl rfl ?_
  exact WL_nil (Fin_then (W_ret (RetC rfl (Res1 rfl (RV.tmp rfl Imp.refl)))))
set_option maxRecDepth 8000 in
theorem laws_toThing (t : Thg) (hL : (bThing t) ≤ 1048576) : FnN Try.prog 46 [A.agg (cThing t)] (A.agg (cThing t)) := by
  have hu : bThing t = (t.vals.length) := rfl
  refine FnN_of_W Try.func46 rfl rfl fun r w => ?_
  refine W_seq (W_region (ws O_boxg ⟨T1 rfl, trivial⟩ ?_))
  refine WL_alloc tz86 rfl fun b2 => ?_
  refine WL_nil (Fin_then (W_seq (W_region (WL_alloc tz86 rfl fun b3 => ?_))))
  refine WL_nil (Fin_then (W_seq (W_region (ws (O_field tf78_0) ⟨T1 rfl, trivial⟩ ?_))))
  refine ws (O_load ta3) ⟨T1 rfl, trivial⟩ ?_
  refine ws (O_fieldv tf86_0) ⟨T1 rfl, trivial⟩ ?_
  refine WL_store 0 rfl ⟨T1 rfl, T1 rfl, trivial⟩ (CellsOf.one OneV.int) sz3 (Nat.le_of_ble_eq_true rfl) ?_
  refine WL_nil (Fin_then (W_seq (W_region (ws (O_field tf78_1) ⟨T1 rfl, trivial⟩ ?_))))
  refine ws (O_load ta76) ⟨T1 rfl, trivial⟩ ?_
  refine ws (O_callN r (List.Mem.head _) cf92 (laws_toValS _ (by omega)) rfl) ⟨T1 rfl, trivial⟩ ?_
  refine ws (O_fieldv tf86_1) ⟨T1 rfl, trivial⟩ ?_
  refine WL_store 0 rfl ⟨T1 rfl, T1 rfl, trivial⟩ (CellsOf.one (OneV.nw OneV.sl)) sz84 (Nat.le_of_ble_eq_true rfl) ?_
  refine WL_nil (Fin_then (W_seq (W_region (ws (O_loadog 0 tg86 rfl (Nat.le_of_ble_eq_true rfl)) ⟨T1 rfl, trivial⟩ ?_))))
  refine WL_store 1 rfl ⟨T1 rfl, T1 rfl, trivial⟩ (CellsOf.agg (by exact ⟨OneV.int, (OneV.nw OneV.sl), trivial⟩)) sz86 (Nat.le_of_ble_eq_true rfl) ?_
  exact WL_nil (Fin_then (W_ret (RetC rfl (Res1 rfl (RV.nw (List.Mem.head _) (RV.cellg 1 rfl tg86 rfl rfl Imp.refl) (NwI.agg ⟨NwI.val, NwI.nw, trivial⟩))))))
set_option maxRecDepth 8000 in
theorem laws_toThingS (L : (List Thg)) (hL : (bThings L) ≤ 1048576) : FnN Try.prog 13 [A.sl 2 cThing L] (A.sl 2 cThing L) := by
  have hb := bulk_len (f := bThing) (L := L)
  have hu : (bThings L) = bulkL bThing L := rfl
  refine FnN_of_W Try.func13 rfl rfl fun r w => ?_
  refine W_seq (W_region (WL_ac rfl ?_))
  refine WL_nil (Fin_then (W_seq (W_region (WL_mv rfl rfl ?_))))
  refine WL_len ts23 rfl rfl fun hl6 => ?_
  refine WL_make tez33 rfl ⟨T1 rfl, T1 rfl, trivial⟩ (by omega) (by omega) (by omega) rfl fun b7 => ?_
  refine WL_as rfl rfl ?_
  refine WL_nil (Fin_then (W_seq (W_seq (W_region (WL_ac rfl ?_)))))
  refine WL_nil (Fin_then (W_block (W_loopp [0, 3] [0] [] [] (T := Nat) (fun k => k ≤ L.length) (fun k => [(4, true, A.int (k : Int))]) (fun k => { own := [(b7, 86, filled (fun y => (cThing y).map (A.nw r)) [A.val (.int .i64 0), A.val (.slice none 0 0)] L k)], rooms := [], maps := [] }) (fun k => L.length - k) 0 (Nat.zero_le _) ⟨⟨rfl, _, rfl, (by first | exact Imp.refl | exact Imp.slv | exact Imp.nil | exact Imp.int (by omega) | exact Imp.int (by simp; done) | exact Imp.bool (by simp_all; done))⟩, trivial⟩ (.cons (AllImp.eq filled_zero.symm) OSub.nil) rfl rfl rfl (fun k hx => ?_))))
  have hfl := filled_len (f := (fun y => (cThing y).map (A.nw r))) (z := [A.val (.int .i64 0), A.val (.slice none 0 0)]) (k := 2) (L := L) (j := k) (fun _ => rfl) rfl (by omega)
  have hbk : (k : Int) < L.length → bThing (idx L (k : Int)) ≤ bulkL bThing L := fun h => bulk_idx (by omega) h
  refine W_seq (W_seq (W_region (WL_mv rfl rfl ?_)))
  refine WL_mv rfl rfl ?_
  refine WL_len ts23 rfl rfl fun hl10 => ?_
  refine ws O_lss ⟨T1 rfl, T1 rfl, trivial⟩ ?_
  refine WL_nil (Fin_then (W_cond rfl (fun h0 => ?_) (fun h0 => ?_)))
  · skip
    try simp only [bl] at h0
    refine W_skip (Fin_then (W_seq (W_block (W_region (WL_mv rfl rfl ?_)))))
    refine WL_mv rfl rfl ?_
    refine WL_mv rfl rfl ?_
    refine WL_mv rfl rfl ?_
    refine ws (O_index ts23 (by omega)) ⟨T1 rfl, T1 rfl, trivial⟩ ?_
    refine ws (O_loadgw tg78 rfl) ⟨T1 rfl, trivial⟩ ?_
    refine ws (O_callN r (List.Mem.head _) cf46 (laws_toThing _ (by omega)) rfl) ⟨T1 rfl, trivial⟩ ?_
    refine ws (O_indexo ts33 (by omega)) ⟨T1 rfl, T1 rfl, trivial⟩ ?_
    refine WL_store 0 rfl ⟨T1 rfl, T1 rfl, trivial⟩ (AllOne.nw (by exact ⟨OneV.int, OneV.sl, trivial⟩)) sz86 (by rw [hfl]; (first | (show _ + 2 ≤ _; omega) | (simp; omega))) ?_
    refine WL_nil (Fin_block (Fin_then (W_region (WL_mv rfl rfl ?_))))
    refine ws (O_add (by omega)) ⟨T1 rfl, C1, trivial⟩ ?_
    refine WL_as rfl rfl ?_
    exact WL_nil (Fin_backp [0] (k + 1) (by omega) (by omega) ⟨⟨rfl, _, rfl, (by first | exact Imp.refl | exact Imp.slv | exact Imp.nil | exact Imp.int (by omega) | exact Imp.int (by simp; done) | exact Imp.bool (by simp_all; done))⟩, trivial⟩ ⟨rfl, rfl, trivial⟩ (.cons (AllImp.eq (filled_step (f := (fun y => (cThing y).map (A.nw r))) (z := [A.val (.int .i64 0), A.val (.slice none 0 0)]) L k (fun _ => rfl) rfl (by omega)).symm) OSub.nil) rfl (List.Sublist.refl _) rfl)
  try simp only [bl] at h0
  refine W_exit (Fin_then_exit (Fin_then_exit (Fin_block_exit (Fin_then (W_seq (W_region (WL_freezeSl (k := 2) (L := L) (f := (fun y => (cThing y).map (A.nw r))) (f' := cThing) 0 r [] (List.Mem.head _) rfl 3 rfl (by rw [filled_all (by omega)]; simp) (by first | rfl | simp | omega) (by omega) (by simp only [maxLen]; omega) (fun _ => rfl) (fun _ => (AllNw.nws _)) ?_)))))))
  refine WL_mv rfl rfl ?_
  refine WL_as rfl rfl ?_
  exact WL_nil (Fin_then (W_ret (RetC rfl (Res1 rfl (RV.tmp rfl Imp.refl)))))
set_option maxRecDepth 8000 in
theorem laws_eqVal (t u : Vl) : FnC Try.prog 147 [A.agg (cVal t), A.agg (cVal u)] (A.bool (decide (t = u))) := by
  refine Fn_of_W Try.func147 rfl rfl fun r w => ?_
  refine W_seq (W_region (ws O_boxg ⟨T1 rfl, trivial⟩ ?_))
  refine ws O_boxg ⟨T1 rfl, trivial⟩ ?_
  refine WL_ac rfl ?_
  refine WL_nil (Fin_then (W_seq (W_seq (W_region (ws (O_field tf35_0) ⟨T1 rfl, trivial⟩ ?_)))))
  refine ws (O_load ta3) ⟨T1 rfl, trivial⟩ ?_
  refine ws (O_field tf35_0) ⟨T1 rfl, trivial⟩ ?_
  refine ws (O_load ta3) ⟨T1 rfl, trivial⟩ ?_
  refine ws O_neq ⟨T1 rfl, T1 rfl, trivial⟩ ?_
  refine WL_nil (Fin_then (W_cond rfl (fun h0 => ?_) (fun h0 => ?_)))
  · skip
    try simp only [bl] at h0
    refine W_seq (W_region (WL_ac rfl ?_))
    exact WL_nil (Fin_then (W_ret (Fin_then_ret (RetC rfl (Res1 rfl (RV.tmp rfl (Imp.bool (by simp only [Vl.eqs]; grind))))))))
  try simp only [bl] at h0
  refine W_skip (Fin_then (W_seq (W_seq (W_region (ws (O_field tf35_1) ⟨T1 rfl, trivial⟩ ?_)))))
  refine ws (O_load ta3) ⟨T1 rfl, trivial⟩ ?_
  refine ws (O_field tf35_1) ⟨T1 rfl, trivial⟩ ?_
  refine ws (O_load ta3) ⟨T1 rfl, trivial⟩ ?_
  refine ws O_neq ⟨T1 rfl, T1 rfl, trivial⟩ ?_
  refine WL_nil (Fin_then (W_cond rfl (fun h1 => ?_) (fun h1 => ?_)))
  · skip
    try simp only [bl] at h1
    refine W_seq (W_region (WL_ac rfl ?_))
    exact WL_nil (Fin_then (W_ret (Fin_then_ret (RetC rfl (Res1 rfl (RV.tmp rfl (Imp.bool (by simp only [Vl.eqs]; grind))))))))
  try simp only [bl] at h1
  refine W_skip (Fin_then (W_seq (W_region (WL_ac rfl ?_))))
  exact WL_nil (Fin_then (W_ret (RetC rfl (Res1 rfl (RV.tmp rfl (Imp.bool (by simp only [Vl.eqs]; grind)))))))
set_option maxRecDepth 8000 in
theorem laws_eqValS (L M : (List Vl)) : FnC Try.prog 105 [A.sl 2 cVal L, A.sl 2 cVal M] (A.bool (decide (L = M))) := by
  refine Fn_of_W Try.func105 rfl rfl fun r w => ?_
  refine W_seq (W_region (WL_ac rfl ?_))
  refine WL_nil (Fin_then (W_seq (W_seq (W_region (WL_mv rfl rfl ?_)))))
  refine WL_len ts84 rfl rfl fun hl7 => ?_
  refine WL_mv rfl rfl ?_
  refine WL_len ts84 rfl rfl fun hl9 => ?_
  refine ws O_neq ⟨T1 rfl, T1 rfl, trivial⟩ ?_
  refine WL_nil (Fin_then (W_cond rfl (fun h0 => ?_) (fun h0 => ?_)))
  · skip
    try simp only [bl] at h0
    have hne : L ≠ M := fun e => by subst e; simp at h0
    refine W_seq (W_region (WL_ac rfl ?_))
    exact WL_nil (Fin_then (W_ret (Fin_then_ret (RetC rfl (Res1 rfl (RV.tmp rfl (Imp.bool (by simp [hne]))))))))
  try simp only [bl] at h0
  have hlen : L.length = M.length := by omega
  refine W_skip (Fin_then (W_seq (W_seq (W_region (WL_ac rfl ?_)))))
  refine WL_nil (Fin_then (W_block (W_loopk [0, 1] (T := Nat) (fun k => k ≤ L.length ∧ ∀ j, j < k → idx L (j : Int) = idx M (j : Int)) (fun k => [(5, true, A.int (k : Int))]) (fun k => L.length - k) 0 ⟨Nat.zero_le _, fun j h => by omega⟩ ⟨⟨rfl, _, rfl, (by first | exact Imp.refl | exact Imp.slv | exact Imp.nil | exact Imp.int (by omega) | exact Imp.int (by simp; done) | exact Imp.bool (by simp_all; done))⟩, trivial⟩ (fun k hx => ?_))))
  have hk := hx.1
  refine W_seq (W_seq (W_region (WL_mv rfl rfl ?_)))
  refine WL_mv rfl rfl ?_
  refine WL_len ts84 rfl rfl fun hl13 => ?_
  refine ws O_lss ⟨T1 rfl, T1 rfl, trivial⟩ ?_
  refine WL_nil (Fin_then (W_cond rfl (fun h1 => ?_) (fun h1 => ?_)))
  · skip
    try simp only [bl] at h1
    refine W_skip (Fin_then (W_seq (W_block (W_seq (W_draw 10 mix rfl rfl ?_)))))
    refine cs O_move ⟨T1 rfl, trivial⟩ ?_
    refine cs O_move ⟨T1 rfl, trivial⟩ ?_
    refine cs (O_index ts84 (by omega)) ⟨T1 rfl, T1 rfl, trivial⟩ ?_
    refine cs (O_loadgw tg35 rfl) ⟨T1 rfl, trivial⟩ ?_
    refine cs O_move ⟨T1 rfl, trivial⟩ ?_
    refine cs O_move ⟨T1 rfl, trivial⟩ ?_
    refine cs (O_index ts84 (by omega)) ⟨T1 rfl, T1 rfl, trivial⟩ ?_
    refine cs (O_loadgw tg35 rfl) ⟨T1 rfl, trivial⟩ ?_
    refine cs (O_call cf147 (laws_eqVal _ _) rfl) ⟨T1 rfl, T1 rfl, trivial⟩ ?_
    refine cs O_not ⟨T1 rfl, trivial⟩ ?_
    refine Chain_nil ?_
    refine WL_nil (Fin_then (W_cond rfl (fun h2 => ?_) (fun h2 => ?_)))
    · skip
      try simp only [bl] at h2
      refine W_seq (W_region (WL_ac rfl ?_))
      exact WL_nil (Fin_then (W_ret (Fin_block_ret (Fin_then_ret (Fin_then_ret (Fin_block_ret (Fin_then_ret (RetC rfl (Res1 rfl (RV.tmp rfl (Imp.bool (by simp [list_ne_of k h2]))))))))))))
    try simp only [bl] at h2
    refine W_skip (Fin_block (Fin_then (W_region (WL_mv rfl rfl ?_))))
    refine ws (O_add (by omega)) ⟨T1 rfl, C1, trivial⟩ ?_
    refine WL_as rfl rfl ?_
    exact WL_nil (Fin_back (k + 1) ⟨by omega, fun j hj => by rcases Nat.lt_or_ge j k with q | q; exact hx.2 j q; rw [show j = k from by omega]; exact h2⟩ (by omega) ⟨⟨rfl, _, rfl, (by first | exact Imp.refl | exact Imp.slv | exact Imp.nil | exact Imp.int (by omega) | exact Imp.int (by simp; done) | exact Imp.bool (by simp_all; done))⟩, trivial⟩ ⟨rfl, rfl, trivial⟩ rfl rfl)
  try simp only [bl] at h1
  refine W_exit (Fin_then_exit (Fin_then_exit (Fin_block_exit (Fin_then (W_seq (W_region (WL_ac rfl ?_)))))))
  exact WL_nil (Fin_then (W_ret (RetC rfl (Res1 rfl (RV.tmp rfl (Imp.bool (by simp [list_eq_of hlen (fun j hj => hx.2 j (by omega))])))))))
set_option maxRecDepth 8000 in
theorem laws_eqThing (t u : Thg) : FnC Try.prog 51 [A.agg (cThing t), A.agg (cThing u)] (A.bool (decide (t = u))) := by
  refine Fn_of_W Try.func51 rfl rfl fun r w => ?_
  refine W_seq (W_region (ws O_boxg ⟨T1 rfl, trivial⟩ ?_))
  refine ws O_boxg ⟨T1 rfl, trivial⟩ ?_
  refine WL_ac rfl ?_
  refine WL_nil (Fin_then (W_seq (W_seq (W_region (ws (O_field tf86_0) ⟨T1 rfl, trivial⟩ ?_)))))
  refine ws (O_load ta3) ⟨T1 rfl, trivial⟩ ?_
  refine ws (O_field tf86_0) ⟨T1 rfl, trivial⟩ ?_
  refine ws (O_load ta3) ⟨T1 rfl, trivial⟩ ?_
  refine ws O_neq ⟨T1 rfl, T1 rfl, trivial⟩ ?_
  refine WL_nil (Fin_then (W_cond rfl (fun h0 => ?_) (fun h0 => ?_)))
  · skip
    try simp only [bl] at h0
    refine W_seq (W_region (WL_ac rfl ?_))
    exact WL_nil (Fin_then (W_ret (Fin_then_ret (RetC rfl (Res1 rfl (RV.tmp rfl (Imp.bool (by simp only [Thg.eqs]; grind))))))))
  try simp only [bl] at h0
  refine W_skip (Fin_then (W_seq (W_seq (W_region (ws (O_field tf86_1) ⟨T1 rfl, trivial⟩ ?_)))))
  refine ws (O_load ta84) ⟨T1 rfl, trivial⟩ ?_
  refine ws (O_field tf86_1) ⟨T1 rfl, trivial⟩ ?_
  refine ws (O_load ta84) ⟨T1 rfl, trivial⟩ ?_
  refine ws (O_call cf105 (laws_eqValS _ _) rfl) ⟨T1 rfl, T1 rfl, trivial⟩ ?_
  refine ws O_not ⟨T1 rfl, trivial⟩ ?_
  refine WL_nil (Fin_then (W_cond rfl (fun h1 => ?_) (fun h1 => ?_)))
  · skip
    try simp only [bl] at h1
    refine W_seq (W_region (WL_ac rfl ?_))
    exact WL_nil (Fin_then (W_ret (Fin_then_ret (RetC rfl (Res1 rfl (RV.tmp rfl (Imp.bool (by simp only [Thg.eqs]; grind))))))))
  try simp only [bl] at h1
  refine W_skip (Fin_then (W_seq (W_region (WL_ac rfl ?_))))
  exact WL_nil (Fin_then (W_ret (RetC rfl (Res1 rfl (RV.tmp rfl (Imp.bool (by simp only [Thg.eqs]; grind)))))))
set_option maxRecDepth 8000 in
theorem laws_eqThingS (L M : (List Thg)) : FnC Try.prog 18 [A.sl 2 cThing L, A.sl 2 cThing M] (A.bool (decide (L = M))) := by
  refine Fn_of_W Try.func18 rfl rfl fun r w => ?_
  refine W_seq (W_region (WL_ac rfl ?_))
  refine WL_nil (Fin_then (W_seq (W_seq (W_region (WL_mv rfl rfl ?_)))))
  refine WL_len ts33 rfl rfl fun hl7 => ?_
  refine WL_mv rfl rfl ?_
  refine WL_len ts33 rfl rfl fun hl9 => ?_
  refine ws O_neq ⟨T1 rfl, T1 rfl, trivial⟩ ?_
  refine WL_nil (Fin_then (W_cond rfl (fun h0 => ?_) (fun h0 => ?_)))
  · skip
    try simp only [bl] at h0
    have hne : L ≠ M := fun e => by subst e; simp at h0
    refine W_seq (W_region (WL_ac rfl ?_))
    exact WL_nil (Fin_then (W_ret (Fin_then_ret (RetC rfl (Res1 rfl (RV.tmp rfl (Imp.bool (by simp [hne]))))))))
  try simp only [bl] at h0
  have hlen : L.length = M.length := by omega
  refine W_skip (Fin_then (W_seq (W_seq (W_region (WL_ac rfl ?_)))))
  refine WL_nil (Fin_then (W_block (W_loopk [0, 1] (T := Nat) (fun k => k ≤ L.length ∧ ∀ j, j < k → idx L (j : Int) = idx M (j : Int)) (fun k => [(5, true, A.int (k : Int))]) (fun k => L.length - k) 0 ⟨Nat.zero_le _, fun j h => by omega⟩ ⟨⟨rfl, _, rfl, (by first | exact Imp.refl | exact Imp.slv | exact Imp.nil | exact Imp.int (by omega) | exact Imp.int (by simp; done) | exact Imp.bool (by simp_all; done))⟩, trivial⟩ (fun k hx => ?_))))
  have hk := hx.1
  refine W_seq (W_seq (W_region (WL_mv rfl rfl ?_)))
  refine WL_mv rfl rfl ?_
  refine WL_len ts33 rfl rfl fun hl13 => ?_
  refine ws O_lss ⟨T1 rfl, T1 rfl, trivial⟩ ?_
  refine WL_nil (Fin_then (W_cond rfl (fun h1 => ?_) (fun h1 => ?_)))
  · skip
    try simp only [bl] at h1
    refine W_skip (Fin_then (W_seq (W_block (W_seq (W_draw 10 mix rfl rfl ?_)))))
    refine cs O_move ⟨T1 rfl, trivial⟩ ?_
    refine cs O_move ⟨T1 rfl, trivial⟩ ?_
    refine cs (O_index ts33 (by omega)) ⟨T1 rfl, T1 rfl, trivial⟩ ?_
    refine cs (O_loadgw tg86 rfl) ⟨T1 rfl, trivial⟩ ?_
    refine cs O_move ⟨T1 rfl, trivial⟩ ?_
    refine cs O_move ⟨T1 rfl, trivial⟩ ?_
    refine cs (O_index ts33 (by omega)) ⟨T1 rfl, T1 rfl, trivial⟩ ?_
    refine cs (O_loadgw tg86 rfl) ⟨T1 rfl, trivial⟩ ?_
    refine cs (O_call cf51 (laws_eqThing _ _) rfl) ⟨T1 rfl, T1 rfl, trivial⟩ ?_
    refine cs O_not ⟨T1 rfl, trivial⟩ ?_
    refine Chain_nil ?_
    refine WL_nil (Fin_then (W_cond rfl (fun h2 => ?_) (fun h2 => ?_)))
    · skip
      try simp only [bl] at h2
      refine W_seq (W_region (WL_ac rfl ?_))
      exact WL_nil (Fin_then (W_ret (Fin_block_ret (Fin_then_ret (Fin_then_ret (Fin_block_ret (Fin_then_ret (RetC rfl (Res1 rfl (RV.tmp rfl (Imp.bool (by simp [list_ne_of k h2]))))))))))))
    try simp only [bl] at h2
    refine W_skip (Fin_block (Fin_then (W_region (WL_mv rfl rfl ?_))))
    refine ws (O_add (by omega)) ⟨T1 rfl, C1, trivial⟩ ?_
    refine WL_as rfl rfl ?_
    exact WL_nil (Fin_back (k + 1) ⟨by omega, fun j hj => by rcases Nat.lt_or_ge j k with q | q; exact hx.2 j q; rw [show j = k from by omega]; exact h2⟩ (by omega) ⟨⟨rfl, _, rfl, (by first | exact Imp.refl | exact Imp.slv | exact Imp.nil | exact Imp.int (by omega) | exact Imp.int (by simp; done) | exact Imp.bool (by simp_all; done))⟩, trivial⟩ ⟨rfl, rfl, trivial⟩ rfl rfl)
  try simp only [bl] at h1
  refine W_exit (Fin_then_exit (Fin_then_exit (Fin_block_exit (Fin_then (W_seq (W_region (WL_ac rfl ?_)))))))
  exact WL_nil (Fin_then (W_ret (RetC rfl (Res1 rfl (RV.tmp rfl (Imp.bool (by simp [list_eq_of hlen (fun j hj => hx.2 j (by omega))])))))))
set_option maxRecDepth 8000 in
theorem spec_l5Number (n : Int) : FnC Try.prog 106 [A.int n] (A.bool (vnum n)) := by
  refine Fn_of_W Try.func106 rfl rfl fun r w => ?_
  refine W_seq (W_region (WL_ac rfl ?_))
  refine WL_nil (Fin_then (W_seq (W_region (WL_mv rfl rfl ?_))))
  refine ws O_geq ⟨T1 rfl, C1, trivial⟩ ?_
  refine WL_mv rfl rfl ?_
  refine wt1 rfl rfl (fun hc => O_move) ⟨tg rfl, trivial⟩ ?_
  refine wt1 rfl rfl (fun hc => O_lss) ⟨tg rfl, C1, trivial⟩ ?_
  refine ws O_and ⟨T1 rfl, tg rfl, trivial⟩ ?_
  refine WL_as rfl rfl ?_
  exact WL_nil (Fin_then (W_ret (RetC rfl (Res1 rfl (RV.tmp rfl (by first | exact Imp.refl | exact Imp.slv | exact Imp.nil | exact Imp.int (by omega) | exact Imp.int (by simp; done) | exact Imp.bool (by simp_all; done)))))))
set_option maxRecDepth 8000 in
theorem spec_l5Form (v : Vl) (m : Int) : FnC Try.prog 52 [A.agg (cVal v), A.int m] (A.bool (vform v m)) := by
  refine Fn_of_W Try.func52 rfl rfl fun r w => ?_
  refine W_seq (W_region (ws O_boxg ⟨T1 rfl, trivial⟩ ?_))
  refine WL_ac rfl ?_
  refine WL_nil (Fin_then (W_seq (W_seq (W_region (ws (O_field tf35_0) ⟨T1 rfl, trivial⟩ ?_)))))
  refine ws (O_load ta3) ⟨T1 rfl, trivial⟩ ?_
  refine WL_nil (Fin_then (W_block (W_seq (W_seq (W_region (ws O_eql ⟨T1 rfl, C1, trivial⟩ ?_))))))
  refine WL_as rfl rfl ?_
  refine WL_nil (Fin_then (W_cond rfl (fun h0 => ?_) (fun h0 => ?_)))
  · skip
    try simp only [bl] at h0
    refine W_skip (Fin_then (W_cond rfl (fun h1 => ?_) (fun h1 => ?_)))
    · skip
      try simp only [bl] at h1
      refine W_seq (W_region (ws (O_field tf35_1) ⟨T1 rfl, trivial⟩ ?_))
      refine ws (O_load ta3) ⟨T1 rfl, trivial⟩ ?_
      refine ws (O_call cf106 (spec_l5Number _) rfl) ⟨T1 rfl, trivial⟩ ?_
      refine WL_as rfl rfl ?_
      exact WL_nil (Fin_then (W_ret (Fin_block_ret (Fin_then_ret (RetC rfl (Res1 rfl (RV.tmp rfl (Imp.bool (by unfold vform; grind)))))))))
    try simp only [bl] at h1
    refine W_seq (W_region (ws O_eql ⟨T1 rfl, C1, trivial⟩ ?_))
    refine WL_as rfl rfl ?_
    refine WL_nil (Fin_then (W_cond rfl (fun h2 => ?_) (fun h2 => ?_)))
    · skip
      try simp only [bl] at h2
      refine W_seq (W_region (ws (O_field tf35_1) ⟨T1 rfl, trivial⟩ ?_))
      refine ws (O_load ta3) ⟨T1 rfl, trivial⟩ ?_
      refine ws O_eql ⟨T1 rfl, C1, trivial⟩ ?_
      refine WL_as rfl rfl ?_
      exact WL_nil (Fin_then (W_ret (Fin_block_ret (Fin_then_ret (RetC rfl (Res1 rfl (RV.tmp rfl (Imp.bool (by unfold vform; grind)))))))))
    try simp only [bl] at h2
    refine W_seq (W_region (ws O_eql ⟨T1 rfl, C1, trivial⟩ ?_))
    refine WL_as rfl rfl ?_
    refine WL_nil (Fin_then (W_cond rfl (fun h3 => ?_) (fun h3 => ?_)))
    · skip
      try simp only [bl] at h3
      refine W_seq (W_region (ws (O_field tf35_1) ⟨T1 rfl, trivial⟩ ?_))
      refine ws (O_load ta3) ⟨T1 rfl, trivial⟩ ?_
      refine ws O_geq ⟨T1 rfl, C1, trivial⟩ ?_
      refine WL_mv rfl rfl ?_
      refine wt1 rfl rfl (fun hc => (O_field tf35_1)) ⟨tg rfl, trivial⟩ ?_
      refine wt1 rfl rfl (fun hc => (O_load ta3)) ⟨tg rfl, trivial⟩ ?_
      refine wt1 rfl rfl (fun hc => O_move) ⟨tg rfl, trivial⟩ ?_
      refine wt1 rfl rfl (fun hc => O_lss) ⟨tg rfl, tg rfl, trivial⟩ ?_
      refine ws O_and ⟨T1 rfl, tg rfl, trivial⟩ ?_
      refine WL_as rfl rfl ?_
      exact WL_nil (Fin_then (W_ret (Fin_block_ret (Fin_then_ret (RetC rfl (Res1 rfl (RV.tmp rfl (Imp.bool (by unfold vform; grind)))))))))
    try simp only [bl] at h3
    refine W_skip (Fin_block (Fin_then (W_seq (W_region (WL_ac rfl ?_)))))
    exact WL_nil (Fin_then (W_ret (RetC rfl (Res1 rfl (RV.tmp rfl (Imp.bool (by unfold vform; grind)))))))
  try simp only [bl] at h0
  refine W_region (ws O_eql ⟨T1 rfl, C1, trivial⟩ ?_)
  refine WL_as rfl rfl ?_
  refine WL_nil (Fin_then (W_cond rfl (fun h1 => ?_) (fun h1 => ?_)))
  · skip
    try simp only [bl] at h1
    refine W_seq (W_region (ws (O_field tf35_1) ⟨T1 rfl, trivial⟩ ?_))
    refine ws (O_load ta3) ⟨T1 rfl, trivial⟩ ?_
    refine ws (O_call cf106 (spec_l5Number _) rfl) ⟨T1 rfl, trivial⟩ ?_
    refine WL_as rfl rfl ?_
    exact WL_nil (Fin_then (W_ret (Fin_block_ret (Fin_then_ret (RetC rfl (Res1 rfl (RV.tmp rfl (Imp.bool (by unfold vform; grind)))))))))
  try simp only [bl] at h1
  refine W_seq (W_region (ws O_eql ⟨T1 rfl, C1, trivial⟩ ?_))
  refine WL_as rfl rfl ?_
  refine WL_nil (Fin_then (W_cond rfl (fun h2 => ?_) (fun h2 => ?_)))
  · skip
    try simp only [bl] at h2
    refine W_seq (W_region (ws (O_field tf35_1) ⟨T1 rfl, trivial⟩ ?_))
    refine ws (O_load ta3) ⟨T1 rfl, trivial⟩ ?_
    refine ws O_eql ⟨T1 rfl, C1, trivial⟩ ?_
    refine WL_as rfl rfl ?_
    exact WL_nil (Fin_then (W_ret (Fin_block_ret (Fin_then_ret (RetC rfl (Res1 rfl (RV.tmp rfl (Imp.bool (by unfold vform; grind)))))))))
  try simp only [bl] at h2
  refine W_seq (W_region (ws O_eql ⟨T1 rfl, C1, trivial⟩ ?_))
  refine WL_as rfl rfl ?_
  refine WL_nil (Fin_then (W_cond rfl (fun h3 => ?_) (fun h3 => ?_)))
  · skip
    try simp only [bl] at h3
    refine W_seq (W_region (ws (O_field tf35_1) ⟨T1 rfl, trivial⟩ ?_))
    refine ws (O_load ta3) ⟨T1 rfl, trivial⟩ ?_
    refine ws O_geq ⟨T1 rfl, C1, trivial⟩ ?_
    refine WL_mv rfl rfl ?_
    refine wt1 rfl rfl (fun hc => (O_field tf35_1)) ⟨tg rfl, trivial⟩ ?_
    refine wt1 rfl rfl (fun hc => (O_load ta3)) ⟨tg rfl, trivial⟩ ?_
    refine wt1 rfl rfl (fun hc => O_move) ⟨tg rfl, trivial⟩ ?_
    refine wt1 rfl rfl (fun hc => O_lss) ⟨tg rfl, tg rfl, trivial⟩ ?_
    refine ws O_and ⟨T1 rfl, tg rfl, trivial⟩ ?_
    refine WL_as rfl rfl ?_
    exact WL_nil (Fin_then (W_ret (Fin_block_ret (Fin_then_ret (RetC rfl (Res1 rfl (RV.tmp rfl (Imp.bool (by unfold vform; grind)))))))))
  try simp only [bl] at h3
  refine W_skip (Fin_block (Fin_then (W_seq (W_region (WL_ac rfl ?_)))))
  exact WL_nil (Fin_then (W_ret (RetC rfl (Res1 rfl (RV.tmp rfl (Imp.bool (by unfold vform; grind)))))))
set_option maxRecDepth 8000 in
theorem spec_l5Of (T : List Thg) (v : Vl) (hv : v.kind = 3 ∨ (0 ≤ v.n ∧ v.n < T.length)) : FnC Try.prog 88 [A.sl 2 cThing T, A.agg (cVal v)] (A.int (vof T v)) := by
  refine Fn_of_W Try.func88 rfl rfl fun r w => ?_
  refine W_seq (W_region (ws O_boxg ⟨T1 rfl, trivial⟩ ?_))
  refine WL_ac rfl ?_
  refine WL_nil (Fin_then (W_seq (W_seq (W_region (ws (O_field tf35_0) ⟨T1 rfl, trivial⟩ ?_)))))
  refine ws (O_load ta3) ⟨T1 rfl, trivial⟩ ?_
  refine ws O_eql ⟨T1 rfl, C1, trivial⟩ ?_
  refine WL_nil (Fin_then (W_cond rfl (fun h0 => ?_) (fun h0 => ?_)))
  · skip
    try simp only [bl] at h0
    refine W_seq (W_region (WL_ac rfl ?_))
    exact WL_nil (Fin_then (W_ret (Fin_then_ret (RetC rfl (Res1 rfl (RV.tmp rfl (Imp.int (by unfold vof; grind))))))))
  try simp only [bl] at h0
  refine W_skip (Fin_then (W_seq (W_region (WL_mv rfl rfl ?_))))
  refine ws (O_field tf35_1) ⟨T1 rfl, trivial⟩ ?_
  refine ws (O_load ta3) ⟨T1 rfl, trivial⟩ ?_
  refine ws (O_index ts33 (by omega)) ⟨T1 rfl, T1 rfl, trivial⟩ ?_
  refine ws (O_field tf86_0) ⟨T1 rfl, trivial⟩ ?_
  refine ws (O_load ta3) ⟨T1 rfl, trivial⟩ ?_
  refine WL_as rfl rfl ?_
  exact WL_nil (Fin_then (W_ret (RetC rfl (Res1 rfl (RV.tmp rfl (Imp.int (by unfold vof; grind)))))))
set_option maxRecDepth 8000 in
theorem spec_l5Fits (G : Kin) (hG : Small G) (hk : kinOk G = true) (T : List Thg) (v : Vl) (f : Fld) (hf : fieldOk f (kcnt G) = true) : FnC Try.prog 44 [A.sl 1 cGrp G, A.sl 2 cThing T, A.agg (cVal v), A.agg (cFld f)] (A.bool (vfits G T v f)) := by
  have hr := fieldOk_rng hf
  have hp := kparts_ok (kinOk_parts hk)
  refine Fn_of_W Try.func44 rfl rfl fun r w => ?_
  refine W_seq (W_region (ws O_boxg ⟨T1 rfl, trivial⟩ ?_))
  refine ws O_boxg ⟨T1 rfl, trivial⟩ ?_
  refine WL_ac rfl ?_
  refine WL_nil (Fin_then (W_seq (W_seq (W_region (ws (O_loadgw tg35 rfl) ⟨T1 rfl, trivial⟩ ?_)))))
  refine WL_mv rfl rfl ?_
  refine WL_len ts33 rfl rfl fun hl13 => ?_
  refine ws (O_call cf52 (spec_l5Form _ _) rfl) ⟨T1 rfl, T1 rfl, trivial⟩ ?_
  refine ws O_not ⟨T1 rfl, trivial⟩ ?_
  refine WL_nil (Fin_then (W_cond rfl (fun h0 => ?_) (fun h0 => ?_)))
  · skip
    try simp only [bl] at h0
    refine W_seq (W_region (WL_ac rfl ?_))
    exact WL_nil (Fin_then (W_ret (Fin_then_ret (RetC rfl (Res1 rfl (RV.tmp rfl (Imp.bool (by unfold vfits; grind))))))))
  try simp only [bl] at h0
  refine W_skip (Fin_then (W_seq (W_seq (W_region (ws (O_field tf37_0) ⟨T1 rfl, trivial⟩ ?_)))))
  refine ws (O_load ta3) ⟨T1 rfl, trivial⟩ ?_
  refine ws O_eql ⟨T1 rfl, C1, trivial⟩ ?_
  refine WL_mv rfl rfl ?_
  refine wf1 rfl rfl (fun hc => (O_field tf35_0)) ⟨tg rfl, trivial⟩ ?_
  refine wf1 rfl rfl (fun hc => (O_load ta3)) ⟨tg rfl, trivial⟩ ?_
  refine wf1 rfl rfl (fun hc => O_eql) ⟨tg rfl, C1, trivial⟩ ?_
  refine ws O_or ⟨T1 rfl, tg rfl, trivial⟩ ?_
  refine WL_nil (Fin_then (W_cond rfl (fun h1 => ?_) (fun h1 => ?_)))
  · skip
    try simp only [bl] at h1
    refine W_seq (W_region (ws (O_field tf37_0) ⟨T1 rfl, trivial⟩ ?_))
    refine ws (O_load ta3) ⟨T1 rfl, trivial⟩ ?_
    refine ws O_eql ⟨T1 rfl, C1, trivial⟩ ?_
    refine WL_mv rfl rfl ?_
    refine wt1 rfl rfl (fun hc => (O_field tf35_0)) ⟨tg rfl, trivial⟩ ?_
    refine wt1 rfl rfl (fun hc => (O_load ta3)) ⟨tg rfl, trivial⟩ ?_
    refine wt1 rfl rfl (fun hc => O_eql) ⟨tg rfl, C1, trivial⟩ ?_
    refine ws O_and ⟨T1 rfl, tg rfl, trivial⟩ ?_
    refine WL_as rfl rfl ?_
    exact WL_nil (Fin_then (W_ret (Fin_then_ret (RetC rfl (Res1 rfl (RV.tmp rfl (Imp.bool (by unfold vfits; grind))))))))
  try simp only [bl] at h1
  refine W_skip (Fin_then (W_seq (W_seq (W_region (ws (O_field tf35_0) ⟨T1 rfl, trivial⟩ ?_)))))
  refine ws (O_load ta3) ⟨T1 rfl, trivial⟩ ?_
  refine ws O_eql ⟨T1 rfl, C1, trivial⟩ ?_
  refine WL_nil (Fin_then (W_cond rfl (fun h2 => ?_) (fun h2 => ?_)))
  · skip
    try simp only [bl] at h2
    refine W_seq (W_region (ws (O_field tf37_0) ⟨T1 rfl, trivial⟩ ?_))
    refine ws (O_load ta3) ⟨T1 rfl, trivial⟩ ?_
    refine ws O_eql ⟨T1 rfl, C1, trivial⟩ ?_
    refine WL_as rfl rfl ?_
    exact WL_nil (Fin_then (W_ret (Fin_then_ret (RetC rfl (Res1 rfl (RV.tmp rfl (Imp.bool (by unfold vfits; grind))))))))
  try simp only [bl] at h2
  refine W_skip (Fin_then (W_seq (W_region (WL_mv rfl rfl ?_))))
  refine ws (O_call cf43 (spec_KinCount _ (by assumption)) rfl) ⟨T1 rfl, trivial⟩ ?_
  refine WL_as rfl rfl ?_
  refine WL_nil (Fin_then (W_seq (W_region (WL_mv rfl rfl ?_))))
  refine ws (O_loadgw tg35 rfl) ⟨T1 rfl, trivial⟩ ?_
  refine ws (O_call cf88 (spec_l5Of _ _ (by grind [vform])) rfl) ⟨T1 rfl, T1 rfl, trivial⟩ ?_
  refine WL_as rfl rfl ?_
  refine WL_nil (Fin_then (W_seq (W_region (WL_mv rfl rfl ?_))))
  refine WL_mv rfl rfl ?_
  refine ws (O_call cf89 (spec_l1Of _ _) rfl) ⟨T1 rfl, T1 rfl, trivial⟩ ?_
  refine WL_mv rfl rfl ?_
  refine wt1 rfl rfl (fun hc => (O_field tf35_0)) ⟨tg rfl, trivial⟩ ?_
  refine wt1 rfl rfl (fun hc => (O_load ta3)) ⟨tg rfl, trivial⟩ ?_
  refine wt1 rfl rfl (fun hc => O_eql) ⟨tg rfl, C1, trivial⟩ ?_
  refine wt1 rfl rfl (fun hc => O_move) ⟨tg rfl, trivial⟩ ?_
  refine wf rfl rfl (fun hc => O_move) ⟨tg rfl, trivial⟩ ?_
  refine wf rfl rfl (fun hc => O_geq) ⟨tg rfl, C1, trivial⟩ ?_
  refine wt1 rfl rfl (fun hc => O_or) ⟨tg rfl, tg rfl, trivial⟩ ?_
  refine ws O_and ⟨T1 rfl, tg rfl, trivial⟩ ?_
  refine WL_mv rfl rfl ?_
  refine wt1 rfl rfl (fun hc => O_move) ⟨tg rfl, trivial⟩ ?_
  refine wt1 rfl rfl (fun hc => O_move) ⟨tg rfl, trivial⟩ ?_
  refine wt1 rfl rfl (fun hc => (O_field tf37_1)) ⟨tg rfl, trivial⟩ ?_
  refine wt1 rfl rfl (fun hc => (O_load ta3)) ⟨tg rfl, trivial⟩ ?_
  refine wt1 rfl rfl (fun hc => (O_call cf90 (spec_l1Under _ (by assumption) hp.ups _ _ (by grind) (by grind)) rfl)) ⟨tg rfl, tg rfl, tg rfl, trivial⟩ ?_
  refine ws O_and ⟨T1 rfl, tg rfl, trivial⟩ ?_
  refine WL_as rfl rfl ?_
  exact WL_nil (Fin_then (W_ret (RetC rfl (Res1 rfl (RV.tmp rfl (Imp.bool (by unfold vfits; grind)))))))
set_option maxRecDepth 8000 in
theorem spec_ValFits (G : Kin) (hG : Small G) (T : List Thg) (v : Vl) (f : Fld) : FnC Try.prog 11 [A.sl 1 cGrp G, A.sl 2 cThing T, A.agg (cVal v), A.agg (cFld f)] (A.bool (valFits G T v f)) := by
  refine Fn_of_W Try.func11 rfl rfl fun r w => ?_
  refine W_seq (W_region (ws O_boxg ⟨T1 rfl, trivial⟩ ?_))
  refine ws O_boxg ⟨T1 rfl, trivial⟩ ?_
  refine WL_ac rfl ?_
  refine WL_nil (Fin_then (W_seq (W_draw 15 mix rfl rfl ?_)))
  refine cs O_move ⟨T1 rfl, trivial⟩ ?_
  refine cs (O_call cf41 (spec_KinOk _ (by assumption)) rfl) ⟨T1 rfl, trivial⟩ ?_
  refine cs O_move ⟨T1 rfl, trivial⟩ ?_
  refine ct1 rfl rfl (fun hc => (O_loadgw tg37 rfl)) ⟨tg rfl, trivial⟩ ?_
  refine ct1 rfl rfl (fun hc => O_move) ⟨tg rfl, trivial⟩ ?_
  refine ct1 rfl rfl (fun hc => (O_call cf43 (spec_KinCount _ (by assumption)) rfl)) ⟨tg rfl, trivial⟩ ?_
  refine ct1 rfl rfl (fun hc => (O_call cf42 (spec_FieldOk _ _) rfl)) ⟨tg rfl, tg rfl, trivial⟩ ?_
  refine cs O_and ⟨T1 rfl, tg rfl, trivial⟩ ?_
  refine cs O_move ⟨T1 rfl, trivial⟩ ?_
  refine ct1 rfl rfl (fun hc => O_move) ⟨tg rfl, trivial⟩ ?_
  refine ct1 rfl rfl (fun hc => O_move) ⟨tg rfl, trivial⟩ ?_
  refine ct1 rfl rfl (fun hc => (O_loadgw tg35 rfl)) ⟨tg rfl, trivial⟩ ?_
  refine ct1 rfl rfl (fun hc => (O_loadgw tg37 rfl)) ⟨tg rfl, trivial⟩ ?_
  refine ct1 rfl rfl (fun hc => (O_call cf44 (spec_l5Fits _ (by assumption) (by grind) _ _ _ (by grind)) rfl)) ⟨tg rfl, tg rfl, tg rfl, tg rfl, trivial⟩ ?_
  refine cs O_and ⟨T1 rfl, tg rfl, trivial⟩ ?_
  refine Chain_nil ?_
  refine WL_as rfl rfl ?_
  exact WL_nil (Fin_then (W_ret (RetC rfl (Res1 rfl (RV.tmp rfl (Imp.bool (by unfold valFits; grind)))))))
set_option maxRecDepth 8000 in
theorem spec_l5Tell (G : Kin) (hG : Small G) (hk : kinOk G = true) (T : List Thg) (v : Vl) (hv : vform v T.length = true) (ht : v.kind = 4 → 0 ≤ (idx T v.n).ty ∧ (idx T v.n).ty < kcnt G) : FnC Try.prog 53 [A.sl 1 cGrp G, A.sl 2 cThing T, A.agg (cVal v)] (A.int (vtell G T v)) := by
  have hK := KG.of hG hk
  have hq : (v.kind = 1 ∨ v.kind = 3) ∧ 0 ≤ v.n ∧ v.n < 9973 ∨ v.kind = 2 ∨ v.kind = 4 ∧ 0 ≤ v.n ∧ v.n < T.length := by unfold vform vnum at hv; grind
  refine Fn_of_W Try.func53 rfl rfl fun r w => ?_
  refine W_seq (W_region (ws O_boxg ⟨T1 rfl, trivial⟩ ?_))
  refine WL_ac rfl ?_
  refine WL_nil (Fin_then (W_seq (W_seq (W_region (ws (O_field tf35_0) ⟨T1 rfl, trivial⟩ ?_)))))
  refine ws (O_load ta3) ⟨T1 rfl, trivial⟩ ?_
  refine WL_nil (Fin_then (W_block (W_seq (W_region (ws O_eql ⟨T1 rfl, C1, trivial⟩ ?_)))))
  refine WL_as rfl rfl ?_
  refine WL_nil (Fin_then (W_cond rfl (fun h0 => ?_) (fun h0 => ?_)))
  · skip
    try simp only [bl] at h0
    refine W_seq (W_region (ws (O_field tf35_1) ⟨T1 rfl, trivial⟩ ?_))
    refine ws (O_load ta3) ⟨T1 rfl, trivial⟩ ?_
    refine WL_as rfl rfl ?_
    exact WL_nil (Fin_then (W_ret (Fin_block_ret (Fin_then_ret (RetC rfl (Res1 rfl (RV.tmp rfl (Imp.int (by unfold vtell; grind)))))))))
  try simp only [bl] at h0
  refine W_seq (W_region (ws O_eql ⟨T1 rfl, C1, trivial⟩ ?_))
  refine WL_as rfl rfl ?_
  refine WL_nil (Fin_then (W_cond rfl (fun h1 => ?_) (fun h1 => ?_)))
  · skip
    try simp only [bl] at h1
    refine W_seq (W_region (WL_ac rfl ?_))
    exact WL_nil (Fin_then (W_ret (Fin_block_ret (Fin_then_ret (RetC rfl (Res1 rfl (RV.tmp rfl (Imp.int (by unfold vtell; grind)))))))))
  try simp only [bl] at h1
  refine W_seq (W_region (ws O_eql ⟨T1 rfl, C1, trivial⟩ ?_))
  refine WL_as rfl rfl ?_
  refine WL_nil (Fin_then (W_cond rfl (fun h2 => ?_) (fun h2 => ?_)))
  · skip
    try simp only [bl] at h2
    refine W_seq (W_region (ws (O_field tf35_1) ⟨T1 rfl, trivial⟩ ?_))
    refine ws (O_load ta3) ⟨T1 rfl, trivial⟩ ?_
    refine ws (O_sub (by omega)) ⟨C1, T1 rfl, trivial⟩ ?_
    refine WL_as rfl rfl ?_
    exact WL_nil (Fin_then (W_ret (Fin_block_ret (Fin_then_ret (RetC rfl (Res1 rfl (RV.tmp rfl (Imp.int (by unfold vtell; grind)))))))))
  try simp only [bl] at h2
  have hty := ht (by omega)
  have hc8 := ksmall_canon hK hty.1 hty.2
  refine W_skip (Fin_block (Fin_then (W_seq (W_region (WL_mv rfl rfl ?_)))))
  refine WL_mv rfl rfl ?_
  refine ws (O_field tf35_1) ⟨T1 rfl, trivial⟩ ?_
  refine ws (O_load ta3) ⟨T1 rfl, trivial⟩ ?_
  refine ws (O_index ts33 (by omega)) ⟨T1 rfl, T1 rfl, trivial⟩ ?_
  refine ws (O_field tf86_0) ⟨T1 rfl, trivial⟩ ?_
  refine ws (O_load ta3) ⟨T1 rfl, trivial⟩ ?_
  refine ws (O_call cf107 (spec_l1Canon _ (by assumption) _ (by omega) (by omega)) rfl) ⟨T1 rfl, T1 rfl, trivial⟩ ?_
  refine ws (O_add (by omega)) ⟨C1, T1 rfl, trivial⟩ ?_
  refine WL_as rfl rfl ?_
  exact WL_nil (Fin_then (W_ret (RetC rfl (Res1 rfl (RV.tmp rfl (Imp.int (by unfold vtell; grind)))))))
set_option maxRecDepth 8000 in
theorem spec_ValTell (G : Kin) (hG : Small G) (T : List Thg) (v : Vl) : FnC Try.prog 19 [A.sl 1 cGrp G, A.sl 2 cThing T, A.agg (cVal v)] (A.int (valTell G T v)) := by
  refine Fn_of_W Try.func19 rfl rfl fun r w => ?_
  refine W_seq (W_region (ws O_boxg ⟨T1 rfl, trivial⟩ ?_))
  refine WL_ac rfl ?_
  refine WL_nil (Fin_then (W_seq (W_seq (W_region (WL_mv rfl rfl ?_)))))
  refine ws (O_call cf41 (spec_KinOk _ (by assumption)) rfl) ⟨T1 rfl, trivial⟩ ?_
  refine ws O_not ⟨T1 rfl, trivial⟩ ?_
  refine WL_mv rfl rfl ?_
  refine wf1 rfl rfl (fun hc => (O_loadgw tg35 rfl)) ⟨tg rfl, trivial⟩ ?_
  refine wf1 rfl rfl (fun hc => O_move) ⟨tg rfl, trivial⟩ ?_
  refine wf1 rfl rfl (fun hc => (O_len ts33)) ⟨tg rfl, trivial⟩ ?_
  refine wf1 rfl rfl (fun hc => (O_call cf52 (spec_l5Form _ _) rfl)) ⟨tg rfl, tg rfl, trivial⟩ ?_
  refine wf1 rfl rfl (fun hc => O_not) ⟨tg rfl, trivial⟩ ?_
  refine ws O_or ⟨T1 rfl, tg rfl, trivial⟩ ?_
  refine WL_nil (Fin_then (W_cond rfl (fun h0 => ?_) (fun h0 => ?_)))
  · skip
    try simp only [bl] at h0
    refine W_seq (W_region (WL_ac rfl ?_))
    exact WL_nil (Fin_then (W_ret (Fin_then_ret (RetC rfl (Res1 rfl (RV.tmp rfl (Imp.int (by unfold valTell; grind))))))))
  try simp only [bl] at h0
  have hq : v.kind = 4 → 0 ≤ v.n ∧ v.n < T.length := by intro h4; have hv := h0.2; unfold vform at hv; grind
  refine W_skip (Fin_then (W_seq (W_seq (W_draw 23 mix rfl rfl ?_))))
  refine cs (O_field tf35_0) ⟨T1 rfl, trivial⟩ ?_
  refine cs (O_load ta3) ⟨T1 rfl, trivial⟩ ?_
  refine cs O_eql ⟨T1 rfl, C1, trivial⟩ ?_
  refine cs O_move ⟨T1 rfl, trivial⟩ ?_
  refine ct1 rfl rfl (fun hc => O_move) ⟨tg rfl, trivial⟩ ?_
  refine ct1 rfl rfl (fun hc => (O_field tf35_1)) ⟨tg rfl, trivial⟩ ?_
  refine ct1 rfl rfl (fun hc => (O_load ta3)) ⟨tg rfl, trivial⟩ ?_
  refine ct1 rfl rfl (fun hc => (O_index ts33 (by (try simp only [bl] at hc); omega))) ⟨tg rfl, tg rfl, trivial⟩ ?_
  refine ct1 rfl rfl (fun hc => (O_field tf86_0)) ⟨tg rfl, trivial⟩ ?_
  refine ct1 rfl rfl (fun hc => (O_load ta3)) ⟨tg rfl, trivial⟩ ?_
  refine ct1 rfl rfl (fun hc => O_lss) ⟨tg rfl, C1, trivial⟩ ?_
  refine ct1 rfl rfl (fun hc => O_move) ⟨tg rfl, trivial⟩ ?_
  refine cf rfl rfl (fun hc => O_move) ⟨tg rfl, trivial⟩ ?_
  refine cf rfl rfl (fun hc => (O_field tf35_1)) ⟨tg rfl, trivial⟩ ?_
  refine cf rfl rfl (fun hc => (O_load ta3)) ⟨tg rfl, trivial⟩ ?_
  refine cf rfl rfl (fun hc => (O_index ts33 (by (try simp only [bl] at hc); omega))) ⟨tg rfl, tg rfl, trivial⟩ ?_
  refine cf rfl rfl (fun hc => (O_field tf86_0)) ⟨tg rfl, trivial⟩ ?_
  refine cf rfl rfl (fun hc => (O_load ta3)) ⟨tg rfl, trivial⟩ ?_
  refine cf rfl rfl (fun hc => O_move) ⟨tg rfl, trivial⟩ ?_
  refine cf rfl rfl (fun hc => (O_call cf43 (spec_KinCount _ (by assumption)) rfl)) ⟨tg rfl, trivial⟩ ?_
  refine cf rfl rfl (fun hc => O_geq) ⟨tg rfl, tg rfl, trivial⟩ ?_
  refine ct1 rfl rfl (fun hc => O_or) ⟨tg rfl, tg rfl, trivial⟩ ?_
  refine cs O_and ⟨T1 rfl, tg rfl, trivial⟩ ?_
  refine Chain_nil ?_
  refine WL_nil (Fin_then (W_cond rfl (fun h1 => ?_) (fun h1 => ?_)))
  · skip
    try simp only [bl] at h1
    refine W_seq (W_region (WL_ac rfl ?_))
    exact WL_nil (Fin_then (W_ret (Fin_then_ret (RetC rfl (Res1 rfl (RV.tmp rfl (Imp.int (by unfold valTell; grind))))))))
  try simp only [bl] at h1
  refine W_skip (Fin_then (W_seq (W_region (WL_mv rfl rfl ?_))))
  refine WL_mv rfl rfl ?_
  refine ws (O_loadgw tg35 rfl) ⟨T1 rfl, trivial⟩ ?_
  refine ws (O_call cf53 (spec_l5Tell _ (by assumption) (by grind) _ _ (by grind) (by grind)) rfl) ⟨T1 rfl, T1 rfl, T1 rfl, trivial⟩ ?_
  refine WL_as rfl rfl ?_
  exact WL_nil (Fin_then (W_ret (RetC rfl (Res1 rfl (RV.tmp rfl (Imp.int (by unfold valTell; grind)))))))
set_option maxRecDepth 8000 in
theorem impl_isNum (n : Int) : FnC Try.prog 100 [A.int n] (A.bool (vnum n)) := by
  refine Fn_of_W Try.func100 rfl rfl fun r w => ?_
  refine W_seq (W_region (WL_ac rfl ?_))
  refine WL_nil (Fin_then (W_seq (W_region (WL_mv rfl rfl ?_))))
  refine ws O_geq ⟨T1 rfl, C1, trivial⟩ ?_
  refine WL_mv rfl rfl ?_
  refine wt1 rfl rfl (fun hc => O_move) ⟨tg rfl, trivial⟩ ?_
  refine wt1 rfl rfl (fun hc => O_lss) ⟨tg rfl, C1, trivial⟩ ?_
  refine ws O_and ⟨T1 rfl, tg rfl, trivial⟩ ?_
  refine WL_as rfl rfl ?_
  exact WL_nil (Fin_then (W_ret (RetC rfl (Res1 rfl (RV.tmp rfl (by first | exact Imp.refl | exact Imp.slv | exact Imp.nil | exact Imp.int (by omega) | exact Imp.int (by simp; done) | exact Imp.bool (by simp_all; done)))))))
set_option maxRecDepth 8000 in
theorem impl_shelf_thing (T : List Thg) (n : Int) : FnC Try.prog 103 [A.pt [A.sl 2 cThing T], A.int n] (A.tup [A.agg (cThing (tfind T n).1), A.bool (tfind T n).2]) := by
  refine Fn_of_W Try.func103 rfl rfl fun r w => ?_
  refine W_seq (W_region (WL_alloc tz86 rfl fun b4 => ?_))
  refine WL_ac rfl ?_
  refine WL_nil (Fin_then (W_seq (W_seq (W_region (WL_mv rfl rfl ?_)))))
  refine ws O_lss ⟨T1 rfl, C1, trivial⟩ ?_
  refine WL_mv rfl rfl ?_
  refine wf1 rfl rfl (fun hc => O_move) ⟨tg rfl, trivial⟩ ?_
  refine wf1 rfl rfl (fun hc => O_move) ⟨tg rfl, trivial⟩ ?_
  refine wf1 rfl rfl (fun hc => O_nilCheck) ⟨tg rfl, trivial⟩ ?_
  refine wf1 rfl rfl (fun hc => (O_field tf163_0)) ⟨tg rfl, trivial⟩ ?_
  refine wf1 rfl rfl (fun hc => (O_load ta33)) ⟨tg rfl, trivial⟩ ?_
  refine wf1 rfl rfl (fun hc => (O_len ts33)) ⟨tg rfl, trivial⟩ ?_
  refine wf1 rfl rfl (fun hc => O_geq) ⟨tg rfl, tg rfl, trivial⟩ ?_
  refine ws O_or ⟨T1 rfl, tg rfl, trivial⟩ ?_
  refine WL_nil (Fin_then (W_cond rfl (fun h0 => ?_) (fun h0 => ?_)))
  · skip
    try simp only [bl] at h0
    refine W_seq (W_region (ws (O_build [] tb86 rfl trivial rfl) trivial ?_))
    refine WL_store 0 rfl ⟨T1 rfl, T1 rfl, trivial⟩ (CellsOf.agg (by exact ⟨OneV.int, OneV.slv, trivial⟩)) sz86 (Nat.le_of_ble_eq_true rfl) ?_
    refine WL_ac rfl ?_
    exact WL_nil (Fin_then (W_ret (Fin_then_ret (RetC rfl (Res2 rfl (RV.cellg 0 rfl tg86 rfl rfl (Imp.agg (by rw [tfind_no (by omega)]; exact ⟨Imp.refl, Imp.nil, trivial⟩))) (RV.tmp rfl (Imp.bool (by rw [tfind_no (by omega)]))))))))
  try simp only [bl] at h0
  refine W_skip (Fin_then (W_seq (W_region (WL_mv rfl rfl ?_))))
  refine ws O_nilCheck ⟨T1 rfl, trivial⟩ ?_
  refine ws (O_field tf163_0) ⟨T1 rfl, trivial⟩ ?_
  refine ws (O_load ta33) ⟨T1 rfl, trivial⟩ ?_
  refine WL_mv rfl rfl ?_
  refine ws (O_index ts33 (by omega)) ⟨T1 rfl, T1 rfl, trivial⟩ ?_
  refine ws (O_loadgw tg86 rfl) ⟨T1 rfl, trivial⟩ ?_
  refine WL_store 0 rfl ⟨T1 rfl, T1 rfl, trivial⟩ (CellsOf.agg (by exact ⟨OneV.int, OneV.sl, trivial⟩)) sz86 (Nat.le_of_ble_eq_true rfl) ?_
  refine WL_ac rfl ?_
  exact WL_nil (Fin_then (W_ret (RetC rfl (Res2 rfl (RV.cellg 0 rfl tg86 rfl rfl (Imp.eq (by rw [tfind_yes (by omega)]; rfl))) (RV.tmp rfl (Imp.bool (by rw [tfind_yes (by omega)])))))))
set_option maxRecDepth 8000 in
theorem impl_findIn (T : List Thg) : FnC Try.prog 49 [A.sl 2 cThing T] (A.mc 103 [A.pt [A.sl 2 cThing T]]) := by
  refine Fn_of_W Try.func49 rfl rfl fun r w => ?_
  refine W_seq (W_region (WL_ac rfl ?_))
  refine WL_nil (Fin_then (W_seq (W_region (WL_mv rfl rfl ?_))))
  refine ws (O_build [(_, _)] tb163 rfl ⟨(CellsOf.one OneV.sl), trivial⟩ rfl) ⟨T1 rfl, trivial⟩ ?_
  refine ws O_boxg ⟨T1 rfl, trivial⟩ ?_
  refine ws (O_makeBound (bs := [_]) rfl) ⟨T1 rfl, trivial⟩ ?_
  refine WL_as rfl rfl ?_
  exact WL_nil (Fin_then (W_ret (RetC rfl (Res1 rfl (RV.tmp rfl (by first | exact Imp.refl | exact Imp.slv | exact Imp.nil | exact Imp.int (by omega) | exact Imp.int (by simp; done) | exact Imp.bool (by simp_all; done)))))))
set_option maxRecDepth 8000 in
theorem impl_refOf (L : List Row) (c : List Int) (m : Int) (hm : (L.length : Int) = m) (v : Vl) (fd : Int → Thg × Bool) (f0 : FuncId) (bs : List A) (hf : CallF Try.prog f0) (hvn : inI v.n) (hp : ∀ n, inI n → FnC Try.prog f0 (bs ++ [A.int n]) (A.tup [A.agg (cThing (fd n).1), A.bool (fd n).2])) : FnC Try.prog 101 [kP L c, A.agg (cVal v), A.mc f0 bs] (A.tup [A.int (refOf m fd v).1, A.bool (refOf m fd v).2]) := by
  refine Fn_of_W Try.func101 rfl rfl fun r w => ?_
  refine W_seq (W_region (ws O_boxg ⟨T1 rfl, trivial⟩ ?_))
  refine WL_ac rfl ?_
  refine WL_ac rfl ?_
  refine WL_nil (Fin_then (W_seq (W_seq (W_region (ws (O_field tf35_0) ⟨T1 rfl, trivial⟩ ?_)))))
  refine ws (O_load ta3) ⟨T1 rfl, trivial⟩ ?_
  refine WL_nil (Fin_then (W_block (W_seq (W_region (ws O_eql ⟨T1 rfl, C1, trivial⟩ ?_)))))
  refine WL_as rfl rfl ?_
  refine WL_nil (Fin_then (W_cond rfl (fun h0 => ?_) (fun h0 => ?_)))
  · skip
    try simp only [bl] at h0
    refine W_seq (W_region (ws (O_field tf35_1) ⟨T1 rfl, trivial⟩ ?_))
    refine ws (O_load ta3) ⟨T1 rfl, trivial⟩ ?_
    refine ws (O_call cf100 (impl_isNum _) rfl) ⟨T1 rfl, trivial⟩ ?_
    refine WL_ac rfl ?_
    refine WL_as rfl rfl ?_
    exact WL_nil (Fin_then (W_ret (Fin_block_ret (Fin_then_ret (RetC rfl (Res2 rfl (RV.tmp rfl (by first | exact Imp.int (by unfold refOf; grind) | exact Imp.bool (by unfold refOf; grind))) (RV.tmp rfl (by first | exact Imp.int (by unfold refOf; grind) | exact Imp.bool (by unfold refOf; grind)))))))))
  try simp only [bl] at h0
  refine W_seq (W_region (ws O_eql ⟨T1 rfl, C1, trivial⟩ ?_))
  refine WL_as rfl rfl ?_
  refine WL_nil (Fin_then (W_cond rfl (fun h1 => ?_) (fun h1 => ?_)))
  · skip
    try simp only [bl] at h1
    refine W_seq (W_region (WL_mv rfl rfl ?_))
    refine ws (O_field tf35_1) ⟨T1 rfl, trivial⟩ ?_
    refine ws (O_load ta3) ⟨T1 rfl, trivial⟩ ?_
    refine ws (O_callmc hf (hp _ hvn) rfl) ⟨T1 rfl, T1 rfl, trivial⟩ ?_
    refine WL_mv rfl rfl ?_
    refine ws (O_extract rfl) ⟨T1 rfl, trivial⟩ ?_
    refine ws (O_extract rfl) ⟨T1 rfl, trivial⟩ ?_
    refine WL_alloc tz86 rfl fun b8 => ?_
    refine WL_store 0 rfl ⟨T1 rfl, T1 rfl, trivial⟩ (CellsOf.agg (by exact ⟨OneV.int, OneV.sl, trivial⟩)) sz86 (Nat.le_of_ble_eq_true rfl) ?_
    refine WL_as rfl rfl ?_
    refine WL_nil (Fin_then (W_seq (W_draw 11 mix rfl rfl ?_)))
    refine cs (O_fieldv tf86_0) ⟨T1 rfl, trivial⟩ ?_
    refine cs (O_loado 0 ta3 rfl rfl) ⟨T1 rfl, trivial⟩ ?_
    refine cs O_move ⟨T1 rfl, trivial⟩ ?_
    refine cs O_move ⟨T1 rfl, trivial⟩ ?_
    refine ct1 rfl rfl (fun hc => O_move) ⟨tg rfl, trivial⟩ ?_
    refine ct1 rfl rfl (fun hc => (O_fieldv tf86_0)) ⟨tg rfl, trivial⟩ ?_
    refine ct1 rfl rfl (fun hc => (O_loado 0 ta3 rfl rfl)) ⟨tg rfl, trivial⟩ ?_
    refine ct1 rfl rfl (fun hc => (O_call cf145 (impl_isType _ _ _) rfl)) ⟨tg rfl, tg rfl, trivial⟩ ?_
    refine cs O_and ⟨T1 rfl, tg rfl, trivial⟩ ?_
    refine cs O_assign ⟨T1 rfl, trivial⟩ ?_
    refine cs O_assign ⟨T1 rfl, trivial⟩ ?_
    refine Chain_nil ?_
    exact WL_nil (Fin_then (W_ret (Fin_block_ret (Fin_then_ret (RetC rfl (Res2 rfl (RV.tmp rfl (by first | exact Imp.int (by unfold refOf; grind) | exact Imp.bool (by unfold refOf; grind))) (RV.tmp rfl (by first | exact Imp.int (by unfold refOf; grind) | exact Imp.bool (by unfold refOf; grind)))))))))
  try simp only [bl] at h1
  refine W_skip (Fin_block (Fin_then (W_seq (W_region (WL_ac rfl ?_)))))
  refine WL_ac rfl ?_
  exact WL_nil (Fin_then (W_ret (RetC rfl (Res2 rfl (RV.tmp rfl (by first | exact Imp.int (by unfold refOf; grind) | exact Imp.bool (by unfold refOf; grind))) (RV.tmp rfl (by first | exact Imp.int (by unfold refOf; grind) | exact Imp.bool (by unfold refOf; grind)))))))
set_option maxRecDepth 8000 in
theorem impl_fits (G : Kin) (hK : KG G) (v : Vl) (h : Fld) (fd : Int → Thg × Bool) (f0 : FuncId) (bs : List A) (hf : CallF Try.prog f0) (hvn : inI v.n) (hp : ∀ n, inI n → FnC Try.prog f0 (bs ++ [A.int n]) (A.tup [A.agg (cThing (fd n).1), A.bool (fd n).2])) : FnC Try.prog 48 [kP (krows G) (canonL G), A.agg (cVal v), A.agg (cFld h), A.mc f0 bs] (A.bool (fitsF G fd v h)) := by
  have hn := krows_cnt G
  refine Fn_of_W Try.func48 rfl rfl fun r w => ?_
  refine W_seq (W_region (ws O_boxg ⟨T1 rfl, trivial⟩ ?_))
  refine ws O_boxg ⟨T1 rfl, trivial⟩ ?_
  refine WL_ac rfl ?_
  refine WL_nil (Fin_then (W_seq (W_seq (W_draw 8 mix rfl rfl ?_))))
  refine cs (O_loadgw tg37 rfl) ⟨T1 rfl, trivial⟩ ?_
  refine cs O_move ⟨T1 rfl, trivial⟩ ?_
  refine cs O_nilCheck ⟨T1 rfl, trivial⟩ ?_
  refine cs (O_field tf110_0) ⟨T1 rfl, trivial⟩ ?_
  refine cs (O_load ta108) ⟨T1 rfl, trivial⟩ ?_
  refine cs (O_len ts108) ⟨T1 rfl, trivial⟩ ?_
  refine cs (O_call cf99 (impl_fieldOk _ _) rfl) ⟨T1 rfl, T1 rfl, trivial⟩ ?_
  refine cs O_not ⟨T1 rfl, trivial⟩ ?_
  refine Chain_nil ?_
  refine WL_nil (Fin_then (W_cond rfl (fun h0 => ?_) (fun h0 => ?_)))
  · skip
    rw [hn] at h0; try simp only [bl] at h0
    refine W_seq (W_region (WL_ac rfl ?_))
    exact WL_nil (Fin_then (W_ret (Fin_then_ret (RetC rfl (Res1 rfl (RV.tmp rfl (Imp.bool (by unfold fitsF; grind))))))))
  rw [hn] at h0; try simp only [bl] at h0
  refine W_skip (Fin_then (W_seq (W_seq (W_region (ws (O_field tf37_0) ⟨T1 rfl, trivial⟩ ?_)))))
  refine ws (O_load ta3) ⟨T1 rfl, trivial⟩ ?_
  refine ws O_eql ⟨T1 rfl, C1, trivial⟩ ?_
  refine WL_nil (Fin_then (W_cond rfl (fun h1 => ?_) (fun h1 => ?_)))
  · skip
    try simp only [bl] at h1
    refine W_seq (W_region (ws (O_field tf35_0) ⟨T1 rfl, trivial⟩ ?_))
    refine ws (O_load ta3) ⟨T1 rfl, trivial⟩ ?_
    refine ws O_eql ⟨T1 rfl, C1, trivial⟩ ?_
    refine WL_mv rfl rfl ?_
    refine wt1 rfl rfl (fun hc => (O_field tf35_1)) ⟨tg rfl, trivial⟩ ?_
    refine wt1 rfl rfl (fun hc => (O_load ta3)) ⟨tg rfl, trivial⟩ ?_
    refine wt1 rfl rfl (fun hc => (O_call cf100 (impl_isNum _) rfl)) ⟨tg rfl, trivial⟩ ?_
    refine ws O_and ⟨T1 rfl, tg rfl, trivial⟩ ?_
    refine WL_as rfl rfl ?_
    exact WL_nil (Fin_then (W_ret (Fin_then_ret (RetC rfl (Res1 rfl (RV.tmp rfl (Imp.bool (by unfold fitsF; grind))))))))
  try simp only [bl] at h1
  refine W_skip (Fin_then (W_seq (W_seq (W_region (ws (O_field tf35_0) ⟨T1 rfl, trivial⟩ ?_)))))
  refine ws (O_load ta3) ⟨T1 rfl, trivial⟩ ?_
  refine ws O_eql ⟨T1 rfl, C1, trivial⟩ ?_
  refine WL_nil (Fin_then (W_cond rfl (fun h2 => ?_) (fun h2 => ?_)))
  · skip
    try simp only [bl] at h2
    refine W_seq (W_region (ws (O_field tf35_1) ⟨T1 rfl, trivial⟩ ?_))
    refine ws (O_load ta3) ⟨T1 rfl, trivial⟩ ?_
    refine ws O_eql ⟨T1 rfl, C1, trivial⟩ ?_
    refine WL_mv rfl rfl ?_
    refine wt1 rfl rfl (fun hc => (O_field tf37_0)) ⟨tg rfl, trivial⟩ ?_
    refine wt1 rfl rfl (fun hc => (O_load ta3)) ⟨tg rfl, trivial⟩ ?_
    refine wt1 rfl rfl (fun hc => O_eql) ⟨tg rfl, C1, trivial⟩ ?_
    refine ws O_and ⟨T1 rfl, tg rfl, trivial⟩ ?_
    refine WL_as rfl rfl ?_
    exact WL_nil (Fin_then (W_ret (Fin_then_ret (RetC rfl (Res1 rfl (RV.tmp rfl (Imp.bool (by unfold fitsF; grind))))))))
  try simp only [bl] at h2
  refine W_skip (Fin_then (W_seq (W_region (WL_mv rfl rfl ?_))))
  refine ws (O_loadgw tg35 rfl) ⟨T1 rfl, trivial⟩ ?_
  refine WL_mv rfl rfl ?_
  refine ws (O_call cf101 (impl_refOf _ _ _ hn _ fd _ _ hf hvn hp) rfl) ⟨T1 rfl, T1 rfl, T1 rfl, trivial⟩ ?_
  refine WL_mv rfl rfl ?_
  refine ws (O_extract rfl) ⟨T1 rfl, trivial⟩ ?_
  refine ws (O_extract rfl) ⟨T1 rfl, trivial⟩ ?_
  refine WL_as rfl rfl ?_
  refine WL_as rfl rfl ?_
  refine WL_nil (Fin_then (W_seq (W_region (WL_mv rfl rfl ?_))))
  refine WL_mv rfl rfl ?_
  refine wt1 rfl rfl (fun hc => O_move) ⟨tg rfl, trivial⟩ ?_
  refine wt1 rfl rfl (fun hc => O_move) ⟨tg rfl, trivial⟩ ?_
  refine wt1 rfl rfl (fun hc => (O_field tf37_1)) ⟨tg rfl, trivial⟩ ?_
  refine wt1 rfl rfl (fun hc => (O_load ta3)) ⟨tg rfl, trivial⟩ ?_
  refine wt1 rfl rfl (fun hc => (O_call cf102 (impl_under _ (by assumption) _ _) rfl)) ⟨tg rfl, tg rfl, tg rfl, trivial⟩ ?_
  refine ws O_and ⟨T1 rfl, tg rfl, trivial⟩ ?_
  refine WL_as rfl rfl ?_
  exact WL_nil (Fin_then (W_ret (RetC rfl (Res1 rfl (RV.tmp rfl (Imp.bool (by unfold fitsF; grind)))))))
set_option maxRecDepth 8000 in
theorem impl_tell (G : Kin) (hK : KG G) (v : Vl) (fd : Int → Thg × Bool) (f0 : FuncId) (bs : List A) (hf : CallF Try.prog f0) (hvn : inI v.n) (hp : ∀ n, inI n → FnC Try.prog f0 (bs ++ [A.int n]) (A.tup [A.agg (cThing (fd n).1), A.bool (fd n).2])) : FnC Try.prog 54 [kP (krows G) (canonL G), A.agg (cVal v), A.mc f0 bs] (A.int (tellF G fd v)) := by
  have hn := krows_cnt G
  have hcl := canonL_len G
  have hro := refOf_rng (m := kcnt G) (fd := fd) (v := v)
  refine Fn_of_W Try.func54 rfl rfl fun r w => ?_
  refine W_seq (W_region (ws O_boxg ⟨T1 rfl, trivial⟩ ?_))
  refine WL_ac rfl ?_
  refine WL_nil (Fin_then (W_seq (W_seq (W_region (WL_mv rfl rfl ?_)))))
  refine ws (O_loadgw tg35 rfl) ⟨T1 rfl, trivial⟩ ?_
  refine WL_mv rfl rfl ?_
  refine ws (O_call cf101 (impl_refOf _ _ _ hn _ fd _ _ hf hvn hp) rfl) ⟨T1 rfl, T1 rfl, T1 rfl, trivial⟩ ?_
  refine WL_mv rfl rfl ?_
  refine ws (O_extract rfl) ⟨T1 rfl, trivial⟩ ?_
  refine ws (O_extract rfl) ⟨T1 rfl, trivial⟩ ?_
  refine WL_as rfl rfl ?_
  refine WL_as rfl rfl ?_
  refine WL_nil (Fin_then (W_block (W_seq (W_region (ws (O_field tf35_0) ⟨T1 rfl, trivial⟩ ?_)))))
  refine ws (O_load ta3) ⟨T1 rfl, trivial⟩ ?_
  refine ws O_eql ⟨T1 rfl, C1, trivial⟩ ?_
  refine WL_mv rfl rfl ?_
  refine wt1 rfl rfl (fun hc => (O_field tf35_1)) ⟨tg rfl, trivial⟩ ?_
  refine wt1 rfl rfl (fun hc => (O_load ta3)) ⟨tg rfl, trivial⟩ ?_
  refine wt1 rfl rfl (fun hc => (O_call cf100 (impl_isNum _) rfl)) ⟨tg rfl, trivial⟩ ?_
  refine ws O_and ⟨T1 rfl, tg rfl, trivial⟩ ?_
  refine WL_as rfl rfl ?_
  refine WL_nil (Fin_then (W_cond rfl (fun h0 => ?_) (fun h0 => ?_)))
  · skip
    try simp only [bl] at h0
    refine W_seq (W_region (ws (O_field tf35_1) ⟨T1 rfl, trivial⟩ ?_))
    refine ws (O_load ta3) ⟨T1 rfl, trivial⟩ ?_
    refine WL_as rfl rfl ?_
    exact WL_nil (Fin_then (W_ret (Fin_block_ret (Fin_then_ret (RetC rfl (Res1 rfl (RV.tmp rfl (Imp.int (by unfold tellF; grind)))))))))
  try simp only [bl] at h0
  refine W_seq (W_region (ws (O_field tf35_0) ⟨T1 rfl, trivial⟩ ?_))
  refine ws (O_load ta3) ⟨T1 rfl, trivial⟩ ?_
  refine ws O_eql ⟨T1 rfl, C1, trivial⟩ ?_
  refine WL_mv rfl rfl ?_
  refine wt1 rfl rfl (fun hc => (O_field tf35_1)) ⟨tg rfl, trivial⟩ ?_
  refine wt1 rfl rfl (fun hc => (O_load ta3)) ⟨tg rfl, trivial⟩ ?_
  refine wt1 rfl rfl (fun hc => O_eql) ⟨tg rfl, C1, trivial⟩ ?_
  refine ws O_and ⟨T1 rfl, tg rfl, trivial⟩ ?_
  refine WL_as rfl rfl ?_
  refine WL_nil (Fin_then (W_cond rfl (fun h1 => ?_) (fun h1 => ?_)))
  · skip
    try simp only [bl] at h1
    refine W_seq (W_region (WL_ac rfl ?_))
    exact WL_nil (Fin_then (W_ret (Fin_block_ret (Fin_then_ret (RetC rfl (Res1 rfl (RV.tmp rfl (Imp.int (by unfold tellF; grind)))))))))
  try simp only [bl] at h1
  refine W_seq (W_region (WL_mv rfl rfl ?_))
  refine WL_mv rfl rfl ?_
  refine wt1 rfl rfl (fun hc => O_move) ⟨tg rfl, trivial⟩ ?_
  refine wt1 rfl rfl (fun hc => O_eql) ⟨tg rfl, C1, trivial⟩ ?_
  refine ws O_and ⟨T1 rfl, tg rfl, trivial⟩ ?_
  refine WL_as rfl rfl ?_
  refine WL_nil (Fin_then (W_cond rfl (fun h2 => ?_) (fun h2 => ?_)))
  · skip
    try simp only [bl] at h2
    have hr4 : 0 ≤ v.n ∧ v.n < 9973 := by have := hro h2.1; omega
    refine W_seq (W_region (ws (O_field tf35_1) ⟨T1 rfl, trivial⟩ ?_))
    refine ws (O_load ta3) ⟨T1 rfl, trivial⟩ ?_
    refine ws (O_sub (by omega)) ⟨C1, T1 rfl, trivial⟩ ?_
    refine WL_as rfl rfl ?_
    exact WL_nil (Fin_then (W_ret (Fin_block_ret (Fin_then_ret (RetC rfl (Res1 rfl (RV.tmp rfl (Imp.int (by unfold tellF; grind)))))))))
  try simp only [bl] at h2
  refine W_seq (W_region (WL_mv rfl rfl ?_))
  refine WL_as rfl rfl ?_
  refine WL_nil (Fin_then (W_cond rfl (fun h3 => ?_) (fun h3 => ?_)))
  · skip
    try simp only [bl] at h3
    have hr3 : 0 ≤ (refOf (kcnt G) fd v).1 ∧ (refOf (kcnt G) fd v).1 < kcnt G := by grind
    have hc8 := hK.canon_rng hr3.1 hr3.2
    refine W_seq (W_region (WL_mv rfl rfl ?_))
    refine ws O_nilCheck ⟨T1 rfl, trivial⟩ ?_
    refine ws (O_field tf110_1) ⟨T1 rfl, trivial⟩ ?_
    refine ws (O_load ta62) ⟨T1 rfl, trivial⟩ ?_
    refine WL_mv rfl rfl ?_
    refine ws (O_index ts62 (by omega)) ⟨T1 rfl, T1 rfl, trivial⟩ ?_
    refine ws (O_load ta3) ⟨T1 rfl, trivial⟩ ?_
    refine ws (O_add (by omega)) ⟨C1, T1 rfl, trivial⟩ ?_
    refine WL_as rfl rfl ?_
    exact WL_nil (Fin_then (W_ret (Fin_block_ret (Fin_then_ret (RetC rfl (Res1 rfl (RV.tmp rfl (Imp.int (by unfold tellF; grind)))))))))
  try simp only [bl] at h3
  refine W_skip (Fin_block (Fin_then (W_seq (W_region (WL_ac rfl ?_)))))
  exact WL_nil (Fin_then (W_ret (RetC rfl (Res1 rfl (RV.tmp rfl (Imp.int (by unfold tellF; grind)))))))
end Go.Proofs.Ytfjggobjijeniaa
