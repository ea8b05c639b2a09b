import Derived.Test.YtfjggobjijeniaaRows
import Derived.Test.YtfjggobjijeniaaWalk3
import Derived.Test.YtfjggobjijeniaaWalk2
import Derived.Test.YtfjggobjijeniaaPure6
import Derived.Test.YtfjggobjijeniaaPure7
import Derived.Test.YtfjggobjijeniaaPure9
import Derived.Test.YtfjggobjijeniaaPure14
import Derived.Test.YtfjggobjijeniaaA1
import Derived.Test.YtfjggobjijeniaaA2
import Derived.Test.YtfjggobjijeniaaA3
import Derived.Test.YtfjggobjijeniaaA4
import Derived.Test.YtfjggobjijeniaaA8
import Derived.Test.YtfjggobjijeniaaA13
import Derived.Test.YtfjggobjijeniaaA18
import Derived.Test.YtfjggobjijeniaaA19
import Derived.Test.YtfjggobjijeniaaA25
namespace Go.Proofs.Ytfjggobjijeniaa.A26
open Go Go.RowKit Go.L
theorem mix : Try.prog.follows .mixedOrders = true := by kernel_rfl
theorem cf12 : CallF Try.prog 12 := fun w vs => by kernel_rfl
theorem cf14 : CallF Try.prog 14 := fun w vs => by kernel_rfl
theorem cf15 : CallF Try.prog 15 := fun w vs => by kernel_rfl
theorem cf17 : CallF Try.prog 17 := fun w vs => by kernel_rfl
theorem cf32 : CallF Try.prog 32 := fun w vs => by kernel_rfl
theorem cf33 : CallF Try.prog 33 := fun w vs => by kernel_rfl
theorem cf34 : CallF Try.prog 34 := fun w vs => by kernel_rfl
theorem cf35 : CallF Try.prog 35 := fun w vs => by kernel_rfl
theorem cf36 : CallF Try.prog 36 := fun w vs => by kernel_rfl
theorem cf37 : CallF Try.prog 37 := fun w vs => by kernel_rfl
theorem cf38 : CallF Try.prog 38 := fun w vs => by kernel_rfl
theorem cf9 : CallF Try.prog 9 := fun w vs => by kernel_rfl
theorem sz67 : sizeAt Try.prog 67 = some 5 := by kernel_rfl
theorem tg25 : TG Try.prog 25 2 := ⟨by kernel_rfl, by kernel_rfl⟩
theorem tg27 : TG Try.prog 27 3 := ⟨by kernel_rfl, by kernel_rfl⟩
theorem tg64 : TG Try.prog 64 5 := ⟨by kernel_rfl, by kernel_rfl⟩
theorem tg67 : TG Try.prog 67 5 := ⟨by kernel_rfl, by kernel_rfl⟩
theorem tz67 : TZ Try.prog 67 [.slice none 0 0, .int .i64 0, .int .i64 0, .int .i64 0, .slice none 0 0] := by unfold TZ; kernel_rfl
theorem ub4 : Try.prog.underlying 4 = some .bool := by kernel_rfl
end Go.Proofs.Ytfjggobjijeniaa.A26
namespace Go.Proofs.Ytfjggobjijeniaa
open Go Go.RowKit Go.L A26
set_option maxRecDepth 8000 in
theorem law_HeapOk (G : Kin) (hr : ∀ g ∈ G, ∀ t ∈ g, TyOk t) (h : Hp) (hh : HpOk h) : FnC Try.prog 7 [A.sl 1 cGrp G, A.agg (cHeap h)] (A.bool true) := by
  refine Fn_of_W Try.func7 rfl rfl fun r w => ?_
  refine W_seq (W_region (ws O_boxg ⟨T1 rfl, trivial⟩ ?_))
  refine WL_ac rfl ?_
  refine WL_nil (Fin_then (W_seq (W_region (WL_ac rfl ?_))))
  refine WL_nil (Fin_then (W_seq (W_region (WL_mv rfl rfl ?_))))
  refine WL_mv rfl rfl ?_
  refine ws (O_call cf9 (laws_szTypeSS _ _ (by omega) (by omega)) rfl) ⟨T1 rfl, T1 rfl, trivial⟩ ?_
  refine WL_as rfl rfl ?_
  refine WL_nil (Fin_then (W_seq (W_seq (W_region (WL_mv rfl rfl ?_)))))
  refine ws O_lss ⟨T1 rfl, C1, trivial⟩ ?_
  refine WL_nil (Fin_then (W_cond rfl (fun h0 => ?_) (fun h0 => ?_)))
  · skip
    simp only [decide_eq_true_eq, decide_eq_false_iff_not] at h0
    refine W_seq (W_region (WL_ac rfl ?_))
    exact WL_nil (Fin_then (W_ret (Fin_then_ret (RetC rfl (Res1 rfl (RV.tmp rfl (by first | exact Imp.refl | exact Imp.slv | exact Imp.nil | exact Imp.int (by omega) | exact Imp.int (by simp; done) | exact Imp.bool (by simp_all; done))))))))
  simp only [decide_eq_true_eq, decide_eq_false_iff_not] at h0
  have hn0 : neg1 (1048576 - (bKin G : Int)) = 1048576 - (bKin G : Int) := by unfold neg1 at *; split at h0 <;> grind
  rw [hn0] at h0
  have hb : bKin G ≤ 1048576 := by omega
  have hG := small_of hb hr
  refine W_skip (Fin_then (W_seq (W_region (ws (O_loadgw tg64 rfl) ⟨T1 rfl, trivial⟩ ?_))))
  refine WL_mv rfl rfl ?_
  refine ws (O_call cf32 (laws_szHeap _ _ (by omega) (by omega)) rfl) ⟨T1 rfl, T1 rfl, trivial⟩ ?_
  refine WL_as rfl rfl ?_
  refine WL_nil (Fin_then (W_seq (W_seq (W_region (WL_mv rfl rfl ?_)))))
  refine ws O_lss ⟨T1 rfl, C1, trivial⟩ ?_
  refine WL_nil (Fin_then (W_cond rfl (fun h1 => ?_) (fun h1 => ?_)))
  · skip
    simp only [decide_eq_true_eq, decide_eq_false_iff_not] at h1
    refine W_seq (W_region (WL_ac rfl ?_))
    exact WL_nil (Fin_then (W_ret (Fin_then_ret (RetC rfl (Res1 rfl (RV.tmp rfl (by first | exact Imp.refl | exact Imp.slv | exact Imp.nil | exact Imp.int (by omega) | exact Imp.int (by simp; done) | exact Imp.bool (by simp_all; done))))))))
  simp only [decide_eq_true_eq, decide_eq_false_iff_not] at h1
  have hn1 : neg1 (neg1 (1048576 - (bKin G : Int)) - (bHeap h : Int)) = 1048576 - (bKin G : Int) - (bHeap h : Int) := by rw [hn0]; unfold neg1 at *; rw [hn0] at *; split at h1 <;> grind
  have hT : bHeap h ≤ 1048576 := by rw [hn1] at h1; omega
  have hl : h.words.length ≤ 1048576 := by unfold bHeap at hT; omega
  refine W_skip (Fin_then (W_seq (W_draw 5 mix rfl rfl ?_)))
  refine cs O_move ⟨T1 rfl, trivial⟩ ?_
  refine cs (O_call cf12 (FnN.fnC (laws_toTypeSS _ (by omega))) rfl) ⟨T1 rfl, trivial⟩ ?_
  refine cs (O_loadgw tg64 rfl) ⟨T1 rfl, trivial⟩ ?_
  refine cs (O_call cf34 (FnN.fnC (laws_toHeap _ (by omega))) rfl) ⟨T1 rfl, trivial⟩ ?_
  refine cs (O_call cf33 (spec_HeapOk _ (by assumption) _ (by assumption) (by assumption)) rfl) ⟨T1 rfl, T1 rfl, trivial⟩ ?_
  refine Chain_nil ?_
  refine WL_as rfl rfl ?_
  refine WL_nil (Fin_then (W_seq (W_region (WL_mv rfl rfl ?_))))
  refine ws (O_call cf12 (FnN.fnC (laws_toTypeSS _ (by omega))) rfl) ⟨T1 rfl, trivial⟩ ?_
  refine WL_as rfl rfl ?_
  refine WL_nil (Fin_then (W_seq (W_region (ws (O_loadgw tg64 rfl) ⟨T1 rfl, trivial⟩ ?_))))
  refine ws (O_call cf34 (FnN.fnC (laws_toHeap _ (by omega))) rfl) ⟨T1 rfl, trivial⟩ ?_
  refine WL_alloc tz67 rfl fun b8 => ?_
  refine WL_store 0 rfl ⟨T1 rfl, T1 rfl, trivial⟩ (CellsOf.agg (by exact ⟨OneV.sl, OneV.int, OneV.int, OneV.int, OneV.sl, trivial⟩)) sz67 (Nat.le_of_ble_eq_true rfl) ?_
  refine WL_nil (Fin_then (W_seq (W_region (WL_mv rfl rfl ?_))))
  refine ws (O_loadog 0 tg67 rfl (Nat.le_of_ble_eq_true rfl)) ⟨T1 rfl, trivial⟩ ?_
  refine ws (O_call cf35 (impl_HeapOk _ (by assumption) _ (by assumption) (by assumption)) rfl) ⟨T1 rfl, T1 rfl, trivial⟩ ?_
  refine WL_as rfl rfl ?_
  refine WL_nil (Fin_then (W_seq (W_seq (W_region (WL_mv rfl rfl ?_)))))
  refine WL_mv rfl rfl ?_
  refine ws (O_neb ub4) ⟨T1 rfl, T1 rfl, trivial⟩ ?_
  refine WL_nil (Fin_then (W_cond rfl (fun h2 => ?_) (fun h2 => ?_)))
  · skip
    exfalso; simp at h2
  refine W_skip (Fin_then (W_seq (W_seq (W_region (WL_mv rfl rfl ?_)))))
  refine WL_mv rfl rfl ?_
  refine ws (O_call cf12 (FnN.fnC (laws_toTypeSS _ (by omega))) rfl) ⟨T1 rfl, trivial⟩ ?_
  refine ws (O_call cf17 (laws_eqTypeSS _ _) rfl) ⟨T1 rfl, T1 rfl, trivial⟩ ?_
  refine ws O_not ⟨T1 rfl, trivial⟩ ?_
  refine WL_nil (Fin_then (W_cond rfl (fun h3 => ?_) (fun h3 => ?_)))
  · skip
    exfalso; simp at h3
  refine W_skip (Fin_then (W_seq (W_seq (W_draw 5 mix rfl rfl ?_))))
  refine cs (O_loadog 0 tg67 rfl (Nat.le_of_ble_eq_true rfl)) ⟨T1 rfl, trivial⟩ ?_
  refine cs (O_loadgw tg64 rfl) ⟨T1 rfl, trivial⟩ ?_
  refine cs (O_call cf34 (FnN.fnC (laws_toHeap _ (by omega))) rfl) ⟨T1 rfl, trivial⟩ ?_
  refine cs (O_call cf36 (laws_eqHeap _ _) rfl) ⟨T1 rfl, T1 rfl, trivial⟩ ?_
  refine cs O_not ⟨T1 rfl, trivial⟩ ?_
  refine Chain_nil ?_
  refine WL_nil (Fin_then (W_cond rfl (fun h4 => ?_) (fun h4 => ?_)))
  · skip
    exfalso; simp at h4
  refine W_skip (Fin_then (W_seq (W_region (WL_ac rfl ?_))))
  exact WL_nil (Fin_then (W_ret (RetC rfl (Res1 rfl (RV.tmp rfl (by first | exact Imp.refl | exact Imp.slv | exact Imp.nil | exact Imp.int (by omega) | exact Imp.int (by simp; done) | exact Imp.bool (by simp_all; done)))))))
set_option maxRecDepth 8000 in
theorem law_HeapFits (G : Kin) (hr : ∀ g ∈ G, ∀ t ∈ g, TyOk t) (h : Hp) (hh : HpOk h) (v : Vl) (hvn : inI v.n) (f : Fld) : FnC Try.prog 8 [A.sl 1 cGrp G, A.agg (cHeap h), A.agg (cVal v), A.agg (cFld f)] (A.bool true) := by
  refine Fn_of_W Try.func8 rfl rfl fun r w => ?_
  refine W_seq (W_region (ws O_boxg ⟨T1 rfl, trivial⟩ ?_))
  refine ws O_boxg ⟨T1 rfl, trivial⟩ ?_
  refine ws O_boxg ⟨T1 rfl, trivial⟩ ?_
  refine WL_ac rfl ?_
  refine WL_nil (Fin_then (W_seq (W_region (WL_ac rfl ?_))))
  refine WL_nil (Fin_then (W_seq (W_region (WL_mv rfl rfl ?_))))
  refine WL_mv rfl rfl ?_
  refine ws (O_call cf9 (laws_szTypeSS _ _ (by omega) (by omega)) rfl) ⟨T1 rfl, T1 rfl, trivial⟩ ?_
  refine WL_as rfl rfl ?_
  refine WL_nil (Fin_then (W_seq (W_seq (W_region (WL_mv rfl rfl ?_)))))
  refine ws O_lss ⟨T1 rfl, C1, trivial⟩ ?_
  refine WL_nil (Fin_then (W_cond rfl (fun h0 => ?_) (fun h0 => ?_)))
  · skip
    simp only [decide_eq_true_eq, decide_eq_false_iff_not] at h0
    refine W_seq (W_region (WL_ac rfl ?_))
    exact WL_nil (Fin_then (W_ret (Fin_then_ret (RetC rfl (Res1 rfl (RV.tmp rfl (by first | exact Imp.refl | exact Imp.slv | exact Imp.nil | exact Imp.int (by omega) | exact Imp.int (by simp; done) | exact Imp.bool (by simp_all; done))))))))
  simp only [decide_eq_true_eq, decide_eq_false_iff_not] at h0
  have hn0 : neg1 (1048576 - (bKin G : Int)) = 1048576 - (bKin G : Int) := by unfold neg1 at *; split at h0 <;> grind
  rw [hn0] at h0
  have hb : bKin G ≤ 1048576 := by omega
  have hG := small_of hb hr
  refine W_skip (Fin_then (W_seq (W_region (ws (O_loadgw tg64 rfl) ⟨T1 rfl, trivial⟩ ?_))))
  refine WL_mv rfl rfl ?_
  refine ws (O_call cf32 (laws_szHeap _ _ (by omega) (by omega)) rfl) ⟨T1 rfl, T1 rfl, trivial⟩ ?_
  refine WL_as rfl rfl ?_
  refine WL_nil (Fin_then (W_seq (W_seq (W_region (WL_mv rfl rfl ?_)))))
  refine ws O_lss ⟨T1 rfl, C1, trivial⟩ ?_
  refine WL_nil (Fin_then (W_cond rfl (fun h1 => ?_) (fun h1 => ?_)))
  · skip
    simp only [decide_eq_true_eq, decide_eq_false_iff_not] at h1
    refine W_seq (W_region (WL_ac rfl ?_))
    exact WL_nil (Fin_then (W_ret (Fin_then_ret (RetC rfl (Res1 rfl (RV.tmp rfl (by first | exact Imp.refl | exact Imp.slv | exact Imp.nil | exact Imp.int (by omega) | exact Imp.int (by simp; done) | exact Imp.bool (by simp_all; done))))))))
  simp only [decide_eq_true_eq, decide_eq_false_iff_not] at h1
  have hn1 : neg1 (neg1 (1048576 - (bKin G : Int)) - (bHeap h : Int)) = 1048576 - (bKin G : Int) - (bHeap h : Int) := by rw [hn0]; unfold neg1 at *; rw [hn0] at *; split at h1 <;> grind
  have hT : bHeap h ≤ 1048576 := by rw [hn1] at h1; omega
  have hl : h.words.length ≤ 1048576 := by unfold bHeap at hT; omega
  refine W_skip (Fin_then (W_seq (W_draw 9 mix rfl rfl ?_)))
  refine cs O_move ⟨T1 rfl, trivial⟩ ?_
  refine cs (O_call cf12 (FnN.fnC (laws_toTypeSS _ (by omega))) rfl) ⟨T1 rfl, trivial⟩ ?_
  refine cs (O_loadgw tg64 rfl) ⟨T1 rfl, trivial⟩ ?_
  refine cs (O_call cf34 (FnN.fnC (laws_toHeap _ (by omega))) rfl) ⟨T1 rfl, trivial⟩ ?_
  refine cs (O_loadgw tg25 rfl) ⟨T1 rfl, trivial⟩ ?_
  refine cs (O_call cf14 (laws_toVal _) rfl) ⟨T1 rfl, trivial⟩ ?_
  refine cs (O_loadgw tg27 rfl) ⟨T1 rfl, trivial⟩ ?_
  refine cs (O_call cf15 (laws_toField _) rfl) ⟨T1 rfl, trivial⟩ ?_
  refine cs (O_call cf37 (spec_HeapFits _ (by assumption) _ (by assumption) (by assumption) _ _) rfl) ⟨T1 rfl, T1 rfl, T1 rfl, T1 rfl, trivial⟩ ?_
  refine Chain_nil ?_
  refine WL_as rfl rfl ?_
  refine WL_nil (Fin_then (W_seq (W_region (WL_mv rfl rfl ?_))))
  refine ws (O_call cf12 (FnN.fnC (laws_toTypeSS _ (by omega))) rfl) ⟨T1 rfl, trivial⟩ ?_
  refine WL_as rfl rfl ?_
  refine WL_nil (Fin_then (W_seq (W_region (ws (O_loadgw tg64 rfl) ⟨T1 rfl, trivial⟩ ?_))))
  refine ws (O_call cf34 (FnN.fnC (laws_toHeap _ (by omega))) rfl) ⟨T1 rfl, trivial⟩ ?_
  refine WL_alloc tz67 rfl fun b12 => ?_
  refine WL_store 0 rfl ⟨T1 rfl, T1 rfl, trivial⟩ (CellsOf.agg (by exact ⟨OneV.sl, OneV.int, OneV.int, OneV.int, OneV.sl, trivial⟩)) sz67 (Nat.le_of_ble_eq_true rfl) ?_
  refine WL_nil (Fin_then (W_seq (W_draw 7 mix rfl rfl ?_)))
  refine cs O_move ⟨T1 rfl, trivial⟩ ?_
  refine cs (O_loadog 0 tg67 rfl (Nat.le_of_ble_eq_true rfl)) ⟨T1 rfl, trivial⟩ ?_
  refine cs (O_loadgw tg25 rfl) ⟨T1 rfl, trivial⟩ ?_
  refine cs (O_call cf14 (laws_toVal _) rfl) ⟨T1 rfl, trivial⟩ ?_
  refine cs (O_loadgw tg27 rfl) ⟨T1 rfl, trivial⟩ ?_
  refine cs (O_call cf15 (laws_toField _) rfl) ⟨T1 rfl, trivial⟩ ?_
  refine cs (O_call cf38 (impl_HeapFits _ (by assumption) _ (by assumption) (by assumption) _ (by assumption) _) rfl) ⟨T1 rfl, T1 rfl, T1 rfl, T1 rfl, trivial⟩ ?_
  refine Chain_nil ?_
  refine WL_as rfl rfl ?_
  refine WL_nil (Fin_then (W_seq (W_seq (W_region (WL_mv rfl rfl ?_)))))
  refine WL_mv rfl rfl ?_
  refine ws (O_neb ub4) ⟨T1 rfl, T1 rfl, trivial⟩ ?_
  refine WL_nil (Fin_then (W_cond rfl (fun h2 => ?_) (fun h2 => ?_)))
  · skip
    exfalso; simp at h2
  refine W_skip (Fin_then (W_seq (W_seq (W_region (WL_mv rfl rfl ?_)))))
  refine WL_mv rfl rfl ?_
  refine ws (O_call cf12 (FnN.fnC (laws_toTypeSS _ (by omega))) rfl) ⟨T1 rfl, trivial⟩ ?_
  refine ws (O_call cf17 (laws_eqTypeSS _ _) rfl) ⟨T1 rfl, T1 rfl, trivial⟩ ?_
  refine ws O_not ⟨T1 rfl, trivial⟩ ?_
  refine WL_nil (Fin_then (W_cond rfl (fun h3 => ?_) (fun h3 => ?_)))
  · skip
    exfalso; simp at h3
  refine W_skip (Fin_then (W_seq (W_seq (W_draw 5 mix rfl rfl ?_))))
  refine cs (O_loadog 0 tg67 rfl (Nat.le_of_ble_eq_true rfl)) ⟨T1 rfl, trivial⟩ ?_
  refine cs (O_loadgw tg64 rfl) ⟨T1 rfl, trivial⟩ ?_
  refine cs (O_call cf34 (FnN.fnC (laws_toHeap _ (by omega))) rfl) ⟨T1 rfl, trivial⟩ ?_
  refine cs (O_call cf36 (laws_eqHeap _ _) rfl) ⟨T1 rfl, T1 rfl, trivial⟩ ?_
  refine cs O_not ⟨T1 rfl, trivial⟩ ?_
  refine Chain_nil ?_
  refine WL_nil (Fin_then (W_cond rfl (fun h4 => ?_) (fun h4 => ?_)))
  · skip
    exfalso; simp at h4
  refine W_skip (Fin_then (W_seq (W_region (WL_ac rfl ?_))))
  exact WL_nil (Fin_then (W_ret (RetC rfl (Res1 rfl (RV.tmp rfl (by first | exact Imp.refl | exact Imp.slv | exact Imp.nil | exact Imp.int (by omega) | exact Imp.int (by simp; done) | exact Imp.bool (by simp_all; done)))))))
end Go.Proofs.Ytfjggobjijeniaa
