import Derived.Test.YtfjggobjijeniaaRows
import Derived.Test.YtfjggobjijeniaaShort
import Derived.Test.YtfjggobjijeniaaBound
import Derived.Test.YtfjggobjijeniaaCal11
import Derived.Test.YtfjggobjijeniaaPure6
import Derived.Test.YtfjggobjijeniaaPure7
import Derived.Test.YtfjggobjijeniaaA1
import Derived.Test.YtfjggobjijeniaaA2
import Derived.Test.YtfjggobjijeniaaA4
import Derived.Test.YtfjggobjijeniaaA13
import Derived.Test.YtfjggobjijeniaaA14
namespace Go.Proofs.Ytfjggobjijeniaa.A15
open Go Go.RowKit Go.L
theorem mix : Try.prog.follows .mixedOrders = true := by kernel_rfl
theorem cf10 : CallF Try.prog 10 := fun w vs => by kernel_rfl
theorem cf11 : CallF Try.prog 11 := fun w vs => by kernel_rfl
theorem cf12 : CallF Try.prog 12 := fun w vs => by kernel_rfl
theorem cf13 : CallF Try.prog 13 := fun w vs => by kernel_rfl
theorem cf14 : CallF Try.prog 14 := fun w vs => by kernel_rfl
theorem cf15 : CallF Try.prog 15 := fun w vs => by kernel_rfl
theorem cf16 : CallF Try.prog 16 := fun w vs => by kernel_rfl
theorem cf17 : CallF Try.prog 17 := fun w vs => by kernel_rfl
theorem cf18 : CallF Try.prog 18 := fun w vs => by kernel_rfl
theorem cf19 : CallF Try.prog 19 := fun w vs => by kernel_rfl
theorem cf20 : CallF Try.prog 20 := fun w vs => by kernel_rfl
theorem cf9 : CallF Try.prog 9 := fun w vs => by kernel_rfl
theorem tg25 : TG Try.prog 25 2 := ⟨by kernel_rfl, by kernel_rfl⟩
theorem tg27 : TG Try.prog 27 3 := ⟨by kernel_rfl, by kernel_rfl⟩
theorem ub4 : Try.prog.underlying 4 = some .bool := by kernel_rfl
end Go.Proofs.Ytfjggobjijeniaa.A15
namespace Go.Proofs.Ytfjggobjijeniaa
open Go Go.RowKit Go.L A15
set_option maxRecDepth 8000 in
theorem law_ValFits (G : Kin) (hr : ∀ g ∈ G, ∀ t ∈ g, TyOk t) (T : List Thg) (v : Vl) (f : Fld) : FnC Try.prog 3 [A.sl 1 cGrp G, A.sl 2 cThing T, A.agg (cVal v), A.agg (cFld f)] (A.bool true) := by
  refine Fn_of_W Try.func3 rfl rfl fun r w => ?_
  refine W_seq (W_region (ws O_boxg ⟨T1 rfl, trivial⟩ ?_))
  refine ws O_boxg ⟨T1 rfl, trivial⟩ ?_
  refine WL_ac rfl ?_
  refine WL_nil (Fin_then (W_seq (W_region (WL_ac rfl ?_))))
  refine WL_nil (Fin_then (W_seq (W_region (WL_mv rfl rfl ?_))))
  refine WL_mv rfl rfl ?_
  refine ws (O_call cf9 (laws_szTypeSS _ _ (by omega) (by omega)) rfl) ⟨T1 rfl, T1 rfl, trivial⟩ ?_
  refine WL_as rfl rfl ?_
  refine WL_nil (Fin_then (W_seq (W_seq (W_region (WL_mv rfl rfl ?_)))))
  refine ws O_lss ⟨T1 rfl, C1, trivial⟩ ?_
  refine WL_nil (Fin_then (W_cond rfl (fun h0 => ?_) (fun h0 => ?_)))
  · skip
    simp only [decide_eq_true_eq, decide_eq_false_iff_not] at h0
    refine W_seq (W_region (WL_ac rfl ?_))
    exact WL_nil (Fin_then (W_ret (Fin_then_ret (RetC rfl (Res1 rfl (RV.tmp rfl (by first | exact Imp.refl | exact Imp.slv | exact Imp.nil | exact Imp.int (by omega) | exact Imp.int (by simp; done) | exact Imp.bool (by simp_all; done))))))))
  simp only [decide_eq_true_eq, decide_eq_false_iff_not] at h0
  have hn0 : neg1 (1048576 - (bKin G : Int)) = 1048576 - (bKin G : Int) := by unfold neg1 at *; split at h0 <;> grind
  rw [hn0] at h0
  have hb : bKin G ≤ 1048576 := by omega
  have hG := small_of hb hr
  refine W_skip (Fin_then (W_seq (W_region (WL_mv rfl rfl ?_))))
  refine WL_mv rfl rfl ?_
  refine ws (O_call cf10 (laws_szThingS _ _ (by omega) (by omega)) rfl) ⟨T1 rfl, T1 rfl, trivial⟩ ?_
  refine WL_as rfl rfl ?_
  refine WL_nil (Fin_then (W_seq (W_seq (W_region (WL_mv rfl rfl ?_)))))
  refine ws O_lss ⟨T1 rfl, C1, trivial⟩ ?_
  refine WL_nil (Fin_then (W_cond rfl (fun h1 => ?_) (fun h1 => ?_)))
  · skip
    simp only [decide_eq_true_eq, decide_eq_false_iff_not] at h1
    refine W_seq (W_region (WL_ac rfl ?_))
    exact WL_nil (Fin_then (W_ret (Fin_then_ret (RetC rfl (Res1 rfl (RV.tmp rfl (by first | exact Imp.refl | exact Imp.slv | exact Imp.nil | exact Imp.int (by omega) | exact Imp.int (by simp; done) | exact Imp.bool (by simp_all; done))))))))
  simp only [decide_eq_true_eq, decide_eq_false_iff_not] at h1
  have hn1 : neg1 (neg1 (1048576 - (bKin G : Int)) - (bThings T : Int)) = 1048576 - (bKin G : Int) - (bThings T : Int) := by rw [hn0]; unfold neg1 at *; rw [hn0] at *; split at h1 <;> grind
  have hT : bThings T ≤ 1048576 := by rw [hn1] at h1; omega
  refine W_skip (Fin_then (W_seq (W_draw 9 mix rfl rfl ?_)))
  refine cs O_move ⟨T1 rfl, trivial⟩ ?_
  refine cs (O_call cf12 (FnN.fnC (laws_toTypeSS _ (by omega))) rfl) ⟨T1 rfl, trivial⟩ ?_
  refine cs O_move ⟨T1 rfl, trivial⟩ ?_
  refine cs (O_call cf13 (FnN.fnC (laws_toThingS _ (by omega))) rfl) ⟨T1 rfl, trivial⟩ ?_
  refine cs (O_loadgw tg25 rfl) ⟨T1 rfl, trivial⟩ ?_
  refine cs (O_call cf14 (laws_toVal _) rfl) ⟨T1 rfl, trivial⟩ ?_
  refine cs (O_loadgw tg27 rfl) ⟨T1 rfl, trivial⟩ ?_
  refine cs (O_call cf15 (laws_toField _) rfl) ⟨T1 rfl, trivial⟩ ?_
  refine cs (O_call cf11 (spec_ValFits _ (by assumption) _ _ _) rfl) ⟨T1 rfl, T1 rfl, T1 rfl, T1 rfl, trivial⟩ ?_
  refine Chain_nil ?_
  refine WL_as rfl rfl ?_
  refine WL_nil (Fin_then (W_seq (W_region (WL_mv rfl rfl ?_))))
  refine ws (O_call cf12 (FnN.fnC (laws_toTypeSS _ (by omega))) rfl) ⟨T1 rfl, trivial⟩ ?_
  refine WL_as rfl rfl ?_
  refine WL_nil (Fin_then (W_seq (W_region (WL_mv rfl rfl ?_))))
  refine ws (O_call cf13 (FnN.fnC (laws_toThingS _ (by omega))) rfl) ⟨T1 rfl, trivial⟩ ?_
  refine WL_as rfl rfl ?_
  refine WL_nil (Fin_then (W_seq (W_draw 7 mix rfl rfl ?_)))
  refine cs O_move ⟨T1 rfl, trivial⟩ ?_
  refine cs O_move ⟨T1 rfl, trivial⟩ ?_
  refine cs (O_loadgw tg25 rfl) ⟨T1 rfl, trivial⟩ ?_
  refine cs (O_call cf14 (laws_toVal _) rfl) ⟨T1 rfl, trivial⟩ ?_
  refine cs (O_loadgw tg27 rfl) ⟨T1 rfl, trivial⟩ ?_
  refine cs (O_call cf15 (laws_toField _) rfl) ⟨T1 rfl, trivial⟩ ?_
  refine cs (O_call cf16 (impl_ValFits _ (by assumption) _ _ _) rfl) ⟨T1 rfl, T1 rfl, T1 rfl, T1 rfl, trivial⟩ ?_
  refine Chain_nil ?_
  refine WL_as rfl rfl ?_
  refine WL_nil (Fin_then (W_seq (W_seq (W_region (WL_mv rfl rfl ?_)))))
  refine WL_mv rfl rfl ?_
  refine ws (O_neb ub4) ⟨T1 rfl, T1 rfl, trivial⟩ ?_
  refine WL_nil (Fin_then (W_cond rfl (fun h2 => ?_) (fun h2 => ?_)))
  · skip
    exfalso; simp at h2
  refine W_skip (Fin_then (W_seq (W_seq (W_region (WL_mv rfl rfl ?_)))))
  refine WL_mv rfl rfl ?_
  refine ws (O_call cf12 (FnN.fnC (laws_toTypeSS _ (by omega))) rfl) ⟨T1 rfl, trivial⟩ ?_
  refine ws (O_call cf17 (laws_eqTypeSS _ _) rfl) ⟨T1 rfl, T1 rfl, trivial⟩ ?_
  refine ws O_not ⟨T1 rfl, trivial⟩ ?_
  refine WL_nil (Fin_then (W_cond rfl (fun h3 => ?_) (fun h3 => ?_)))
  · skip
    exfalso; simp at h3
  refine W_skip (Fin_then (W_seq (W_seq (W_region (WL_mv rfl rfl ?_)))))
  refine WL_mv rfl rfl ?_
  refine ws (O_call cf13 (FnN.fnC (laws_toThingS _ (by omega))) rfl) ⟨T1 rfl, trivial⟩ ?_
  refine ws (O_call cf18 (laws_eqThingS _ _) rfl) ⟨T1 rfl, T1 rfl, trivial⟩ ?_
  refine ws O_not ⟨T1 rfl, trivial⟩ ?_
  refine WL_nil (Fin_then (W_cond rfl (fun h4 => ?_) (fun h4 => ?_)))
  · skip
    exfalso; simp at h4
  refine W_skip (Fin_then (W_seq (W_region (WL_ac rfl ?_))))
  exact WL_nil (Fin_then (W_ret (RetC rfl (Res1 rfl (RV.tmp rfl (by first | exact Imp.refl | exact Imp.slv | exact Imp.nil | exact Imp.int (by omega) | exact Imp.int (by simp; done) | exact Imp.bool (by simp_all; done)))))))
set_option maxRecDepth 8000 in
theorem law_ValTell (G : Kin) (hr : ∀ g ∈ G, ∀ t ∈ g, TyOk t) (T : List Thg) (v : Vl) : FnC Try.prog 4 [A.sl 1 cGrp G, A.sl 2 cThing T, A.agg (cVal v)] (A.bool true) := by
  refine Fn_of_W Try.func4 rfl rfl fun r w => ?_
  refine W_seq (W_region (ws O_boxg ⟨T1 rfl, trivial⟩ ?_))
  refine WL_ac rfl ?_
  refine WL_nil (Fin_then (W_seq (W_region (WL_ac rfl ?_))))
  refine WL_nil (Fin_then (W_seq (W_region (WL_mv rfl rfl ?_))))
  refine WL_mv rfl rfl ?_
  refine ws (O_call cf9 (laws_szTypeSS _ _ (by omega) (by omega)) rfl) ⟨T1 rfl, T1 rfl, trivial⟩ ?_
  refine WL_as rfl rfl ?_
  refine WL_nil (Fin_then (W_seq (W_seq (W_region (WL_mv rfl rfl ?_)))))
  refine ws O_lss ⟨T1 rfl, C1, trivial⟩ ?_
  refine WL_nil (Fin_then (W_cond rfl (fun h0 => ?_) (fun h0 => ?_)))
  · skip
    simp only [decide_eq_true_eq, decide_eq_false_iff_not] at h0
    refine W_seq (W_region (WL_ac rfl ?_))
    exact WL_nil (Fin_then (W_ret (Fin_then_ret (RetC rfl (Res1 rfl (RV.tmp rfl (by first | exact Imp.refl | exact Imp.slv | exact Imp.nil | exact Imp.int (by omega) | exact Imp.int (by simp; done) | exact Imp.bool (by simp_all; done))))))))
  simp only [decide_eq_true_eq, decide_eq_false_iff_not] at h0
  have hn0 : neg1 (1048576 - (bKin G : Int)) = 1048576 - (bKin G : Int) := by unfold neg1 at *; split at h0 <;> grind
  rw [hn0] at h0
  have hb : bKin G ≤ 1048576 := by omega
  have hG := small_of hb hr
  refine W_skip (Fin_then (W_seq (W_region (WL_mv rfl rfl ?_))))
  refine WL_mv rfl rfl ?_
  refine ws (O_call cf10 (laws_szThingS _ _ (by omega) (by omega)) rfl) ⟨T1 rfl, T1 rfl, trivial⟩ ?_
  refine WL_as rfl rfl ?_
  refine WL_nil (Fin_then (W_seq (W_seq (W_region (WL_mv rfl rfl ?_)))))
  refine ws O_lss ⟨T1 rfl, C1, trivial⟩ ?_
  refine WL_nil (Fin_then (W_cond rfl (fun h1 => ?_) (fun h1 => ?_)))
  · skip
    simp only [decide_eq_true_eq, decide_eq_false_iff_not] at h1
    refine W_seq (W_region (WL_ac rfl ?_))
    exact WL_nil (Fin_then (W_ret (Fin_then_ret (RetC rfl (Res1 rfl (RV.tmp rfl (by first | exact Imp.refl | exact Imp.slv | exact Imp.nil | exact Imp.int (by omega) | exact Imp.int (by simp; done) | exact Imp.bool (by simp_all; done))))))))
  simp only [decide_eq_true_eq, decide_eq_false_iff_not] at h1
  have hn1 : neg1 (neg1 (1048576 - (bKin G : Int)) - (bThings T : Int)) = 1048576 - (bKin G : Int) - (bThings T : Int) := by rw [hn0]; unfold neg1 at *; rw [hn0] at *; split at h1 <;> grind
  have hT : bThings T ≤ 1048576 := by rw [hn1] at h1; omega
  refine W_skip (Fin_then (W_seq (W_draw 7 mix rfl rfl ?_)))
  refine cs O_move ⟨T1 rfl, trivial⟩ ?_
  refine cs (O_call cf12 (FnN.fnC (laws_toTypeSS _ (by omega))) rfl) ⟨T1 rfl, trivial⟩ ?_
  refine cs O_move ⟨T1 rfl, trivial⟩ ?_
  refine cs (O_call cf13 (FnN.fnC (laws_toThingS _ (by omega))) rfl) ⟨T1 rfl, trivial⟩ ?_
  refine cs (O_loadgw tg25 rfl) ⟨T1 rfl, trivial⟩ ?_
  refine cs (O_call cf14 (laws_toVal _) rfl) ⟨T1 rfl, trivial⟩ ?_
  refine cs (O_call cf19 (spec_ValTell _ (by assumption) _ _) rfl) ⟨T1 rfl, T1 rfl, T1 rfl, trivial⟩ ?_
  refine Chain_nil ?_
  refine WL_as rfl rfl ?_
  refine WL_nil (Fin_then (W_seq (W_region (WL_mv rfl rfl ?_))))
  refine ws (O_call cf12 (FnN.fnC (laws_toTypeSS _ (by omega))) rfl) ⟨T1 rfl, trivial⟩ ?_
  refine WL_as rfl rfl ?_
  refine WL_nil (Fin_then (W_seq (W_region (WL_mv rfl rfl ?_))))
  refine ws (O_call cf13 (FnN.fnC (laws_toThingS _ (by omega))) rfl) ⟨T1 rfl, trivial⟩ ?_
  refine WL_as rfl rfl ?_
  refine WL_nil (Fin_then (W_seq (W_region (WL_mv rfl rfl ?_))))
  refine WL_mv rfl rfl ?_
  refine ws (O_loadgw tg25 rfl) ⟨T1 rfl, trivial⟩ ?_
  refine ws (O_call cf14 (laws_toVal _) rfl) ⟨T1 rfl, trivial⟩ ?_
  refine ws (O_call cf20 (impl_ValTell _ (by assumption) _ _) rfl) ⟨T1 rfl, T1 rfl, T1 rfl, trivial⟩ ?_
  refine WL_as rfl rfl ?_
  refine WL_nil (Fin_then (W_seq (W_seq (W_region (WL_mv rfl rfl ?_)))))
  refine WL_mv rfl rfl ?_
  refine ws O_neq ⟨T1 rfl, T1 rfl, trivial⟩ ?_
  refine WL_nil (Fin_then (W_cond rfl (fun h2 => ?_) (fun h2 => ?_)))
  · skip
    exfalso; simp at h2
  refine W_skip (Fin_then (W_seq (W_seq (W_region (WL_mv rfl rfl ?_)))))
  refine WL_mv rfl rfl ?_
  refine ws (O_call cf12 (FnN.fnC (laws_toTypeSS _ (by omega))) rfl) ⟨T1 rfl, trivial⟩ ?_
  refine ws (O_call cf17 (laws_eqTypeSS _ _) rfl) ⟨T1 rfl, T1 rfl, trivial⟩ ?_
  refine ws O_not ⟨T1 rfl, trivial⟩ ?_
  refine WL_nil (Fin_then (W_cond rfl (fun h3 => ?_) (fun h3 => ?_)))
  · skip
    exfalso; simp at h3
  refine W_skip (Fin_then (W_seq (W_seq (W_region (WL_mv rfl rfl ?_)))))
  refine WL_mv rfl rfl ?_
  refine ws (O_call cf13 (FnN.fnC (laws_toThingS _ (by omega))) rfl) ⟨T1 rfl, trivial⟩ ?_
  refine ws (O_call cf18 (laws_eqThingS _ _) rfl) ⟨T1 rfl, T1 rfl, trivial⟩ ?_
  refine ws O_not ⟨T1 rfl, trivial⟩ ?_
  refine WL_nil (Fin_then (W_cond rfl (fun h4 => ?_) (fun h4 => ?_)))
  · skip
    exfalso; simp at h4
  refine W_skip (Fin_then (W_seq (W_region (WL_ac rfl ?_))))
  exact WL_nil (Fin_then (W_ret (RetC rfl (Res1 rfl (RV.tmp rfl (by first | exact Imp.refl | exact Imp.slv | exact Imp.nil | exact Imp.int (by omega) | exact Imp.int (by simp; done) | exact Imp.bool (by simp_all; done)))))))
end Go.Proofs.Ytfjggobjijeniaa
