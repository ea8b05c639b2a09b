import Derived.Test.YtfjggobjijeniaaRows
import Derived.Test.YtfjggobjijeniaaShort
import Derived.Test.YtfjggobjijeniaaBound
import Derived.Test.YtfjggobjijeniaaCal10
import Derived.Test.YtfjggobjijeniaaPure6
import Derived.Test.YtfjggobjijeniaaPure7
import Derived.Test.YtfjggobjijeniaaA1
import Derived.Test.YtfjggobjijeniaaA2
import Derived.Test.YtfjggobjijeniaaA4
import Derived.Test.YtfjggobjijeniaaA5
import Derived.Test.YtfjggobjijeniaaA7
import Derived.Test.YtfjggobjijeniaaA8
import Derived.Test.YtfjggobjijeniaaA13
namespace Go.Proofs.Ytfjggobjijeniaa.A14
open Go Go.RowKit Go.L
theorem mix : Try.prog.follows .mixedOrders = true := by kernel_rfl
theorem cf103 : CallF Try.prog 103 := fun w vs => by kernel_rfl
theorem cf47 : CallF Try.prog 47 := fun w vs => by kernel_rfl
theorem cf48 : CallF Try.prog 48 := fun w vs => by kernel_rfl
theorem cf49 : CallF Try.prog 49 := fun w vs => by kernel_rfl
theorem cf54 : CallF Try.prog 54 := fun w vs => by kernel_rfl
theorem tg35 : TG Try.prog 35 2 := ⟨by kernel_rfl, by kernel_rfl⟩
theorem tg37 : TG Try.prog 37 3 := ⟨by kernel_rfl, by kernel_rfl⟩
end Go.Proofs.Ytfjggobjijeniaa.A14
namespace Go.Proofs.Ytfjggobjijeniaa
open Go Go.RowKit Go.L A14
theorem impl_fits_opt {G : Kin} (hG : Small G) (h : kinOk G = true) (v : Vl) (f : Fld) (fd : Int → Thg × Bool) (f0 : FuncId) (bs : List A) (hf : CallF Try.prog f0) (hp : ∀ n, FnC Try.prog f0 (bs ++ [A.int n]) (A.tup [A.agg (cThing (fd n).1), A.bool (fd n).2])) :
    FnC Try.prog 48 [kOpt (kinOk G) (krows G) (canonL G), A.agg (cVal v), A.agg (cFld f), A.mc f0 bs] (A.bool (fitsF G fd v f)) := by
  unfold kOpt; rw [if_pos h]; exact impl_fits G (KG.of hG h) v f fd f0 bs hf hp
theorem impl_tell_opt {G : Kin} (hG : Small G) (h : kinOk G = true) (v : Vl) (fd : Int → Thg × Bool) (f0 : FuncId) (bs : List A) (hf : CallF Try.prog f0) (hp : ∀ n, FnC Try.prog f0 (bs ++ [A.int n]) (A.tup [A.agg (cThing (fd n).1), A.bool (fd n).2])) :
    FnC Try.prog 54 [kOpt (kinOk G) (krows G) (canonL G), A.agg (cVal v), A.mc f0 bs] (A.int (tellF G fd v)) := by
  unfold kOpt; rw [if_pos h]; exact impl_tell G (KG.of hG h) v fd f0 bs hf hp
set_option maxRecDepth 8000 in
theorem impl_ValFits (G : Kin) (hG : Small G) (T : List Thg) (v : Vl) (f : Fld) : FnC Try.prog 16 [A.sl 1 cGrp G, A.sl 2 cThing T, A.agg (cVal v), A.agg (cFld f)] (A.bool (valFits G T v f)) := by
  refine Fn_of_W Try.func16 rfl rfl fun r w => ?_
  refine W_seq (W_region (ws O_boxg ⟨T1 rfl, trivial⟩ ?_))
  refine ws O_boxg ⟨T1 rfl, trivial⟩ ?_
  refine WL_ac rfl ?_
  refine WL_nil (Fin_then (W_seq (W_region (WL_mv rfl rfl ?_))))
  refine ws (O_call cf47 (impl_readKin _ (by assumption)) rfl) ⟨T1 rfl, trivial⟩ ?_
  refine WL_mv rfl rfl ?_
  refine ws (O_extract rfl) ⟨T1 rfl, trivial⟩ ?_
  refine ws (O_extract rfl) ⟨T1 rfl, trivial⟩ ?_
  refine WL_as rfl rfl ?_
  refine WL_as rfl rfl ?_
  refine WL_nil (Fin_then (W_seq (W_draw 9 mix rfl rfl ?_)))
  refine cs O_move ⟨T1 rfl, trivial⟩ ?_
  refine cs O_move ⟨T1 rfl, trivial⟩ ?_
  refine ct1 rfl rfl (fun hc => O_move) ⟨tg rfl, trivial⟩ ?_
  refine ct1 rfl rfl (fun hc => (O_loadgw tg35 rfl)) ⟨tg rfl, trivial⟩ ?_
  refine ct1 rfl rfl (fun hc => (O_loadgw tg37 rfl)) ⟨tg rfl, trivial⟩ ?_
  refine ct1 rfl rfl (fun hc => O_move) ⟨tg rfl, trivial⟩ ?_
  refine ct1 rfl rfl (fun hc => (O_call cf49 (impl_findIn _) rfl)) ⟨tg rfl, trivial⟩ ?_
  refine ct1 rfl rfl (fun hc => (O_call cf48 (impl_fits_opt (by assumption) (by (try simp only [bl] at hc); omega) _ _ (tfind T) _ _ cf103 (fun n => impl_shelf_thing T n)) rfl)) ⟨tg rfl, tg rfl, tg rfl, tg rfl, trivial⟩ ?_
  refine cs O_and ⟨T1 rfl, tg rfl, trivial⟩ ?_
  refine Chain_nil ?_
  refine WL_as rfl rfl ?_
  exact WL_nil (Fin_then (W_ret (RetC rfl (Res1 rfl (RV.tmp rfl (Imp.bool (by rw [← fits_eq])))))))
set_option maxRecDepth 8000 in
theorem impl_ValTell (G : Kin) (hG : Small G) (T : List Thg) (v : Vl) : FnC Try.prog 20 [A.sl 1 cGrp G, A.sl 2 cThing T, A.agg (cVal v)] (A.int (valTell G T v)) := by
  refine Fn_of_W Try.func20 rfl rfl fun r w => ?_
  refine W_seq (W_region (ws O_boxg ⟨T1 rfl, trivial⟩ ?_))
  refine WL_ac rfl ?_
  refine WL_nil (Fin_then (W_seq (W_region (WL_mv rfl rfl ?_))))
  refine ws (O_call cf47 (impl_readKin _ (by assumption)) rfl) ⟨T1 rfl, trivial⟩ ?_
  refine WL_mv rfl rfl ?_
  refine ws (O_extract rfl) ⟨T1 rfl, trivial⟩ ?_
  refine ws (O_extract rfl) ⟨T1 rfl, trivial⟩ ?_
  refine WL_as rfl rfl ?_
  refine WL_as rfl rfl ?_
  refine WL_nil (Fin_then (W_seq (W_seq (W_region (WL_mv rfl rfl ?_)))))
  refine ws O_not ⟨T1 rfl, trivial⟩ ?_
  refine WL_nil (Fin_then (W_cond rfl (fun h0 => ?_) (fun h0 => ?_)))
  · skip
    try simp only [bl] at h0
    refine W_seq (W_region (WL_ac rfl ?_))
    exact WL_nil (Fin_then (W_ret (Fin_then_ret (RetC rfl (Res1 rfl (RV.tmp rfl (Imp.int (by rw [← tell_eq hG]; grind))))))))
  try simp only [bl] at h0
  refine W_skip (Fin_then (W_seq (W_draw 5 mix rfl rfl ?_)))
  refine cs O_move ⟨T1 rfl, trivial⟩ ?_
  refine cs (O_loadgw tg35 rfl) ⟨T1 rfl, trivial⟩ ?_
  refine cs O_move ⟨T1 rfl, trivial⟩ ?_
  refine cs (O_call cf49 (impl_findIn _) rfl) ⟨T1 rfl, trivial⟩ ?_
  refine cs (O_call cf54 (impl_tell_opt (by assumption) (by grind) _ (tfind T) _ _ cf103 (fun n => impl_shelf_thing T n)) rfl) ⟨T1 rfl, T1 rfl, T1 rfl, trivial⟩ ?_
  refine Chain_nil ?_
  refine WL_as rfl rfl ?_
  exact WL_nil (Fin_then (W_ret (RetC rfl (Res1 rfl (RV.tmp rfl (Imp.int (by rw [← tell_eq hG]; grind)))))))
end Go.Proofs.Ytfjggobjijeniaa
