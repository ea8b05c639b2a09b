import Derived.Test.YtfjggobjijeniaaRows
import Derived.Test.YtfjggobjijeniaaWalk3
import Derived.Test.YtfjggobjijeniaaWalk2
import Derived.Test.YtfjggobjijeniaaPure6
import Derived.Test.YtfjggobjijeniaaPure7
import Derived.Test.YtfjggobjijeniaaPure8
import Derived.Test.YtfjggobjijeniaaPure9
import Derived.Test.YtfjggobjijeniaaPure10
import Derived.Test.YtfjggobjijeniaaPure11
import Derived.Test.YtfjggobjijeniaaPure12
import Derived.Test.YtfjggobjijeniaaPure13
import Derived.Test.YtfjggobjijeniaaPure14
import Derived.Test.YtfjggobjijeniaaA1
import Derived.Test.YtfjggobjijeniaaA2
import Derived.Test.YtfjggobjijeniaaA4
import Derived.Test.YtfjggobjijeniaaA5
import Derived.Test.YtfjggobjijeniaaA7
import Derived.Test.YtfjggobjijeniaaA8
import Derived.Test.YtfjggobjijeniaaA13
import Derived.Test.YtfjggobjijeniaaA17
import Derived.Test.YtfjggobjijeniaaA20
import Derived.Test.YtfjggobjijeniaaA21
import Derived.Test.YtfjggobjijeniaaA22
import Derived.Test.YtfjggobjijeniaaA23
import Derived.Test.YtfjggobjijeniaaA24
namespace Go.Proofs.Ytfjggobjijeniaa.A25
open Go Go.RowKit Go.L
theorem mix : Try.prog.follows .mixedOrders = true := by kernel_rfl
theorem cf48 : CallF Try.prog 48 := fun w vs => by kernel_rfl
theorem cf80 : CallF Try.prog 80 := fun w vs => by kernel_rfl
theorem ta88 : TA Try.prog 88 := by unfold TA; kernel_rfl
theorem tf139_0 : TF Try.prog 139 0 0 := by unfold TF; kernel_rfl
theorem tg35 : TG Try.prog 35 2 := ⟨by kernel_rfl, by kernel_rfl⟩
theorem tg37 : TG Try.prog 37 3 := ⟨by kernel_rfl, by kernel_rfl⟩
theorem tg67 : TG Try.prog 67 5 := ⟨by kernel_rfl, by kernel_rfl⟩
end Go.Proofs.Ytfjggobjijeniaa.A25
namespace Go.Proofs.Ytfjggobjijeniaa
open Go Go.RowKit Go.L A25
set_option maxRecDepth 8000 in
theorem impl_HeapOk (G : Kin) (hG : Small G) (h : Hp) (hh : HpOk h) (hl : h.words.length ≤ 1048576) : FnC Try.prog 35 [A.sl 1 cGrp G, A.agg (cHeap h)] (A.bool (heapOk G h)) := by
  refine Fn_of_W Try.func35 rfl rfl fun r w => ?_
  refine W_seq (W_region (ws O_boxg ⟨T1 rfl, trivial⟩ ?_))
  refine WL_ac rfl ?_
  refine WL_nil (Fin_then (W_seq (W_region (WL_mv rfl rfl ?_))))
  refine ws (O_loadgw tg67 rfl) ⟨T1 rfl, trivial⟩ ?_
  refine ws (O_call cf80 (impl_readHeap _ (by assumption) _ (by assumption) (by assumption)) rfl) ⟨T1 rfl, T1 rfl, trivial⟩ ?_
  refine WL_mv rfl rfl ?_
  refine ws (O_extract rfl) ⟨T1 rfl, trivial⟩ ?_
  refine ws (O_extract rfl) ⟨T1 rfl, trivial⟩ ?_
  refine WL_as rfl rfl ?_
  refine WL_as rfl rfl ?_
  refine WL_nil (Fin_then (W_seq (W_region (WL_mv rfl rfl ?_))))
  refine WL_as rfl rfl ?_
  exact WL_nil (Fin_then (W_ret (RetC rfl (Res1 rfl (RV.tmp rfl (by first | exact Imp.refl | exact Imp.slv | exact Imp.nil | exact Imp.int (by omega) | exact Imp.int (by simp; done) | exact Imp.bool (by simp_all; done)))))))
set_option maxRecDepth 8000 in
theorem impl_HeapFits (G : Kin) (hG : Small G) (h : Hp) (hh : HpOk h) (hl : h.words.length ≤ 1048576) (v : Vl) (hvn : inI v.n) (f : Fld) : FnC Try.prog 38 [A.sl 1 cGrp G, A.agg (cHeap h), A.agg (cVal v), A.agg (cFld f)] (A.bool (heapOk G h && (fieldOk f (kcnt G) && hfits G h (hthings G.flatten h).1 v f))) := by
  have hki : heapOk G h = true → kinOk G = true := fun q => by unfold heapOk at q; grind
  have hs : heapOk G h = true → hsize h = true := fun q => by unfold heapOk at q; grind
  have hyes : (heapOk G h && fitsF G (hfd G.flatten h.words (hthings G.flatten h).1) v f) = (heapOk G h && (fieldOk f (kcnt G) && hfits G h (hthings G.flatten h).1 v f)) := by cases q : heapOk G h with | false => rfl | true => rw [fits_heap (hthings_at (hs q)) (by have := hsize_use (hs q); omega)]
  refine Fn_of_W Try.func38 rfl rfl fun r w => ?_
  refine W_seq (W_region (ws O_boxg ⟨T1 rfl, trivial⟩ ?_))
  refine ws O_boxg ⟨T1 rfl, trivial⟩ ?_
  refine ws O_boxg ⟨T1 rfl, trivial⟩ ?_
  refine WL_ac rfl ?_
  refine WL_nil (Fin_then (W_seq (W_region (WL_mv rfl rfl ?_))))
  refine ws (O_loadgw tg67 rfl) ⟨T1 rfl, trivial⟩ ?_
  refine ws (O_call cf80 (impl_readHeap _ (by assumption) _ (by assumption) (by assumption)) rfl) ⟨T1 rfl, T1 rfl, trivial⟩ ?_
  refine WL_mv rfl rfl ?_
  refine ws (O_extract rfl) ⟨T1 rfl, trivial⟩ ?_
  refine ws (O_extract rfl) ⟨T1 rfl, trivial⟩ ?_
  refine WL_as rfl rfl ?_
  refine WL_as rfl rfl ?_
  refine WL_nil (Fin_then (W_seq (W_draw 12 mix rfl rfl ?_)))
  refine cs O_move ⟨T1 rfl, trivial⟩ ?_
  refine cs O_move ⟨T1 rfl, trivial⟩ ?_
  refine ct1 rfl rfl (fun hc => O_move) ⟨tg rfl, trivial⟩ ?_
  refine ct1 rfl rfl (fun hc => ((O_nilCheck).pre1 (hOpt_imp (by simpa using hc)))) ⟨tg rfl, trivial⟩ ?_
  refine ct1 rfl rfl (fun hc => (O_field tf139_0)) ⟨tg rfl, trivial⟩ ?_
  refine ct1 rfl rfl (fun hc => (O_load ta88)) ⟨tg rfl, trivial⟩ ?_
  refine ct1 rfl rfl (fun hc => (O_loadgw tg35 rfl)) ⟨tg rfl, trivial⟩ ?_
  refine ct1 rfl rfl (fun hc => (O_loadgw tg37 rfl)) ⟨tg rfl, trivial⟩ ?_
  refine ct1 rfl rfl (fun hc => O_move) ⟨tg rfl, trivial⟩ ?_
  refine ct1 rfl rfl (fun hc => (O_makeBound (bs := [_]) rfl)) ⟨tg rfl, trivial⟩ ?_
  refine ct1 rfl rfl (fun hc => (O_call cf48 (impl_fits _ (KG.of hG (hki (by simpa using hc))) v f (hfd G.flatten h.words (hthings G.flatten h).1) _ _ (fun _ _ => by kernel_rfl) hvn (fun n hi => by show FnC _ _ [hOpt (hP G h (hthings G.flatten h).1) (heapOk G h), A.int n] _; rw [hOpt_eq (by simpa using hc)]; exact impl_find G h _ (things_nodup (hs (by simpa using hc))) (things_inI (hs (by simpa using hc))) n hi)) rfl)) ⟨tg rfl, tg rfl, tg rfl, tg rfl, trivial⟩ ?_
  refine cs O_and ⟨T1 rfl, tg rfl, trivial⟩ ?_
  refine Chain_nil ?_
  refine WL_as rfl rfl ?_
  exact WL_nil (Fin_then (W_ret (RetC rfl (Res1 rfl (RV.tmp rfl (Imp.bool hyes))))))
end Go.Proofs.Ytfjggobjijeniaa
