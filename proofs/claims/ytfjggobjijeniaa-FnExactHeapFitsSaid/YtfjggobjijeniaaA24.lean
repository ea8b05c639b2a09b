import Derived.Test.YtfjggobjijeniaaRows
import Derived.Test.YtfjggobjijeniaaWalk3
import Derived.Test.YtfjggobjijeniaaWalk2
import Derived.Test.YtfjggobjijeniaaPure6
import Derived.Test.YtfjggobjijeniaaPure7
import Derived.Test.YtfjggobjijeniaaPure8
import Derived.Test.YtfjggobjijeniaaPure9
import Derived.Test.YtfjggobjijeniaaPure10
import Derived.Test.YtfjggobjijeniaaPure11
import Derived.Test.YtfjggobjijeniaaPure12
import Derived.Test.YtfjggobjijeniaaPure13
import Derived.Test.YtfjggobjijeniaaPure14
import Derived.Test.YtfjggobjijeniaaA1
import Derived.Test.YtfjggobjijeniaaA2
import Derived.Test.YtfjggobjijeniaaA4
import Derived.Test.YtfjggobjijeniaaA5
import Derived.Test.YtfjggobjijeniaaA7
import Derived.Test.YtfjggobjijeniaaA8
import Derived.Test.YtfjggobjijeniaaA13
import Derived.Test.YtfjggobjijeniaaA17
import Derived.Test.YtfjggobjijeniaaA20
import Derived.Test.YtfjggobjijeniaaA21
import Derived.Test.YtfjggobjijeniaaA22
import Derived.Test.YtfjggobjijeniaaA23
namespace Go.Proofs.Ytfjggobjijeniaa.A24
open Go Go.RowKit Go.L
theorem mix : Try.prog.follows .mixedOrders = true := by kernel_rfl
theorem cf128 : CallF Try.prog 128 := fun w vs => by kernel_rfl
theorem cf129 : CallF Try.prog 129 := fun w vs => by kernel_rfl
theorem cf130 : CallF Try.prog 130 := fun w vs => by kernel_rfl
theorem cf131 : CallF Try.prog 131 := fun w vs => by kernel_rfl
theorem cf132 : CallF Try.prog 132 := fun w vs => by kernel_rfl
theorem cf133 : CallF Try.prog 133 := fun w vs => by kernel_rfl
theorem cf134 : CallF Try.prog 134 := fun w vs => by kernel_rfl
theorem cf135 : CallF Try.prog 135 := fun w vs => by kernel_rfl
theorem cf166 : CallF Try.prog 166 := fun w vs => by kernel_rfl
theorem cf47 : CallF Try.prog 47 := fun w vs => by kernel_rfl
theorem sz132 : sizeAt Try.prog 132 = some 1 := by kernel_rfl
theorem sz4 : sizeAt Try.prog 4 = some 1 := by kernel_rfl
theorem sz86 : sizeAt Try.prog 86 = some 2 := by kernel_rfl
theorem ta132 : TA Try.prog 132 := by unfold TA; kernel_rfl
theorem ta137 : TA Try.prog 137 := by unfold TA; kernel_rfl
theorem ta3 : TA Try.prog 3 := by unfold TA; kernel_rfl
theorem ta4 : TA Try.prog 4 := by unfold TA; kernel_rfl
theorem ta62 : TA Try.prog 62 := by unfold TA; kernel_rfl
theorem ta84 : TA Try.prog 84 := by unfold TA; kernel_rfl
theorem ta88 : TA Try.prog 88 := by unfold TA; kernel_rfl
theorem tb139 : TB Try.prog 139 [.pointer none, .slice none 0 0, .int .i64 0, .int .i64 0, .int .i64 0, .slice none 0 0, .slice none 0 0, .map none] [(0, 1), (1, 5), (6, 1), (7, 1)] := ⟨by kernel_rfl, by kernel_rfl⟩
theorem tez231 : TEZ Try.prog 231 62 1 24 [.slice none 0 0] := ⟨by kernel_rfl, by kernel_rfl⟩
theorem te231 : TE Try.prog 231 62 1 24 := tez231.te rfl
theorem tf139_0 : TF Try.prog 139 0 0 := by unfold TF; kernel_rfl
theorem tf139_2 : TF Try.prog 139 2 6 := by unfold TF; kernel_rfl
theorem tf139_3 : TF Try.prog 139 3 7 := by unfold TF; kernel_rfl
theorem tf67_1 : TF Try.prog 67 1 1 := by unfold TF; kernel_rfl
theorem tf67_2 : TF Try.prog 67 2 2 := by unfold TF; kernel_rfl
theorem tf67_3 : TF Try.prog 67 3 3 := by unfold TF; kernel_rfl
theorem tf86_1 : TF Try.prog 86 1 1 := by unfold TF; kernel_rfl
theorem tg67 : TG Try.prog 67 5 := ⟨by kernel_rfl, by kernel_rfl⟩
theorem tg86 : TG Try.prog 86 2 := ⟨by kernel_rfl, by kernel_rfl⟩
theorem ts62 : TS Try.prog 62 3 1 := ⟨by kernel_rfl, by kernel_rfl⟩
theorem tz132 : TZ Try.prog 132 [.pointer none] := by unfold TZ; kernel_rfl
theorem tz4 : TZ Try.prog 4 [.bool false] := by unfold TZ; kernel_rfl
theorem tz86 : TZ Try.prog 86 [.int .i64 0, .slice none 0 0] := by unfold TZ; kernel_rfl
end Go.Proofs.Ytfjggobjijeniaa.A24
namespace Go.Proofs.Ytfjggobjijeniaa
open Go Go.RowKit Go.L A24
set_option maxRecDepth 8000 in
theorem impl_readHeap (G : Kin) (hG : Small G) (h : Hp) (hh : HpOk h) (hl : h.words.length ≤ 1048576) : FnC Try.prog 80 [A.sl 1 cGrp G, A.agg (cHeap h)] (A.tup [hOpt (hP G h (hthings G.flatten h).1) (heapOk G h), A.bool (heapOk G h)]) := by
  have hW := hh.2
  refine Fn_of_W Try.func80 rfl rfl fun r w => ?_
  refine W_seq (W_region (ws O_boxg ⟨T1 rfl, trivial⟩ ?_))
  refine WL_alloc tz132 rfl fun b4 => ?_
  refine WL_alloc tz4 rfl fun b5 => ?_
  refine WL_nil (Fin_then (W_seq (W_region (WL_mv rfl rfl ?_))))
  refine ws (O_call cf47 (impl_readKin _ (by assumption)) rfl) ⟨T1 rfl, trivial⟩ ?_
  refine WL_mv rfl rfl ?_
  refine ws (O_extract rfl) ⟨T1 rfl, trivial⟩ ?_
  refine ws (O_extract rfl) ⟨T1 rfl, trivial⟩ ?_
  refine WL_as rfl rfl ?_
  refine WL_as rfl rfl ?_
  refine WL_nil (Fin_then (W_seq (W_seq (W_region (WL_mv rfl rfl ?_)))))
  refine ws O_not ⟨T1 rfl, trivial⟩ ?_
  refine WL_mv rfl rfl ?_
  refine wf1 rfl rfl (fun hc => (O_loadgw tg67 rfl)) ⟨tg rfl, trivial⟩ ?_
  refine wf1 rfl rfl (fun hc => (O_call cf128 (impl_sizesOk _ (by assumption)) rfl)) ⟨tg rfl, trivial⟩ ?_
  refine wf1 rfl rfl (fun hc => O_not) ⟨tg rfl, trivial⟩ ?_
  refine ws O_or ⟨T1 rfl, tg rfl, trivial⟩ ?_
  refine WL_nil (Fin_then (W_cond rfl (fun h0 => ?_) (fun h0 => ?_)))
  · skip
    try simp only [bl] at h0
    refine W_seq (W_region (WL_store 1 rfl ⟨T1 rfl, C1, trivial⟩ (CellsOf.one OneV.ptr) sz132 (Nat.le_of_ble_eq_true rfl) ?_))
    refine WL_store 0 rfl ⟨T1 rfl, C1, trivial⟩ (CellsOf.one OneV.bool) sz4 (Nat.le_of_ble_eq_true rfl) ?_
    refine WL_nil (Fin_then (W_ret (Fin_then_ret ?_)))
    have hno : heapOk G h = false := by unfold heapOk; grind
    exact RetC rfl (Res2 rfl (RV.cell 1 rfl ta132 rfl rfl (hOpt_any hno)) (RV.cell 0 rfl ta4 rfl rfl (Imp.bool hno.symm)))
  try simp only [bl] at h0
  have hki : kinOk G = true := by grind
  have hs : hsize h = true := by grind
  have hK := KG.of hG hki
  have hu := hsize_use hs
  refine W_skip (Fin_then (W_seq (W_region (WL_mv rfl rfl ?_))))
  refine WL_imp 27 rfl (kOpt_imp hki) ?_
  refine ws (O_loadgw tg67 rfl) ⟨T1 rfl, trivial⟩ ?_
  refine WL_makeMap rfl fun m => ?_
  refine WL_roomNil0 3 1 ?_
  refine ws (O_build [(_, _), (_, _), (_, _)] tb139 rfl ⟨(CellsOf.one OneV.pt), (CellsOf.agg (by exact ⟨OneV.sl, OneV.int, OneV.int, OneV.int, OneV.sl, trivial⟩)), (CellsOf.one OneV.mp), trivial⟩ rfl) ⟨T1 rfl, T1 rfl, T1 rfl, trivial⟩ ?_
  refine WL_boxo (CellsOf.agg (by exact ⟨OneV.pt, OneV.sl, OneV.int, OneV.int, OneV.int, OneV.sl, OneV.slv, OneV.mp, trivial⟩)) (T1 rfl) rfl fun b31 => ?_
  refine WL_alloc tz132 rfl fun b8 => ?_
  refine WL_store 0 rfl ⟨T1 rfl, T1 rfl, trivial⟩ (CellsOf.one OneV.ptr) sz132 (Nat.le_of_ble_eq_true rfl) ?_
  refine WL_nil (Fin_then (W_seq (W_seq (W_region (ws (O_loado 0 ta132 rfl rfl) ⟨T1 rfl, trivial⟩ ?_)))))
  refine ws (O_field tf67_2) ⟨T1 rfl, trivial⟩ ?_
  refine ws (O_load ta3) ⟨T1 rfl, trivial⟩ ?_
  refine WL_callX [1] [0] [0] cf129 (impl_parse _ _ _ _ hK _ hW [] 0 h.oldAt (by omega) (by omega) (by omega) (by simp) (by simp)) rfl ⟨T1 rfl, C1, T1 rfl, trivial⟩ (.cons ⟨Imp.refl, Imp.refl, Imp.refl, Imp.refl, Imp.refl, Imp.refl, slv_nil, Imp.refl, trivial⟩ .nil) rfl rfl rfl rfl fun x35 => ?_
  refine WL_st 35 rfl fun hq35 => ?_
  have hA : x35.1 = true → (∀ s ∈ x35.2.1, 0 ≤ s ∧ s < h.old) ∧ (x35.2.1.length : Int) ≤ h.old := fun q => by rw [hq35.2 q, List.nil_append]; exact ⟨fun s hs => by have := hpart_mem (T := G.flatten) (W := h.words) (b := h.oldAt) _ 0 (Nat.le_refl _) s hs; omega, by have := hpart_len (T := G.flatten) (W := h.words) (b := h.oldAt) _ 0 (Nat.le_refl _); omega⟩
  refine ws O_not ⟨T1 rfl, trivial⟩ ?_
  refine WL_mv rfl rfl ?_
  refine wf1 rfl rfl (fun hc => (O_loado 1 ta132 rfl rfl)) ⟨tg rfl, trivial⟩ ?_
  refine wf1 rfl rfl (fun hc => (O_field tf67_1)) ⟨tg rfl, trivial⟩ ?_
  refine wf1 rfl rfl (fun hc => (O_load ta3)) ⟨tg rfl, trivial⟩ ?_
  refine wf1 rfl rfl (fun hc => (O_field tf67_1)) ⟨tg rfl, trivial⟩ ?_
  refine wf1 rfl rfl (fun hc => (O_load ta3)) ⟨tg rfl, trivial⟩ ?_
  refine wf1 rfl rfl (fun hc => (O_field tf67_3)) ⟨tg rfl, trivial⟩ ?_
  refine wf1 rfl rfl (fun hc => (O_load ta3)) ⟨tg rfl, trivial⟩ ?_
  refine wf1 rfl rfl (fun hc => (O_add (by (try simp only [bl] at hc); omega))) ⟨tg rfl, tg rfl, trivial⟩ ?_
  refine WL_callXf1 [0] [0] [0] (false, x35.2.1, x35.2.2) rfl rfl rfl cf129 (fun hc => impl_parse _ _ _ _ hK _ hW x35.2.1 h.old (h.old + h.youngAt) (by omega) (by omega) (by omega) (hA (by simpa using hc)).1 (hA (by simpa using hc)).2) rfl ⟨tg rfl, tg rfl, tg rfl, trivial⟩ (.cons AllImp.refl .nil) rfl rfl rfl rfl rfl fun x46 => ?_
  refine WL_stg 46 rfl fun hq46 => ?_
  refine wf1 rfl rfl (fun hc => O_not) ⟨tg rfl, trivial⟩ ?_
  refine ws O_or ⟨T1 rfl, tg rfl, trivial⟩ ?_
  refine WL_nil (Fin_then (W_cond rfl (fun h1 => ?_) (fun h1 => ?_)))
  · skip
    try simp only [bl] at h1
    refine W_seq (W_region (WL_store 3 rfl ⟨T1 rfl, C1, trivial⟩ (CellsOf.one OneV.ptr) sz132 (Nat.le_of_ble_eq_true rfl) ?_))
    refine WL_store 2 rfl ⟨T1 rfl, C1, trivial⟩ (CellsOf.one OneV.bool) sz4 (Nat.le_of_ble_eq_true rfl) ?_
    refine WL_nil (Fin_then (W_ret (Fin_then_ret ?_)))
    have hno : heapOk G h = false := by rw [heap_eq hki hK hs]; unfold parB; by_cases q : x35.1 = true; (rw [← hq35.1, ← (hq46 (by simp [q])).1]; grind); (rw [← hq35.1]; simp [q])
    exact RetC rfl (Res2 rfl (RV.cell 3 rfl ta132 rfl rfl (hOpt_any hno)) (RV.cell 2 rfl ta4 rfl rfl (Imp.bool hno.symm)))
  try simp only [bl] at h1
  have hzl : (zeroL h).length ≤ 2097152 := by unfold zeroL; simp; omega
  have ht1 : ((h.words.take h.old.toNat).length : Int) = h.old := by rw [List.length_take]; omega
  have ht2 : ((h.words.drop h.old.toNat).length : Int) = h.words.length - h.old := by rw [List.length_drop]; omega
  have hp1 : x35.1 = true := by grind
  have hp2 : x46.1 = true := by grind
  have hSe : x46.2.1 = (hthings G.flatten h).1 := by rw [(hq46 (by simp [hp1])).2 hp2, hq35.2 hp1]; rfl
  have hAt : ∀ s ∈ x46.2.1, AtOk G.flatten h.words s := by rw [hSe]; exact hthings_at hs
  have hNd : (x46.2.1).Nodup := by rw [hSe]; exact things_nodup hs
  have hIn : ∀ s ∈ x46.2.1, inI s := by rw [hSe]; exact things_inI hs
  have hLH : LH h x46.2.1 := by rw [hSe]; exact LH.of hs
  have hpb1 : parB G.flatten h.words 0 h.oldAt = true := by unfold parB; rw [← hq35.1]; exact hp1
  have hpb2 : parB G.flatten h.words h.old (h.old + h.youngAt) = true := by unfold parB; rw [← (hq46 (by simp [hp1])).1]; exact hp2
  refine W_skip (Fin_then (W_seq (W_region (ws (O_loadgw tg67 rfl) ⟨T1 rfl, trivial⟩ ?_))))
  refine WL_freezeMap 0 0 7 rfl rfl rfl ?_
  refine WL_freeze 0 rfl 31 rfl (u := A.isv _ (hP G h x46.2.1)) (fun r _ hat => ⟨rfl, _, _, rfl, (by refine AllImp.cellsAt ?_ hat; exact ⟨Imp.refl, Imp.refl, Imp.refl, Imp.refl, Imp.refl, Imp.refl, Imp.slv, Imp.refl, trivial⟩)⟩) ?_
  refine WL_cellOf 0 0 31 rfl rfl rfl ?_
  refine ws (O_call cf130 (impl_views _ (by omega) (by omega)) rfl) ⟨T1 rfl, trivial⟩ ?_
  refine WL_mv rfl rfl ?_
  refine ws (O_extract rfl) ⟨T1 rfl, trivial⟩ ?_
  refine ws (O_extract rfl) ⟨T1 rfl, trivial⟩ ?_
  refine WL_as rfl rfl ?_
  refine WL_as rfl rfl ?_
  refine WL_nil (Fin_then (W_seq (W_seq (W_draw 12 mix rfl rfl ?_))))
  refine cs O_move ⟨T1 rfl, trivial⟩ ?_
  refine cs (O_field tf67_2) ⟨T1 rfl, trivial⟩ ?_
  refine cs (O_load ta3) ⟨T1 rfl, trivial⟩ ?_
  refine cs (O_slice_l ts62 (by omega)) ⟨T1 rfl, T1 rfl, trivial⟩ ?_
  refine cs O_move ⟨T1 rfl, trivial⟩ ?_
  refine cs (O_field tf67_3) ⟨T1 rfl, trivial⟩ ?_
  refine cs (O_load ta3) ⟨T1 rfl, trivial⟩ ?_
  refine cs (O_slice_l ts62 (by omega)) ⟨T1 rfl, T1 rfl, trivial⟩ ?_
  refine cs (O_buildSlice (f := cInts) [(h.words.take h.old.toNat).drop h.oldAt.toNat, (h.words.drop h.old.toNat).drop h.youngAt.toNat] [(_, _), (_, _)] te231 rfl (by decide) rfl (fun _ => rfl) rfl ⟨(CellsOf.one OneV.sl), (CellsOf.one OneV.sl), trivial⟩ rfl rfl) ⟨T1 rfl, T1 rfl, trivial⟩ ?_
  refine cs (O_call cf131 ((FnC_of_X (u := A.sl 1 cInt (zeroL h)) (concatI _ (by simp; omega) (by simp)) fun _ => Imp.slv)) rfl) ⟨T1 rfl, trivial⟩ ?_
  refine cs (O_len ts62) ⟨T1 rfl, trivial⟩ ?_
  refine cs O_movec trivial ?_
  refine Chain_nil ?_
  refine WL_nil (Fin_then (W_block (W_loopp [4, 5, 8, 63, 64] [] [] [] (T := Nat) (fun z => z ≤ (zeroL h).length ∧ ∀ i : Nat, i < z → idx (zeroL h) (i : Int) = 0) (fun z => [(65, true, A.int (z : Int))]) (fun z => { own := [], rooms := [], maps := [] }) (fun z => (zeroL h).length - z) 0 ⟨Nat.zero_le _, fun i hi => by omega⟩ ⟨⟨rfl, _, rfl, (by first | exact Imp.refl | exact Imp.slv | exact Imp.nil | exact Imp.int (by omega) | exact Imp.int (by simp; done) | exact Imp.bool (by simp_all; done))⟩, trivial⟩ OSub.nil rfl rfl rfl (fun z hx => ?_))))
  have hz1 := hx.1
  have hz2 := hx.2
  refine W_seq (W_region (ws O_lss ⟨T1 rfl, T1 rfl, trivial⟩ ?_))
  refine WL_nil (Fin_then (W_seq (W_cond rfl (fun h2 => ?_) (fun h2 => ?_))))
  · skip
    try simp only [bl] at h2
    refine W_skip (Fin_then (W_seq (W_block (W_seq (W_region (ws (O_index ts62 (by omega)) ⟨T1 rfl, T1 rfl, trivial⟩ ?_))))))
    refine ws (O_load ta3) ⟨T1 rfl, trivial⟩ ?_
    refine WL_as rfl rfl ?_
    refine WL_nil (Fin_then (W_seq (W_region (WL_mv rfl rfl ?_))))
    refine ws O_neq ⟨T1 rfl, C1, trivial⟩ ?_
    refine WL_nil (Fin_then (W_cond rfl (fun h3 => ?_) (fun h3 => ?_)))
    · skip
      try simp only [bl] at h3
      refine W_seq (W_region (WL_store 2 rfl ⟨T1 rfl, C1, trivial⟩ (CellsOf.one OneV.ptr) sz132 (Nat.le_of_ble_eq_true rfl) ?_))
      refine WL_store 1 rfl ⟨T1 rfl, C1, trivial⟩ (CellsOf.one OneV.bool) sz4 (Nat.le_of_ble_eq_true rfl) ?_
      refine WL_nil (Fin_then (W_ret (Fin_block_ret (Fin_then_ret (Fin_then_ret (Fin_block_ret (Fin_then_ret ?_)))))))
      have hno : heapOk G h = false := by rw [heap_eq hki hK hs, show hzero h = false from by (cases e : hzero h with | false => rfl | true => exact absurd ((zero_iff hs).1 e _ (idx_mem (n := (z : Int)) (by omega) (by omega))) (by simpa using h3))]; simp
      exact RetC rfl (Res2 rfl (RV.cell 2 rfl ta132 rfl rfl (hOpt_any hno)) (RV.cell 1 rfl ta4 rfl rfl (Imp.bool hno.symm)))
    try simp only [bl] at h3
    refine W_skip (Fin_block (Fin_then (W_region (ws (O_add (by omega)) ⟨T1 rfl, C1, trivial⟩ ?_))))
    refine WL_mv rfl rfl ?_
    exact WL_nil (Fin_backp [0, 1, 2] (z + 1) ⟨by omega, fun i hi => by rcases Nat.lt_or_ge i z with q | q; exact hz2 i q; rw [show i = z from by omega]; simpa using h3⟩ (by omega) ⟨⟨rfl, _, rfl, (by first | exact Imp.refl | exact Imp.slv | exact Imp.nil | exact Imp.int (by omega) | exact Imp.int (by simp; done) | exact Imp.bool (by simp_all; done))⟩, trivial⟩ ⟨rfl, rfl, rfl, rfl, rfl, trivial⟩ (.cons AllImp.refl (.cons AllImp.refl (.cons AllImp.refl OSub.nil))) rfl (List.Sublist.refl _) rfl)
  try simp only [bl] at h2
  refine W_exit (Fin_then_exit (Fin_then_exit (Fin_block_exit (Fin_then (W_seq (W_seq (W_region (ws (O_loado 0 ta132 rfl rfl) ⟨T1 rfl, trivial⟩ ?_))))))))
  refine ws (O_call cf132 (impl_objects _ _ _) rfl) ⟨T1 rfl, trivial⟩ ?_
  refine WL_nil (Fin_then (W_block (W_rangeFunc rfl rfl rfl rfl rfl rfl cf166 rfl fun S_1 => ?_)))
  refine W_seq (W_region (ws (O_load ta132) ⟨T1 rfl, trivial⟩ ?_))
  refine ws O_nilCheck ⟨T1 rfl, trivial⟩ ?_
  refine ws (O_field tf139_2) ⟨T1 rfl, trivial⟩ ?_
  refine ws (O_load ta62) ⟨T1 rfl, trivial⟩ ?_
  refine WL_len ts62 rfl rfl fun hl9 => ?_
  refine WL_mc rfl ?_
  refine WL_nil (Fin_then (W_block (W_loopp [0, 1, 8, 9] [] [] [] (T := Nat) (fun x => x ≤ x46.2.1.length ∧ ∀ i : Nat, i < x → fitAt G h x46.2.1 (idx x46.2.1 (i : Int)) = true) (fun x => [(10, true, A.int (x : Int))]) (fun x => { own := [], rooms := [], maps := [] }) (fun x => x46.2.1.length - x) 0 ⟨Nat.zero_le _, fun i hi => by omega⟩ ⟨⟨rfl, _, rfl, (by first | exact Imp.refl | exact Imp.slv | exact Imp.nil | exact Imp.int (by omega) | exact Imp.int (by simp; done) | exact Imp.bool (by simp_all; done))⟩, trivial⟩ OSub.nil rfl rfl rfl (fun x hx => ?_))))
  have hx1 := hx.1
  have hx2 := hx.2
  refine W_seq (W_region (ws O_lss ⟨T1 rfl, T1 rfl, trivial⟩ ?_))
  refine WL_nil (Fin_then (W_seq (W_cond rfl (fun h0 => ?_) (fun h0 => ?_))))
  · skip
    try simp only [bl] at h0
    refine W_skip (Fin_then (W_seq (W_block (W_seq (W_region (ws (O_index ts62 (by omega)) ⟨T1 rfl, T1 rfl, trivial⟩ ?_))))))
    refine ws (O_load ta3) ⟨T1 rfl, trivial⟩ ?_
    refine WL_as rfl rfl ?_
    refine WL_nil (Fin_then (W_seq (W_region (WL_mv rfl rfl ?_))))
    refine WL_mv rfl rfl ?_
    refine ws (O_load ta132) ⟨T1 rfl, trivial⟩ ?_
    refine ws O_nilCheck ⟨T1 rfl, trivial⟩ ?_
    refine ws (O_field tf139_3) ⟨T1 rfl, trivial⟩ ?_
    refine ws (O_load ta137) ⟨T1 rfl, trivial⟩ ?_
    refine WL_mv rfl rfl ?_
    refine ws (OpN.post (O_lookupf0 mtThg hzThg (thE_ok hIn) (thE_nodup hNd) (kokInt (n := (idx x46.2.1 (x : Int))) (hIn _ (idx_mem (by omega) (by omega))))) (thE_look0 hNd (idx_mem (by omega) (by omega)))) ⟨T1 rfl, T1 rfl, trivial⟩ ?_
    refine WL_yield2 rfl rfl rfl rfl (List.Mem.head _) ⟨T1 rfl, T1 rfl, T1 rfl, trivial⟩ fun a1 r1 hat => ?_
    refine W_region (WL_alloc tz86 rfl fun b14 => ?_)
    refine WL_store 0 rfl ⟨T1 rfl, T1 rfl, trivial⟩ (CellsOf.agg (by exact ⟨OneV.int, OneV.sl, trivial⟩)) sz86 (Nat.le_of_ble_eq_true rfl) ?_
    refine WL_nil (Fin_begin (r1 := r1) rfl ?_)
    refine W_block (W_seq (W_draw 13 mix rfl rfl ?_))
    refine cs (O_loado 1 ta132 rfl rfl) ⟨T1 rfl, trivial⟩ ?_
    refine cs O_nilCheck ⟨T1 rfl, trivial⟩ ?_
    refine cs (O_field tf139_0) ⟨T1 rfl, trivial⟩ ?_
    refine cs (O_load ta88) ⟨T1 rfl, trivial⟩ ?_
    refine cs (O_fieldv tf86_1) ⟨T1 rfl, trivial⟩ ?_
    refine cs (O_loado 0 ta84 rfl rfl) ⟨T1 rfl, trivial⟩ ?_
    refine cs (O_loado 1 ta132 rfl rfl) ⟨T1 rfl, trivial⟩ ?_
    refine cs (O_loadog 0 tg86 rfl (Nat.le_of_ble_eq_true rfl)) ⟨T1 rfl, trivial⟩ ?_
    refine cs (O_call cf134 (impl_hfields _ (by assumption) _ _ _) rfl) ⟨T1 rfl, T1 rfl, trivial⟩ ?_
    refine cs (O_loado 1 ta132 rfl rfl) ⟨T1 rfl, trivial⟩ ?_
    refine cs (O_makeBound (bs := [_]) rfl) ⟨T1 rfl, trivial⟩ ?_
    refine cs (O_call cf133 (impl_fitAll _ hK _ _ (vals_inI hW) (hfd G.flatten h.words x46.2.1) _ _ (fun _ _ => by kernel_rfl) (fun n hi => impl_find G h x46.2.1 hNd hIn n hi)) rfl) ⟨T1 rfl, T1 rfl, T1 rfl, T1 rfl, trivial⟩ ?_
    refine cs O_not ⟨T1 rfl, trivial⟩ ?_
    refine Chain_nil ?_
    refine WL_nil (Fin_then (W_cond rfl (fun h4 => ?_) (fun h4 => ?_)))
    · skip
      try simp only [bl] at h4
      refine W_seq (W_region (WL_store 3 rfl ⟨T1 rfl, C1, trivial⟩ (CellsOf.one OneV.ptr) sz132 (Nat.le_of_ble_eq_true rfl) ?_))
      refine WL_store 2 rfl ⟨T1 rfl, C1, trivial⟩ (CellsOf.one OneV.bool) sz4 (Nat.le_of_ble_eq_true rfl) ?_
      refine WL_nil (Fin_then (W_ret (Fin_block_ret (Fin_roundR hat rfl [S_1.r, r] (fun c h => by simpa using h) ?_ rfl))))
      refine ws O_not ⟨T1 rfl, trivial⟩ ?_
      refine WL_nil (Fin_then (W_cond rfl (fun h1 => ?_) (fun h1 => ?_)))
      · skip
        refine W_ret (Fin_block_ret (Fin_then_ret (Fin_then_ret (Fin_block_ret (Fin_iterR rfl rfl rfl (Or.inr rfl) (fun c h => by simpa using h) ?_)))))
        refine Fin_block_ret (Fin_then_ret ?_)
        have hno : heapOk G h = false := by rw [heap_eq hki hK hs, show (hthings G.flatten h).1.all (fitAt G h (hthings G.flatten h).1) = false from by (rw [← hSe, List.all_eq_false]; exact ⟨_, idx_mem (n := (x : Int)) (by omega) (by omega), by simpa [fitAt] using h4⟩)]; simp
        exact RetC rfl (Res2 rfl (RV.cell 3 rfl ta132 rfl rfl (hOpt_any hno)) (RV.cell 2 rfl ta4 rfl rfl (Imp.bool hno.symm)))
      simp at h1
    try simp only [bl] at h4
    refine W_skip (Fin_block (Fin_roundN hat rfl [S_1.r, r] (fun c h => by simpa using h) ?_ rfl))
    refine ws O_not ⟨T1 rfl, trivial⟩ ?_
    refine WL_nil (Fin_then (W_cond rfl (fun h1 => ?_) (fun h1 => ?_)))
    · skip
      simp at h1
    refine W_skip (Fin_block (Fin_then (W_region (ws (O_add (by omega)) ⟨T1 rfl, C1, trivial⟩ ?_))))
    refine WL_mv rfl rfl ?_
    exact WL_nil (Fin_backp [1, 2, 3] (x + 1) ⟨by omega, fun i hi => by rcases Nat.lt_or_ge i x with q | q; exact hx2 i q; rw [show i = x from by omega]; simpa [fitAt] using h4⟩ (by omega) ⟨⟨rfl, _, rfl, (by first | exact Imp.refl | exact Imp.slv | exact Imp.nil | exact Imp.int (by omega) | exact Imp.int (by simp; done) | exact Imp.bool (by simp_all; done))⟩, trivial⟩ ⟨rfl, rfl, rfl, rfl, trivial⟩ (.cons AllImp.refl (.cons AllImp.refl (.cons AllImp.refl OSub.nil))) rfl (List.Sublist.refl _) rfl)
  try simp only [bl] at h0
  refine W_exit (Fin_then_exit (Fin_then_exit (Fin_block_exit (Fin_iterN rfl rfl (Or.inl rfl) (fun c h => by simpa using h) ?_))))
  refine Fin_block (Fin_then (W_seq (W_draw 3 mix rfl rfl ?_)))
  refine cs (O_loado 0 ta132 rfl rfl) ⟨T1 rfl, trivial⟩ ?_
  refine cs (O_loado 0 ta132 rfl rfl) ⟨T1 rfl, trivial⟩ ?_
  refine cs (O_call cf135 (impl_logOk _ hK _ hW _ hAt hNd hIn hLH) rfl) ⟨T1 rfl, trivial⟩ ?_
  refine Chain_nil ?_
  refine WL_store 2 rfl ⟨T1 rfl, T1 rfl, trivial⟩ (CellsOf.one OneV.pt) sz132 (Nat.le_of_ble_eq_true rfl) ?_
  refine WL_store 1 rfl ⟨T1 rfl, T1 rfl, trivial⟩ (CellsOf.one OneV.bool) sz4 (Nat.le_of_ble_eq_true rfl) ?_
  refine WL_nil (Fin_then (W_ret ?_))
  have hyes : heapOk G h = logOkI G.flatten h x46.2.1 := by rw [heap_eq hki hK hs, ← hSe, hpb1, hpb2, (zero_iff hs).2 (fun w hw => by obtain ⟨i, hi, e⟩ := List.getElem_of_mem hw; rw [← e, ← idx_nat hi]; exact hz2 i (by omega)), show x46.2.1.all (fitAt G h x46.2.1) = true from by (rw [List.all_eq_true]; intro a ha; obtain ⟨i, hi, e⟩ := List.getElem_of_mem ha; rw [← e, ← idx_nat hi]; exact hx2 i (by omega))]; rfl
  exact RetC rfl (Res2 rfl (RV.cell 2 rfl ta132 rfl rfl (Imp.trans (Imp.eq (by rw [hSe])) hOpt_of)) (RV.cell 1 rfl ta4 rfl rfl (Imp.bool hyes.symm)))
end Go.Proofs.Ytfjggobjijeniaa
