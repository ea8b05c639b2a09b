import Derived.Test.YtfjggobjijeniaaRows
import Derived.Test.YtfjggobjijeniaaWalk3
import Derived.Test.YtfjggobjijeniaaWalk2
import Derived.Test.YtfjggobjijeniaaPure6
import Derived.Test.YtfjggobjijeniaaPure7
import Derived.Test.YtfjggobjijeniaaPure8
import Derived.Test.YtfjggobjijeniaaPure9
import Derived.Test.YtfjggobjijeniaaA1
import Derived.Test.YtfjggobjijeniaaA2
import Derived.Test.YtfjggobjijeniaaA4
import Derived.Test.YtfjggobjijeniaaA13
import Derived.Test.YtfjggobjijeniaaA18
namespace Go.Proofs.Ytfjggobjijeniaa.A19
open Go Go.RowKit Go.L
theorem mix : Try.prog.follows .mixedOrders = true := by kernel_rfl
theorem cf124 : CallF Try.prog 124 := fun w vs => by kernel_rfl
theorem cf125 : CallF Try.prog 125 := fun w vs => by kernel_rfl
theorem cf126 : CallF Try.prog 126 := fun w vs => by kernel_rfl
theorem cf127 : CallF Try.prog 127 := fun w vs => by kernel_rfl
theorem cf33 : CallF Try.prog 33 := fun w vs => by kernel_rfl
theorem cf41 : CallF Try.prog 41 := fun w vs => by kernel_rfl
theorem cf42 : CallF Try.prog 42 := fun w vs => by kernel_rfl
theorem cf43 : CallF Try.prog 43 := fun w vs => by kernel_rfl
theorem cf73 : CallF Try.prog 73 := fun w vs => by kernel_rfl
theorem cf74 : CallF Try.prog 74 := fun w vs => by kernel_rfl
theorem cf75 : CallF Try.prog 75 := fun w vs => by kernel_rfl
theorem cf76 : CallF Try.prog 76 := fun w vs => by kernel_rfl
theorem cf77 : CallF Try.prog 77 := fun w vs => by kernel_rfl
theorem cf78 : CallF Try.prog 78 := fun w vs => by kernel_rfl
theorem cf82 : CallF Try.prog 82 := fun w vs => by kernel_rfl
theorem sz145 : sizeAt Try.prog 145 = some 4 := by kernel_rfl
theorem sz35 : sizeAt Try.prog 35 = some 2 := by kernel_rfl
theorem sz37 : sizeAt Try.prog 37 = some 3 := by kernel_rfl
theorem ta3 : TA Try.prog 3 := by unfold TA; kernel_rfl
theorem ta62 : TA Try.prog 62 := by unfold TA; kernel_rfl
theorem tez62 : TEZ Try.prog 62 3 1 8 [.int .i64 0] := ⟨by kernel_rfl, by kernel_rfl⟩
theorem te62 : TE Try.prog 62 3 1 8 := tez62.te rfl
theorem tf35_0 : TF Try.prog 35 0 0 := by unfold TF; kernel_rfl
theorem tf35_1 : TF Try.prog 35 1 1 := by unfold TF; kernel_rfl
theorem tf67_0 : TF Try.prog 67 0 0 := by unfold TF; kernel_rfl
theorem tf67_1 : TF Try.prog 67 1 1 := by unfold TF; kernel_rfl
theorem tf67_4 : TF Try.prog 67 4 4 := by unfold TF; kernel_rfl
theorem tft37_0 : TFt Try.prog 37 0 0 3 := by unfold TFt; kernel_rfl
theorem tg145 : TG Try.prog 145 4 := ⟨by kernel_rfl, by kernel_rfl⟩
theorem tg35 : TG Try.prog 35 2 := ⟨by kernel_rfl, by kernel_rfl⟩
theorem tg37 : TG Try.prog 37 3 := ⟨by kernel_rfl, by kernel_rfl⟩
theorem tg67 : TG Try.prog 67 5 := ⟨by kernel_rfl, by kernel_rfl⟩
theorem ts62 : TS Try.prog 62 3 1 := ⟨by kernel_rfl, by kernel_rfl⟩
theorem ts82 : TS Try.prog 82 145 4 := ⟨by kernel_rfl, by kernel_rfl⟩
theorem tz145 : TZ Try.prog 145 [.int .i64 0, .int .i64 0, .bool false, .slice none 0 0] := by unfold TZ; kernel_rfl
theorem tz35 : TZ Try.prog 35 [.int .i64 0, .int .i64 0] := by unfold TZ; kernel_rfl
theorem tz37 : TZ Try.prog 37 [.int .i64 0, .int .i64 0, .bool false] := by unfold TZ; kernel_rfl
end Go.Proofs.Ytfjggobjijeniaa.A19
namespace Go.Proofs.Ytfjggobjijeniaa
open Go Go.RowKit Go.L A19
set_option maxRecDepth 8000 in
theorem spec_l7Words (G : Kin) (hG : Small G) (hk : kinOk G = true) (h : Hp) (hW : WOk h.words) (hl : h.words.length ≤ 1048576) (S : List Int) (hS : ∀ s ∈ S, AtOk G.flatten h.words s) (a : Int) (ha : AtOk G.flatten h.words a) : FnC Try.prog 78 [A.sl 1 cGrp G, A.sl 4 cTy G.flatten, A.agg (cHeap h), A.sl 1 cInt S, A.int a] (A.bool (hwords G G.flatten h S a)) := by
  have hK := KG.of hG hk
  obtain ⟨u1, u2, u3, u4, u5, u6, u7, u8⟩ := ha.use
  obtain ⟨ty1, ty2, ty3, ty4⟩ := hK.tyAt (t := idx h.words a / 16) (by omega) (by omega)
  have hwr := hW.at a
  refine Fn_of_W Try.func78 rfl rfl fun r w => ?_
  refine W_seq (W_region (ws O_boxg ⟨T1 rfl, trivial⟩ ?_))
  refine WL_ac rfl ?_
  refine WL_nil (Fin_then (W_seq (W_region (WL_mv rfl rfl ?_))))
  refine ws (O_field tf67_0) ⟨T1 rfl, trivial⟩ ?_
  refine ws (O_load ta62) ⟨T1 rfl, trivial⟩ ?_
  refine WL_mv rfl rfl ?_
  refine ws (O_index ts62 (by omega)) ⟨T1 rfl, T1 rfl, trivial⟩ ?_
  refine ws (O_load ta3) ⟨T1 rfl, trivial⟩ ?_
  refine ws (O_quo (by omega) (by omega) (by omega)) ⟨T1 rfl, C1, trivial⟩ ?_
  refine ws (O_index ts82 (by omega)) ⟨T1 rfl, T1 rfl, trivial⟩ ?_
  refine ws (O_loadgw tg145 rfl) ⟨T1 rfl, trivial⟩ ?_
  refine WL_alloc tz145 rfl fun b11 => ?_
  refine WL_store 0 rfl ⟨T1 rfl, T1 rfl, trivial⟩ (CellsOf.agg (by exact ⟨OneV.int, OneV.int, OneV.bool, OneV.sl, trivial⟩)) sz145 (Nat.le_of_ble_eq_true rfl) ?_
  refine WL_nil (Fin_then (W_seq (W_seq (W_region (WL_ac rfl ?_)))))
  refine WL_nil (Fin_then (W_block (W_loopp [0, 3, 4, 7, 11] [] [] [] (T := Nat) (fun k => k ≤ (idx h.words a % 16).toNat ∧ ∀ j, j < k → (hwordAt G G.flatten h S a) j = true) (fun k => [(12, true, A.int (k : Int))]) (fun k => { own := [], rooms := [], maps := [] }) (fun k => (idx h.words a % 16).toNat - k) 0 ⟨Nat.zero_le _, allN_zero⟩ ⟨⟨rfl, _, rfl, (by first | exact Imp.refl | exact Imp.slv | exact Imp.nil | exact Imp.int (by omega) | exact Imp.int (by simp; done) | exact Imp.bool (by simp_all; done))⟩, trivial⟩ OSub.nil rfl rfl rfl (fun k hx => ?_))))
  have hk := hx.1
  have hj := hx.2
  refine W_seq (W_seq (W_region (WL_mv rfl rfl ?_)))
  refine ws (O_field tf67_0) ⟨T1 rfl, trivial⟩ ?_
  refine ws (O_load ta62) ⟨T1 rfl, trivial⟩ ?_
  refine WL_mv rfl rfl ?_
  refine ws (O_index ts62 (by omega)) ⟨T1 rfl, T1 rfl, trivial⟩ ?_
  refine ws (O_load ta3) ⟨T1 rfl, trivial⟩ ?_
  refine ws (O_rem (by omega) (by omega)) ⟨T1 rfl, C1, trivial⟩ ?_
  refine ws O_lss ⟨T1 rfl, T1 rfl, trivial⟩ ?_
  refine WL_nil (Fin_then (W_cond rfl (fun h0 => ?_) (fun h0 => ?_)))
  · skip
    try simp only [bl] at h0
    have hkk : (k : Int) < idx h.words a % 16 := by omega
    have hfk : fieldOk (fldAt (idx G.flatten (idx h.words a / 16)) (k : Int)) (kcnt G) = true := fld_okAt hK (by omega) (by omega) (by omega) (fun k1 => by have := u8 k1; omega)
    have hfi : (if (idx G.flatten (idx h.words a / 16)).kind = 2 then (0 : Int) else (k : Int)) < (idx G.flatten (idx h.words a / 16)).fields.length := by rcases ty1 with q | q; (have := u8 q; rw [if_neg (by omega)]; omega); (have := ty2 q; rw [if_pos q]; omega)
    refine W_skip (Fin_then (W_seq (W_block (W_seq (W_region (ws (O_field tf67_0) ⟨T1 rfl, trivial⟩ ?_))))))
    refine ws (O_load ta62) ⟨T1 rfl, trivial⟩ ?_
    refine WL_mv rfl rfl ?_
    refine ws (O_add (by omega)) ⟨T1 rfl, C1, trivial⟩ ?_
    refine WL_mv rfl rfl ?_
    refine ws (O_add (by omega)) ⟨T1 rfl, T1 rfl, trivial⟩ ?_
    refine ws (O_index ts62 (by omega)) ⟨T1 rfl, T1 rfl, trivial⟩ ?_
    refine ws (O_load ta3) ⟨T1 rfl, trivial⟩ ?_
    refine WL_as rfl rfl ?_
    refine WL_nil (Fin_then (W_seq (W_region (ws (O_loadog 0 tg145 rfl (Nat.le_of_ble_eq_true rfl)) ⟨T1 rfl, trivial⟩ ?_))))
    refine WL_mv rfl rfl ?_
    refine ws (O_call cf126 (spec_l7Field _ _ hfi (by omega)) rfl) ⟨T1 rfl, T1 rfl, trivial⟩ ?_
    refine WL_alloc tz37 rfl fun b14 => ?_
    refine WL_store 0 rfl ⟨T1 rfl, T1 rfl, trivial⟩ (CellsOf.agg (by exact ⟨OneV.int, OneV.int, OneV.bool, trivial⟩)) sz37 (Nat.le_of_ble_eq_true rfl) ?_
    refine WL_nil (Fin_then (W_seq (W_region (ws (O_loadog 0 tg37 rfl (Nat.le_of_ble_eq_true rfl)) ⟨T1 rfl, trivial⟩ ?_))))
    refine WL_mv rfl rfl ?_
    refine ws (O_call cf127 (spec_WordVal _ _ (by have := hW.at (a + 1 + (k : Int)); exact this)) rfl) ⟨T1 rfl, T1 rfl, trivial⟩ ?_
    refine WL_mv rfl rfl ?_
    refine ws (O_extract rfl) ⟨T1 rfl, trivial⟩ ?_
    refine ws (O_extract rfl) ⟨T1 rfl, trivial⟩ ?_
    refine WL_alloc tz35 rfl fun b15 => ?_
    refine WL_store 0 rfl ⟨T1 rfl, T1 rfl, trivial⟩ (CellsOf.agg (by exact ⟨OneV.int, OneV.int, trivial⟩)) sz35 (Nat.le_of_ble_eq_true rfl) ?_
    refine WL_as rfl rfl ?_
    refine WL_nil (Fin_then (W_seq (W_seq (W_region (WL_mv rfl rfl ?_)))))
    refine ws O_not ⟨T1 rfl, trivial⟩ ?_
    refine WL_mv rfl rfl ?_
    refine wf1 rfl rfl (fun hc => O_move) ⟨tg rfl, trivial⟩ ?_
    refine wf1 rfl rfl (fun hc => (O_loadgw tg67 rfl)) ⟨tg rfl, trivial⟩ ?_
    refine wf1 rfl rfl (fun hc => O_move) ⟨tg rfl, trivial⟩ ?_
    refine wf1 rfl rfl (fun hc => (O_loadog 0 tg35 rfl (Nat.le_of_ble_eq_true rfl))) ⟨tg rfl, trivial⟩ ?_
    refine wf1 rfl rfl (fun hc => (O_loadog 1 tg37 rfl (Nat.le_of_ble_eq_true rfl))) ⟨tg rfl, trivial⟩ ?_
    refine wf1 rfl rfl (fun hc => (O_call cf82 (spec_l7Fits _ (by assumption) (by assumption) _ (by assumption) _ hS _ _ hfk) rfl)) ⟨tg rfl, tg rfl, tg rfl, tg rfl, tg rfl, trivial⟩ ?_
    refine wf1 rfl rfl (fun hc => O_not) ⟨tg rfl, trivial⟩ ?_
    refine ws O_or ⟨T1 rfl, tg rfl, trivial⟩ ?_
    refine WL_nil (Fin_then (W_cond rfl (fun h1 => ?_) (fun h1 => ?_)))
    · skip
      try simp only [bl] at h1
      refine W_seq (W_region (WL_ac rfl ?_))
      exact WL_nil (Fin_then (W_ret (Fin_then_ret (Fin_block_ret (Fin_then_ret (Fin_then_ret (Fin_block_ret (Fin_then_ret (RetC rfl (Res1 rfl (RV.tmp rfl (Imp.bool (by unfold hwords; rw [allN_false k (by omega) (by unfold hwordAt; grind)])))))))))))))
    try simp only [bl] at h1
    refine W_skip (Fin_then (W_seq (W_region (WL_mv rfl rfl ?_))))
    refine ws (O_field tf67_1) ⟨T1 rfl, trivial⟩ ?_
    refine ws (O_load ta3) ⟨T1 rfl, trivial⟩ ?_
    refine ws O_lss ⟨T1 rfl, T1 rfl, trivial⟩ ?_
    refine WL_mv rfl rfl ?_
    refine wt1 rfl rfl (fun hc => (O_fieldv tf35_0)) ⟨tg rfl, trivial⟩ ?_
    refine wt1 rfl rfl (fun hc => (O_loado 0 ta3 rfl rfl)) ⟨tg rfl, trivial⟩ ?_
    refine wt1 rfl rfl (fun hc => O_eql) ⟨tg rfl, C1, trivial⟩ ?_
    refine ws O_and ⟨T1 rfl, tg rfl, trivial⟩ ?_
    refine WL_mv rfl rfl ?_
    refine wt1 rfl rfl (fun hc => (O_fieldv tf35_1)) ⟨tg rfl, trivial⟩ ?_
    refine wt1 rfl rfl (fun hc => (O_loado 0 ta3 rfl rfl)) ⟨tg rfl, trivial⟩ ?_
    refine wt1 rfl rfl (fun hc => (O_field tf67_1)) ⟨tg rfl, trivial⟩ ?_
    refine wt1 rfl rfl (fun hc => (O_load ta3)) ⟨tg rfl, trivial⟩ ?_
    refine wt1 rfl rfl (fun hc => O_geq) ⟨tg rfl, tg rfl, trivial⟩ ?_
    refine ws O_and ⟨T1 rfl, tg rfl, trivial⟩ ?_
    refine WL_mv rfl rfl ?_
    refine wt1 rfl rfl (fun hc => (O_field tf67_4)) ⟨tg rfl, trivial⟩ ?_
    refine wt1 rfl rfl (fun hc => (O_load ta62)) ⟨tg rfl, trivial⟩ ?_
    refine wt1 rfl rfl (fun hc => O_move) ⟨tg rfl, trivial⟩ ?_
    refine wt1 rfl rfl (fun hc => (O_add (by (try simp only [bl] at hc); omega))) ⟨tg rfl, C1, trivial⟩ ?_
    refine wt1 rfl rfl (fun hc => O_move) ⟨tg rfl, trivial⟩ ?_
    refine wt1 rfl rfl (fun hc => (O_add (by (try simp only [bl] at hc); omega))) ⟨tg rfl, tg rfl, trivial⟩ ?_
    refine wt1 rfl rfl (fun hc => (O_call cf125 (spec_l6Find _ _) rfl)) ⟨tg rfl, tg rfl, trivial⟩ ?_
    refine wt1 rfl rfl (fun hc => O_lss) ⟨tg rfl, C1, trivial⟩ ?_
    refine ws O_and ⟨T1 rfl, tg rfl, trivial⟩ ?_
    refine WL_nil (Fin_then (W_cond rfl (fun h2 => ?_) (fun h2 => ?_)))
    · skip
      try simp only [bl] at h2
      refine W_seq (W_region (WL_ac rfl ?_))
      exact WL_nil (Fin_then (W_ret (Fin_block_ret (Fin_then_ret (Fin_then_ret (Fin_block_ret (Fin_then_ret (RetC rfl (Res1 rfl (RV.tmp rfl (Imp.bool (by unfold hwords; rw [allN_false k (by omega) (by unfold hwordAt; grind)]))))))))))))
    try simp only [bl] at h2
    refine W_skip (Fin_block (Fin_then (W_region (WL_mv rfl rfl ?_))))
    refine ws (O_add (by omega)) ⟨T1 rfl, C1, trivial⟩ ?_
    refine WL_as rfl rfl ?_
    exact WL_nil (Fin_backp [2] (k + 1) ⟨by omega, allN_succ hj (by unfold hwordAt; grind)⟩ (by omega) ⟨⟨rfl, _, rfl, (by first | exact Imp.refl | exact Imp.slv | exact Imp.nil | exact Imp.int (by omega) | exact Imp.int (by simp; done) | exact Imp.bool (by simp_all; done))⟩, trivial⟩ ⟨rfl, rfl, rfl, rfl, rfl, trivial⟩ (.cons AllImp.refl OSub.nil) rfl (List.Sublist.refl _) rfl)
  try simp only [bl] at h0
  refine W_exit (Fin_then_exit (Fin_then_exit (Fin_block_exit (Fin_then (W_seq (W_region (WL_ac rfl ?_)))))))
  exact WL_nil (Fin_then (W_ret (RetC rfl (Res1 rfl (RV.tmp rfl (Imp.bool (by unfold hwords; rw [allN_true (fun j q => hj j (by omega))])))))))
set_option maxRecDepth 8000 in
theorem spec_l7Refs (G : Kin) (hG : Small G) (hk : kinOk G = true) (h : Hp) (hW : WOk h.words) (hl : h.words.length ≤ 1048576) (S : List Int) (hS : ∀ s ∈ S, AtOk G.flatten h.words s) (hsl : S.length ≤ 160) : FnC Try.prog 124 [A.sl 4 cTy G.flatten, A.agg (cHeap h), A.sl 1 cInt S] (A.sl 1 cInt (hrefs G.flatten h S)) := by
  have hK := KG.of hG hk
  refine Fn_of_W Try.func124 rfl rfl fun r w => ?_
  refine W_seq (W_region (ws O_boxg ⟨T1 rfl, trivial⟩ ?_))
  refine WL_ac rfl ?_
  refine WL_nil (Fin_then (W_seq (W_region (WL_slice0r cInt te62 rfl fun v12 => ?_))))
  refine WL_as rfl rfl ?_
  refine WL_nil (Fin_then (W_seq (W_seq (W_region (WL_ac rfl ?_)))))
  refine WL_nil (Fin_then (W_block (W_loopp [0, 2, 4] [] [0] [] (T := Nat × Value) (fun x => x.1 ≤ S.length) (fun x => [(7, true, A.slv x.2 1 cInt (hrefs G.flatten h (S.take x.1))), (8, true, A.int (x.1 : Int))]) (fun x => { own := [], rooms := [(x.2, 3, 1)], maps := [] }) (fun x => S.length - x.1) (0, v12) (by omega) ⟨⟨rfl, _, rfl, (by first | exact Imp.refl | exact Imp.slv | exact Imp.nil | exact Imp.int (by omega) | exact Imp.int (by simp; done) | exact Imp.bool (by simp_all; done))⟩, ⟨rfl, _, rfl, (by first | exact Imp.refl | exact Imp.slv | exact Imp.nil | exact Imp.int (by omega) | exact Imp.int (by simp; done) | exact Imp.bool (by simp_all; done))⟩, trivial⟩ OSub.nil rfl rfl rfl (fun x hx => ?_))))
  have hr1 : (hrefs G.flatten h (S.take x.1)).length ≤ 960 := by have := hrefs_len (at_take hS x.1); rw [List.length_take] at this; omega
  refine W_seq (W_seq (W_region (WL_mv rfl rfl ?_)))
  refine WL_mv rfl rfl ?_
  refine WL_len ts62 rfl rfl fun hl15 => ?_
  refine ws O_lss ⟨T1 rfl, T1 rfl, trivial⟩ ?_
  refine WL_nil (Fin_then (W_cond rfl (fun h0 => ?_) (fun h0 => ?_)))
  · skip
    try simp only [bl] at h0
    have ha : AtOk G.flatten h.words (idx S (x.1 : Int)) := hS _ (idx_mem (by omega) (by omega))
    have u1 := ha.use.1
    have u2 := ha.use.2.1
    have u3 := ha.use.2.2.1
    have u4 := ha.use.2.2.2.1
    have u5 := ha.use.2.2.2.2.1
    have u6 := ha.use.2.2.2.2.2.1
    have u7 := ha.use.2.2.2.2.2.2.1
    have hwr := hW.at (idx S (x.1 : Int))
    have hfi2 := fld_in hK ha
    refine W_skip (Fin_then (W_seq (W_block (W_seq (W_region (WL_mv rfl rfl ?_))))))
    refine WL_mv rfl rfl ?_
    refine ws (O_index ts62 (by omega)) ⟨T1 rfl, T1 rfl, trivial⟩ ?_
    refine ws (O_load ta3) ⟨T1 rfl, trivial⟩ ?_
    refine WL_as rfl rfl ?_
    refine WL_nil (Fin_then (W_seq (W_region (WL_mv rfl rfl ?_))))
    refine ws (O_field tf67_0) ⟨T1 rfl, trivial⟩ ?_
    refine ws (O_load ta62) ⟨T1 rfl, trivial⟩ ?_
    refine WL_mv rfl rfl ?_
    refine ws (O_index ts62 (by omega)) ⟨T1 rfl, T1 rfl, trivial⟩ ?_
    refine ws (O_load ta3) ⟨T1 rfl, trivial⟩ ?_
    refine ws (O_quo (by omega) (by omega) (by omega)) ⟨T1 rfl, C1, trivial⟩ ?_
    refine ws (O_index ts82 (by omega)) ⟨T1 rfl, T1 rfl, trivial⟩ ?_
    refine ws (O_loadgw tg145 rfl) ⟨T1 rfl, trivial⟩ ?_
    refine WL_alloc tz145 rfl fun b10 => ?_
    refine WL_store 0 rfl ⟨T1 rfl, T1 rfl, trivial⟩ (CellsOf.agg (by exact ⟨OneV.int, OneV.int, OneV.bool, OneV.sl, trivial⟩)) sz145 (Nat.le_of_ble_eq_true rfl) ?_
    refine WL_nil (Fin_then (W_seq (W_region (WL_ac rfl ?_))))
    refine WL_nil (Fin_then (W_block (W_loopp [0, 2, 4, 8, 9, 10] [] [0] [] (T := Nat × Value) (fun y => (y.1 : Int) ≤ idx h.words (idx S (x.1 : Int)) % 16) (fun y => [(7, true, A.slv y.2 1 cInt (hrefs G.flatten h (S.take x.1) ++ hrefsAt G.flatten h (idx S (x.1 : Int)) y.1)), (11, true, A.int (y.1 : Int))]) (fun y => { own := [], rooms := [(y.2, 3, 1)], maps := [] }) (fun y => 6 - y.1) (0, x.2) (by omega) ⟨⟨rfl, _, rfl, (Imp.eq (by rw [hrefsAt_zero, List.append_nil]))⟩, ⟨rfl, _, rfl, (by first | exact Imp.refl | exact Imp.slv | exact Imp.nil | exact Imp.int (by omega) | exact Imp.int (by simp; done) | exact Imp.bool (by simp_all; done))⟩, trivial⟩ OSub.nil rfl rfl rfl (fun y hx => ?_))))
    have hr2 := hrefsAt_len G.flatten h (idx S (x.1 : Int)) y.1
    refine W_seq (W_seq (W_region (WL_mv rfl rfl ?_)))
    refine ws (O_field tf67_1) ⟨T1 rfl, trivial⟩ ?_
    refine ws (O_load ta3) ⟨T1 rfl, trivial⟩ ?_
    refine ws O_lss ⟨T1 rfl, T1 rfl, trivial⟩ ?_
    refine WL_mv rfl rfl ?_
    refine wt1 rfl rfl (fun hc => O_move) ⟨tg rfl, trivial⟩ ?_
    refine wt1 rfl rfl (fun hc => (O_field tf67_0)) ⟨tg rfl, trivial⟩ ?_
    refine wt1 rfl rfl (fun hc => (O_load ta62)) ⟨tg rfl, trivial⟩ ?_
    refine wt1 rfl rfl (fun hc => O_move) ⟨tg rfl, trivial⟩ ?_
    refine wt1 rfl rfl (fun hc => (O_index ts62 (by (try simp only [bl] at hc); omega))) ⟨tg rfl, tg rfl, trivial⟩ ?_
    refine wt1 rfl rfl (fun hc => (O_load ta3)) ⟨tg rfl, trivial⟩ ?_
    refine wt1 rfl rfl (fun hc => (O_rem (by (try simp only [bl] at hc); omega) (by (try simp only [bl] at hc); omega))) ⟨tg rfl, C1, trivial⟩ ?_
    refine wt1 rfl rfl (fun hc => O_lss) ⟨tg rfl, tg rfl, trivial⟩ ?_
    refine ws O_and ⟨T1 rfl, tg rfl, trivial⟩ ?_
    refine WL_nil (Fin_then (W_cond rfl (fun h1 => ?_) (fun h1 => ?_)))
    · skip
      try simp only [bl] at h1
      refine W_skip (Fin_then (W_seq (W_block (W_seq (W_region (ws (O_loadog 0 tg145 rfl (Nat.le_of_ble_eq_true rfl)) ⟨T1 rfl, trivial⟩ ?_))))))
      refine WL_mv rfl rfl ?_
      refine ws (O_call cf126 (spec_l7Field _ _ (hfi2 y.1 h1.2) (by omega)) rfl) ⟨T1 rfl, T1 rfl, trivial⟩ ?_
      refine ws (O_fieldat tft37_0 ta3 rfl) ⟨T1 rfl, trivial⟩ ?_
      refine ws O_neq ⟨T1 rfl, C1, trivial⟩ ?_
      refine WL_nil (Fin_then (W_cond rfl (fun h2 => ?_) (fun h2 => ?_)))
      · skip
        try simp only [bl] at h2
        refine W_region (WL_mv rfl rfl ?_)
        refine WL_mv rfl rfl ?_
        refine ws (O_add (by omega)) ⟨T1 rfl, C1, trivial⟩ ?_
        refine WL_mv rfl rfl ?_
        refine ws (O_add (by omega)) ⟨T1 rfl, T1 rfl, trivial⟩ ?_
        refine ws (O_slice1 (f := cInt) _ te62 rfl rfl (CellsOf.one OneV.int) AllImp.refl) ⟨T1 rfl, trivial⟩ ?_
        refine WL_append 0 _ te62 ⟨T1 rfl, T1 rfl, trivial⟩ rfl (by decide) (fun _ => rfl) (fun _ => rfl) (fun _ => ⟨OneV.int, trivial⟩) rfl (by simp only [List.length_append, List.length_cons, List.length_nil]; omega) (by simp only [maxLen, List.length_append, List.length_cons, List.length_nil]; omega) rfl fun v59 => ?_
        refine WL_as rfl rfl ?_
        refine WL_nil (Fin_block (Fin_then (W_region (WL_mv rfl rfl ?_))))
        refine ws (O_add (by omega)) ⟨T1 rfl, C1, trivial⟩ ?_
        refine WL_as rfl rfl ?_
        exact WL_nil (Fin_backp [0] (y.1 + 1, v59) (by omega) (by omega) ⟨⟨rfl, _, rfl, (Imp.eq (by rw [hrefsAt_step _ _ _ _ h1.1, if_pos h2, List.append_assoc]))⟩, ⟨rfl, _, rfl, (by first | exact Imp.refl | exact Imp.slv | exact Imp.nil | exact Imp.int (by omega) | exact Imp.int (by simp; done) | exact Imp.bool (by simp_all; done))⟩, trivial⟩ ⟨rfl, rfl, rfl, rfl, rfl, rfl, trivial⟩ (.cons AllImp.refl OSub.nil) rfl (List.Sublist.refl _) rfl)
      try simp only [bl] at h2
      refine W_skip (Fin_block (Fin_then (W_region (WL_mv rfl rfl ?_))))
      refine ws (O_add (by omega)) ⟨T1 rfl, C1, trivial⟩ ?_
      refine WL_as rfl rfl ?_
      exact WL_nil (Fin_backp [0] (y.1 + 1, y.2) (by omega) (by omega) ⟨⟨rfl, _, rfl, (Imp.eq (by rw [hrefsAt_step _ _ _ _ h1.1, if_neg (by simpa using h2), List.append_nil]))⟩, ⟨rfl, _, rfl, (by first | exact Imp.refl | exact Imp.slv | exact Imp.nil | exact Imp.int (by omega) | exact Imp.int (by simp; done) | exact Imp.bool (by simp_all; done))⟩, trivial⟩ ⟨rfl, rfl, rfl, rfl, rfl, rfl, trivial⟩ (.cons AllImp.refl OSub.nil) rfl (List.Sublist.refl _) rfl)
    try simp only [bl] at h1
    refine W_exit (Fin_then_exit (Fin_then_exit (Fin_block_exit (Fin_block (Fin_then (W_region (WL_mv rfl rfl ?_)))))))
    refine ws (O_add (by omega)) ⟨T1 rfl, C1, trivial⟩ ?_
    refine WL_as rfl rfl ?_
    exact WL_nil (Fin_backp [] (x.1 + 1, y.2) (by omega) (by omega) ⟨⟨rfl, _, rfl, (Imp.eq (by rw [hrefs_snoc _ _ _ _ (by omega)]; congr 1; by_cases q : (idx S (x.1 : Int)) < h.old; (rw [show y.1 = (idx h.words (idx S (x.1 : Int)) % 16).toNat from by omega]); (rw [hrefsAt_young _ _ _ _ q, hrefsAt_young _ _ _ _ q])))⟩, ⟨rfl, _, rfl, (by first | exact Imp.refl | exact Imp.slv | exact Imp.nil | exact Imp.int (by omega) | exact Imp.int (by simp; done) | exact Imp.bool (by simp_all; done))⟩, trivial⟩ ⟨rfl, rfl, rfl, trivial⟩ OSub.nil rfl (List.Sublist.refl _) rfl)
  try simp only [bl] at h0
  refine W_exit (Fin_then_exit (Fin_then_exit (Fin_block_exit (Fin_then (W_seq (W_region (WL_mv rfl rfl ?_)))))))
  refine WL_as rfl rfl ?_
  exact WL_nil (Fin_then (W_ret (RetC rfl (Res1 rfl (RV.tmp rfl (Imp.trans Imp.slv (Imp.eq (by rw [List.take_of_length_le (by omega)]))))))))
set_option maxRecDepth 8000 in
theorem spec_l7Log (G : Kin) (hG : Small G) (hk : kinOk G = true) (h : Hp) (hW : WOk h.words) (hl : h.words.length ≤ 1048576) (S : List Int) (hS : ∀ s ∈ S, AtOk G.flatten h.words s) (hsl : S.length ≤ 160) : FnC Try.prog 77 [A.sl 4 cTy G.flatten, A.agg (cHeap h), A.sl 1 cInt S] (A.bool (hlog G.flatten h S)) := by
  refine Fn_of_W Try.func77 rfl rfl fun r w => ?_
  refine W_seq (W_region (ws O_boxg ⟨T1 rfl, trivial⟩ ?_))
  refine WL_ac rfl ?_
  refine WL_nil (Fin_then (W_seq (W_region (WL_mv rfl rfl ?_))))
  refine ws (O_loadgw tg67 rfl) ⟨T1 rfl, trivial⟩ ?_
  refine WL_mv rfl rfl ?_
  refine ws (O_call cf124 (spec_l7Refs _ hG hk _ hW hl _ hS hsl) rfl) ⟨T1 rfl, T1 rfl, T1 rfl, trivial⟩ ?_
  refine WL_as rfl rfl ?_
  refine WL_nil (Fin_then (W_seq (W_seq (W_region (WL_ac rfl ?_)))))
  refine WL_nil (Fin_then (W_block (W_loopk [4, 7] (T := Nat) (fun k => k ≤ h.log.length ∧ ∀ j, j < k → (fun i : Nat => decide (0 ≤ find (hrefs G.flatten h S) (idx h.log (i : Int))) && decide (find (h.log.take i) (idx h.log (i : Int)) < 0)) j = true) (fun k => [(8, true, A.int (k : Int))]) (fun k => h.log.length - k) 0 ⟨Nat.zero_le _, allN_zero⟩ ⟨⟨rfl, _, rfl, (by first | exact Imp.refl | exact Imp.slv | exact Imp.nil | exact Imp.int (by omega) | exact Imp.int (by simp; done) | exact Imp.bool (by simp_all; done))⟩, trivial⟩ (fun k hx => ?_))))
  have hk := hx.1
  have hj := hx.2
  refine W_seq (W_seq (W_region (WL_mv rfl rfl ?_)))
  refine ws (O_field tf67_4) ⟨T1 rfl, trivial⟩ ?_
  refine ws (O_load ta62) ⟨T1 rfl, trivial⟩ ?_
  refine WL_len ts62 rfl rfl fun hl16 => ?_
  refine ws O_lss ⟨T1 rfl, T1 rfl, trivial⟩ ?_
  refine WL_nil (Fin_then (W_cond rfl (fun h0 => ?_) (fun h0 => ?_)))
  · skip
    try simp only [bl] at h0
    refine W_skip (Fin_then (W_seq (W_block (W_seq (W_draw 21 mix rfl rfl ?_)))))
    refine cs O_move ⟨T1 rfl, trivial⟩ ?_
    refine cs (O_field tf67_4) ⟨T1 rfl, trivial⟩ ?_
    refine cs (O_load ta62) ⟨T1 rfl, trivial⟩ ?_
    refine cs O_move ⟨T1 rfl, trivial⟩ ?_
    refine cs (O_index ts62 (by omega)) ⟨T1 rfl, T1 rfl, trivial⟩ ?_
    refine cs (O_load ta3) ⟨T1 rfl, trivial⟩ ?_
    refine cs (O_call cf125 (spec_l6Find _ _) rfl) ⟨T1 rfl, T1 rfl, trivial⟩ ?_
    refine cs O_lss ⟨T1 rfl, C1, trivial⟩ ?_
    refine cs O_move ⟨T1 rfl, trivial⟩ ?_
    refine cf1 rfl rfl (fun hc => (O_field tf67_4)) ⟨tg rfl, trivial⟩ ?_
    refine cf1 rfl rfl (fun hc => (O_load ta62)) ⟨tg rfl, trivial⟩ ?_
    refine cf1 rfl rfl (fun hc => O_move) ⟨tg rfl, trivial⟩ ?_
    refine cf1 rfl rfl (fun hc => (O_slice_h ts62 (by (try simp only [bl] at hc); omega))) ⟨tg rfl, tg rfl, trivial⟩ ?_
    refine cf1 rfl rfl (fun hc => (O_field tf67_4)) ⟨tg rfl, trivial⟩ ?_
    refine cf1 rfl rfl (fun hc => (O_load ta62)) ⟨tg rfl, trivial⟩ ?_
    refine cf1 rfl rfl (fun hc => O_move) ⟨tg rfl, trivial⟩ ?_
    refine cf1 rfl rfl (fun hc => (O_index ts62 (by (try simp only [bl] at hc); omega))) ⟨tg rfl, tg rfl, trivial⟩ ?_
    refine cf1 rfl rfl (fun hc => (O_load ta3)) ⟨tg rfl, trivial⟩ ?_
    refine cf1 rfl rfl (fun hc => (O_call cf125 (spec_l6Find _ _) rfl)) ⟨tg rfl, tg rfl, trivial⟩ ?_
    refine cf1 rfl rfl (fun hc => O_geq) ⟨tg rfl, C1, trivial⟩ ?_
    refine cs O_or ⟨T1 rfl, tg rfl, trivial⟩ ?_
    refine Chain_nil ?_
    refine WL_nil (Fin_then (W_cond rfl (fun h1 => ?_) (fun h1 => ?_)))
    · skip
      try simp only [bl, Int.toNat_natCast] at h1
      refine W_seq (W_region (WL_ac rfl ?_))
      exact WL_nil (Fin_then (W_ret (Fin_block_ret (Fin_then_ret (Fin_then_ret (Fin_block_ret (Fin_then_ret (RetC rfl (Res1 rfl (RV.tmp rfl (Imp.bool (by unfold hlog; rw [allN_false k (by omega) (by simp; omega)]))))))))))))
    try simp only [bl, Int.toNat_natCast] at h1
    refine W_skip (Fin_block (Fin_then (W_region (WL_mv rfl rfl ?_))))
    refine ws (O_add (by omega)) ⟨T1 rfl, C1, trivial⟩ ?_
    refine WL_as rfl rfl ?_
    exact WL_nil (Fin_back (k + 1) ⟨by omega, allN_succ hj (by simp; omega)⟩ (by omega) ⟨⟨rfl, _, rfl, (by first | exact Imp.refl | exact Imp.slv | exact Imp.nil | exact Imp.int (by omega) | exact Imp.int (by simp; done) | exact Imp.bool (by simp_all; done))⟩, trivial⟩ ⟨rfl, rfl, trivial⟩ rfl rfl)
  try simp only [bl] at h0
  refine W_exit (Fin_then_exit (Fin_then_exit (Fin_block_exit (Fin_then (W_seq (W_region (WL_ac rfl ?_)))))))
  exact WL_nil (Fin_then (W_ret (RetC rfl (Res1 rfl (RV.tmp rfl (Imp.bool (by unfold hlog; rw [allN_true (fun j q => hj j (by omega))])))))))
set_option maxRecDepth 8000 in
theorem spec_HeapOk (G : Kin) (hG : Small G) (h : Hp) (hh : HpOk h) (hl : h.words.length ≤ 1048576) : FnC Try.prog 33 [A.sl 1 cGrp G, A.agg (cHeap h)] (A.bool (heapOk G h)) := by
  have hW := hh.2
  refine Fn_of_W Try.func33 rfl rfl fun r w => ?_
  refine W_seq (W_region (ws O_boxg ⟨T1 rfl, trivial⟩ ?_))
  refine WL_ac rfl ?_
  refine WL_nil (Fin_then (W_seq (W_seq (W_region (WL_mv rfl rfl ?_)))))
  refine ws (O_call cf41 (spec_KinOk _ (by assumption)) rfl) ⟨T1 rfl, trivial⟩ ?_
  refine ws O_not ⟨T1 rfl, trivial⟩ ?_
  refine WL_mv rfl rfl ?_
  refine wf1 rfl rfl (fun hc => (O_loadgw tg67 rfl)) ⟨tg rfl, trivial⟩ ?_
  refine wf1 rfl rfl (fun hc => (O_call cf73 (spec_l7Size _ hh.1 hl) rfl)) ⟨tg rfl, trivial⟩ ?_
  refine wf1 rfl rfl (fun hc => O_not) ⟨tg rfl, trivial⟩ ?_
  refine ws O_or ⟨T1 rfl, tg rfl, trivial⟩ ?_
  refine WL_mv rfl rfl ?_
  refine wf1 rfl rfl (fun hc => (O_loadgw tg67 rfl)) ⟨tg rfl, trivial⟩ ?_
  refine wf1 rfl rfl (fun hc => (O_call cf74 (spec_l7Zero _ (by grind) hl) rfl)) ⟨tg rfl, trivial⟩ ?_
  refine wf1 rfl rfl (fun hc => O_not) ⟨tg rfl, trivial⟩ ?_
  refine ws O_or ⟨T1 rfl, tg rfl, trivial⟩ ?_
  refine WL_nil (Fin_then (W_cond rfl (fun h0 => ?_) (fun h0 => ?_)))
  · skip
    try simp only [bl] at h0
    refine W_seq (W_region (WL_ac rfl ?_))
    exact WL_nil (Fin_then (W_ret (Fin_then_ret (RetC rfl (Res1 rfl (RV.tmp rfl (Imp.bool (by unfold heapOk; grind))))))))
  try simp only [bl] at h0
  have hki : kinOk G = true := by grind
  have hs : hsize h = true := by grind
  have hS := hthings_at (T := G.flatten) hs
  have hsl := hthings_len (T := G.flatten) hs
  refine W_skip (Fin_then (W_seq (W_region (WL_mv rfl rfl ?_))))
  refine ws (O_call cf75 (spec_l1Flat _ (by assumption)) rfl) ⟨T1 rfl, trivial⟩ ?_
  refine WL_as rfl rfl ?_
  refine WL_nil (Fin_then (W_seq (W_region (WL_mv rfl rfl ?_))))
  refine ws (O_loadgw tg67 rfl) ⟨T1 rfl, trivial⟩ ?_
  refine ws (O_call cf76 (spec_l7Things _ _ hs hW hl) rfl) ⟨T1 rfl, T1 rfl, trivial⟩ ?_
  refine WL_mv rfl rfl ?_
  refine ws (O_extract rfl) ⟨T1 rfl, trivial⟩ ?_
  refine ws (O_extract rfl) ⟨T1 rfl, trivial⟩ ?_
  refine WL_as rfl rfl ?_
  refine WL_as rfl rfl ?_
  refine WL_nil (Fin_then (W_seq (W_seq (W_region (WL_mv rfl rfl ?_)))))
  refine ws O_not ⟨T1 rfl, trivial⟩ ?_
  refine WL_mv rfl rfl ?_
  refine wf1 rfl rfl (fun hc => O_move) ⟨tg rfl, trivial⟩ ?_
  refine wf1 rfl rfl (fun hc => (O_loadgw tg67 rfl)) ⟨tg rfl, trivial⟩ ?_
  refine wf1 rfl rfl (fun hc => O_move) ⟨tg rfl, trivial⟩ ?_
  refine wf1 rfl rfl (fun hc => (O_call cf77 (spec_l7Log _ hG hki _ hW hl _ hS hsl) rfl)) ⟨tg rfl, tg rfl, tg rfl, trivial⟩ ?_
  refine wf1 rfl rfl (fun hc => O_not) ⟨tg rfl, trivial⟩ ?_
  refine ws O_or ⟨T1 rfl, tg rfl, trivial⟩ ?_
  refine WL_nil (Fin_then (W_cond rfl (fun h1 => ?_) (fun h1 => ?_)))
  · skip
    try simp only [bl] at h1
    refine W_seq (W_region (WL_ac rfl ?_))
    exact WL_nil (Fin_then (W_ret (Fin_then_ret (RetC rfl (Res1 rfl (RV.tmp rfl (Imp.bool (by unfold heapOk; grind))))))))
  try simp only [bl] at h1
  refine W_skip (Fin_then (W_seq (W_seq (W_region (WL_ac rfl ?_)))))
  refine WL_nil (Fin_then (W_block (W_loopk [0, 3, 5, 6] (T := Nat) (fun k => k ≤ (hthings G.flatten h).1.length ∧ ∀ j, j < k → (fun i => hwords G G.flatten h (hthings G.flatten h).1 (idx (hthings G.flatten h).1 (i : Int))) j = true) (fun k => [(8, true, A.int (k : Int))]) (fun k => (hthings G.flatten h).1.length - k) 0 ⟨Nat.zero_le _, allN_zero⟩ ⟨⟨rfl, _, rfl, (by first | exact Imp.refl | exact Imp.slv | exact Imp.nil | exact Imp.int (by omega) | exact Imp.int (by simp; done) | exact Imp.bool (by simp_all; done))⟩, trivial⟩ (fun k hx => ?_))))
  have hk := hx.1
  have hj := hx.2
  refine W_seq (W_seq (W_region (WL_mv rfl rfl ?_)))
  refine WL_mv rfl rfl ?_
  refine WL_len ts62 rfl rfl fun hl41 => ?_
  refine ws O_lss ⟨T1 rfl, T1 rfl, trivial⟩ ?_
  refine WL_nil (Fin_then (W_cond rfl (fun h2 => ?_) (fun h2 => ?_)))
  · skip
    try simp only [bl] at h2
    refine W_skip (Fin_then (W_seq (W_block (W_seq (W_draw 10 mix rfl rfl ?_)))))
    refine cs O_move ⟨T1 rfl, trivial⟩ ?_
    refine cs O_move ⟨T1 rfl, trivial⟩ ?_
    refine cs (O_loadgw tg67 rfl) ⟨T1 rfl, trivial⟩ ?_
    refine cs O_move ⟨T1 rfl, trivial⟩ ?_
    refine cs O_move ⟨T1 rfl, trivial⟩ ?_
    refine cs O_move ⟨T1 rfl, trivial⟩ ?_
    refine cs (O_index ts62 (by omega)) ⟨T1 rfl, T1 rfl, trivial⟩ ?_
    refine cs (O_load ta3) ⟨T1 rfl, trivial⟩ ?_
    refine cs (O_call cf78 (spec_l7Words _ hG hki _ hW hl _ hS _ (hS _ (idx_mem (by omega) (by omega)))) rfl) ⟨T1 rfl, T1 rfl, T1 rfl, T1 rfl, T1 rfl, trivial⟩ ?_
    refine cs O_not ⟨T1 rfl, trivial⟩ ?_
    refine Chain_nil ?_
    refine WL_nil (Fin_then (W_cond rfl (fun h3 => ?_) (fun h3 => ?_)))
    · skip
      try simp only [bl] at h3
      refine W_seq (W_region (WL_ac rfl ?_))
      exact WL_nil (Fin_then (W_ret (Fin_block_ret (Fin_then_ret (Fin_then_ret (Fin_block_ret (Fin_then_ret (RetC rfl (Res1 rfl (RV.tmp rfl (Imp.bool (by unfold heapOk; rw [← all_idx, allN_false k (by omega) (by grind)]; simp))))))))))))
    try simp only [bl] at h3
    refine W_skip (Fin_block (Fin_then (W_region (WL_mv rfl rfl ?_))))
    refine ws (O_add (by omega)) ⟨T1 rfl, C1, trivial⟩ ?_
    refine WL_as rfl rfl ?_
    exact WL_nil (Fin_back (k + 1) ⟨by omega, allN_succ hj (by grind)⟩ (by omega) ⟨⟨rfl, _, rfl, (by first | exact Imp.refl | exact Imp.slv | exact Imp.nil | exact Imp.int (by omega) | exact Imp.int (by simp; done) | exact Imp.bool (by simp_all; done))⟩, trivial⟩ ⟨rfl, rfl, rfl, rfl, trivial⟩ rfl rfl)
  try simp only [bl] at h2
  refine W_exit (Fin_then_exit (Fin_then_exit (Fin_block_exit (Fin_then (W_seq (W_region (WL_ac rfl ?_)))))))
  exact WL_nil (Fin_then (W_ret (RetC rfl (Res1 rfl (RV.tmp rfl (Imp.bool (by unfold heapOk; rw [← all_idx, allN_true (fun j q => hj j (by omega))]; grind)))))))
set_option maxRecDepth 8000 in
theorem spec_HeapFits (G : Kin) (hG : Small G) (h : Hp) (hh : HpOk h) (hl : h.words.length ≤ 1048576) (v : Vl) (f : Fld) : FnC Try.prog 37 [A.sl 1 cGrp G, A.agg (cHeap h), A.agg (cVal v), A.agg (cFld f)] (A.bool (heapOk G h && (fieldOk f (kcnt G) && hfits G h (hthings G.flatten h).1 v f))) := by
  have hW := hh.2
  refine Fn_of_W Try.func37 rfl rfl fun r w => ?_
  refine W_seq (W_region (ws O_boxg ⟨T1 rfl, trivial⟩ ?_))
  refine ws O_boxg ⟨T1 rfl, trivial⟩ ?_
  refine ws O_boxg ⟨T1 rfl, trivial⟩ ?_
  refine WL_ac rfl ?_
  refine WL_nil (Fin_then (W_seq (W_seq (W_draw 11 mix rfl rfl ?_))))
  refine cs O_move ⟨T1 rfl, trivial⟩ ?_
  refine cs (O_loadgw tg67 rfl) ⟨T1 rfl, trivial⟩ ?_
  refine cs (O_call cf33 (spec_HeapOk _ (by assumption) _ (by assumption) (by assumption)) rfl) ⟨T1 rfl, T1 rfl, trivial⟩ ?_
  refine cs O_not ⟨T1 rfl, trivial⟩ ?_
  refine cs O_move ⟨T1 rfl, trivial⟩ ?_
  refine cf1 rfl rfl (fun hc => (O_loadgw tg37 rfl)) ⟨tg rfl, trivial⟩ ?_
  refine cf1 rfl rfl (fun hc => O_move) ⟨tg rfl, trivial⟩ ?_
  refine cf1 rfl rfl (fun hc => (O_call cf43 (spec_KinCount _ (by assumption)) rfl)) ⟨tg rfl, trivial⟩ ?_
  refine cf1 rfl rfl (fun hc => (O_call cf42 (spec_FieldOk _ _) rfl)) ⟨tg rfl, tg rfl, trivial⟩ ?_
  refine cf1 rfl rfl (fun hc => O_not) ⟨tg rfl, trivial⟩ ?_
  refine cs O_or ⟨T1 rfl, tg rfl, trivial⟩ ?_
  refine Chain_nil ?_
  refine WL_nil (Fin_then (W_cond rfl (fun h0 => ?_) (fun h0 => ?_)))
  · skip
    try simp only [bl] at h0
    refine W_seq (W_region (WL_ac rfl ?_))
    exact WL_nil (Fin_then (W_ret (Fin_then_ret (RetC rfl (Res1 rfl (RV.tmp rfl (Imp.bool (by grind))))))))
  try simp only [bl] at h0
  have hki : kinOk G = true := by have := h0.1; unfold heapOk at this; grind
  have hs : hsize h = true := by have := h0.1; unfold heapOk at this; grind
  have hf : fieldOk f (kcnt G) = true := by grind
  have hS := hthings_at (T := G.flatten) hs
  refine W_skip (Fin_then (W_seq (W_region (WL_mv rfl rfl ?_))))
  refine ws (O_call cf75 (spec_l1Flat _ (by assumption)) rfl) ⟨T1 rfl, trivial⟩ ?_
  refine WL_as rfl rfl ?_
  refine WL_nil (Fin_then (W_seq (W_region (WL_mv rfl rfl ?_))))
  refine ws (O_loadgw tg67 rfl) ⟨T1 rfl, trivial⟩ ?_
  refine ws (O_call cf76 (spec_l7Things _ _ hs hW hl) rfl) ⟨T1 rfl, T1 rfl, trivial⟩ ?_
  refine WL_mv rfl rfl ?_
  refine ws (O_extract rfl) ⟨T1 rfl, trivial⟩ ?_
  refine ws (O_extract rfl) ⟨T1 rfl, trivial⟩ ?_
  refine WL_as rfl rfl ?_
  refine WL_as rfl rfl ?_
  refine WL_nil (Fin_then (W_seq (W_region (WL_mv rfl rfl ?_))))
  refine ws (O_loadgw tg67 rfl) ⟨T1 rfl, trivial⟩ ?_
  refine WL_mv rfl rfl ?_
  refine ws (O_loadgw tg35 rfl) ⟨T1 rfl, trivial⟩ ?_
  refine ws (O_loadgw tg37 rfl) ⟨T1 rfl, trivial⟩ ?_
  refine ws (O_call cf82 (spec_l7Fits _ hG hki _ hW _ hS _ _ hf) rfl) ⟨T1 rfl, T1 rfl, T1 rfl, T1 rfl, T1 rfl, trivial⟩ ?_
  refine WL_as rfl rfl ?_
  exact WL_nil (Fin_then (W_ret (RetC rfl (Res1 rfl (RV.tmp rfl (Imp.bool (by grind)))))))
end Go.Proofs.Ytfjggobjijeniaa
