import Derived.Test.YtfjggobjijeniaaRows
import Derived.Test.YtfjggobjijeniaaWalk3
import Derived.Test.YtfjggobjijeniaaWalk2
import Derived.Test.YtfjggobjijeniaaPure6
import Derived.Test.YtfjggobjijeniaaPure7
import Derived.Test.YtfjggobjijeniaaPure8
import Derived.Test.YtfjggobjijeniaaPure9
import Derived.Test.YtfjggobjijeniaaPure10
import Derived.Test.YtfjggobjijeniaaPure11
import Derived.Test.YtfjggobjijeniaaPure12
import Derived.Test.YtfjggobjijeniaaPure13
import Derived.Test.YtfjggobjijeniaaA1
import Derived.Test.YtfjggobjijeniaaA2
import Derived.Test.YtfjggobjijeniaaA4
import Derived.Test.YtfjggobjijeniaaA5
import Derived.Test.YtfjggobjijeniaaA7
import Derived.Test.YtfjggobjijeniaaA8
import Derived.Test.YtfjggobjijeniaaA13
import Derived.Test.YtfjggobjijeniaaA17
import Derived.Test.YtfjggobjijeniaaA20
import Derived.Test.YtfjggobjijeniaaA21
import Derived.Test.YtfjggobjijeniaaA22
namespace Go.Proofs.Ytfjggobjijeniaa.A23
open Go Go.RowKit Go.L
theorem mix : Try.prog.follows .mixedOrders = true := by kernel_rfl
theorem cf132 : CallF Try.prog 132 := fun w vs => by kernel_rfl
theorem cf134 : CallF Try.prog 134 := fun w vs => by kernel_rfl
theorem cf166 : CallF Try.prog 166 := fun w vs => by kernel_rfl
theorem cf167 : CallF Try.prog 167 := fun w vs => by kernel_rfl
theorem sz37 : sizeAt Try.prog 37 = some 3 := by kernel_rfl
theorem sz4 : sizeAt Try.prog 4 = some 1 := by kernel_rfl
theorem sz86 : sizeAt Try.prog 86 = some 2 := by kernel_rfl
theorem ta132 : TA Try.prog 132 := by unfold TA; kernel_rfl
theorem ta137 : TA Try.prog 137 := by unfold TA; kernel_rfl
theorem ta3 : TA Try.prog 3 := by unfold TA; kernel_rfl
theorem ta4 : TA Try.prog 4 := by unfold TA; kernel_rfl
theorem ta62 : TA Try.prog 62 := by unfold TA; kernel_rfl
theorem ta84 : TA Try.prog 84 := by unfold TA; kernel_rfl
theorem tar234 : TAr Try.prog 234 120 4 1 := ⟨by kernel_rfl, by kernel_rfl⟩
theorem tf139_1 : TF Try.prog 139 1 1 := by unfold TF; kernel_rfl
theorem tf139_2 : TF Try.prog 139 2 6 := by unfold TF; kernel_rfl
theorem tf139_3 : TF Try.prog 139 3 7 := by unfold TF; kernel_rfl
theorem tf37_0 : TF Try.prog 37 0 0 := by unfold TF; kernel_rfl
theorem tf67_1 : TF Try.prog 67 1 1 := by unfold TF; kernel_rfl
theorem tf67_4 : TF Try.prog 67 4 4 := by unfold TF; kernel_rfl
theorem tf86_1 : TF Try.prog 86 1 1 := by unfold TF; kernel_rfl
theorem tg234 : TG Try.prog 234 120 := ⟨by kernel_rfl, by kernel_rfl⟩
theorem tg35 : TG Try.prog 35 2 := ⟨by kernel_rfl, by kernel_rfl⟩
theorem tg37 : TG Try.prog 37 3 := ⟨by kernel_rfl, by kernel_rfl⟩
theorem tg67 : TG Try.prog 67 5 := ⟨by kernel_rfl, by kernel_rfl⟩
theorem tg86 : TG Try.prog 86 2 := ⟨by kernel_rfl, by kernel_rfl⟩
theorem ts50 : TS Try.prog 50 37 3 := ⟨by kernel_rfl, by kernel_rfl⟩
theorem ts62 : TS Try.prog 62 3 1 := ⟨by kernel_rfl, by kernel_rfl⟩
theorem ts84 : TS Try.prog 84 35 2 := ⟨by kernel_rfl, by kernel_rfl⟩
theorem tz234 : TZ Try.prog 234 [.bool false, .bool false, .bool false, .bool false, .bool false, .bool false, .bool false, .bool false, .bool false, .bool false, .bool false, .bool false, .bool false, .bool false, .bool false, .bool false, .bool false, .bool false, .bool false, .bool false, .bool false, .bool false, .bool false, .bool false, .bool false, .bool false, .bool false, .bool false, .bool false, .bool false, .bool false, .bool false, .bool false, .bool false, .bool false, .bool false, .bool false, .bool false, .bool false, .bool false, .bool false, .bool false, .bool false, .bool false, .bool false, .bool false, .bool false, .bool false, .bool false, .bool false, .bool false, .bool false, .bool false, .bool false, .bool false, .bool false, .bool false, .bool false, .bool false, .bool false, .bool false, .bool false, .bool false, .bool false, .bool false, .bool false, .bool false, .bool false, .bool false, .bool false, .bool false, .bool false, .bool false, .bool false, .bool false, .bool false, .bool false, .bool false, .bool false, .bool false, .bool false, .bool false, .bool false, .bool false, .bool false, .bool false, .bool false, .bool false, .bool false, .bool false, .bool false, .bool false, .bool false, .bool false, .bool false, .bool false, .bool false, .bool false, .bool false, .bool false, .bool false, .bool false, .bool false, .bool false, .bool false, .bool false, .bool false, .bool false, .bool false, .bool false, .bool false, .bool false, .bool false, .bool false, .bool false, .bool false, .bool false, .bool false, .bool false, .bool false] := by unfold TZ; kernel_rfl
theorem tz37 : TZ Try.prog 37 [.int .i64 0, .int .i64 0, .bool false] := by unfold TZ; kernel_rfl
theorem tz86 : TZ Try.prog 86 [.int .i64 0, .slice none 0 0] := by unfold TZ; kernel_rfl
end Go.Proofs.Ytfjggobjijeniaa.A23
namespace Go.Proofs.Ytfjggobjijeniaa
open Go Go.RowKit Go.L A23
set_option maxRecDepth 8000 in
theorem impl_logOk (G : Kin) (hK : KG G) (h : Hp) (hW : WOk h.words) (S : List Int) (hS : ∀ s ∈ S, AtOk G.flatten h.words s) (hn : S.Nodup) (hSi : ∀ s ∈ S, inI s) (H : LH h S) : FnC Try.prog 135 [hP G h S] (A.bool (logOkI G.flatten h S)) := by
  refine Fn_of_W Try.func135 rfl rfl fun r w => ?_
  refine W_seq (W_region (ws (O_box1 (by first | exact OneCell.int | exact OneCell.bool | exact OneCell.sl | exact OneCell.pt | exact OneCell.any1)) ⟨T1 rfl, trivial⟩ ?_))
  refine WL_ac rfl ?_
  refine WL_nil (Fin_then (W_seq (W_region (WL_alloc tz234 rfl fun b3 => ?_))))
  refine WL_alloc tz234 rfl fun b4 => ?_
  refine WL_alloc tz234 rfl fun b5 => ?_
  refine WL_nil (Fin_then (W_seq (W_seq (W_region (ws (O_load ta132) ⟨T1 rfl, trivial⟩ ?_)))))
  refine ws (O_call cf132 (impl_objects _ _ _) rfl) ⟨T1 rfl, trivial⟩ ?_
  refine WL_nil (Fin_then (W_block (W_rangeFunc rfl rfl rfl rfl rfl rfl cf166 rfl fun S_1 => ?_)))
  refine W_seq (W_region (ws (O_load ta132) ⟨T1 rfl, trivial⟩ ?_))
  refine ws O_nilCheck ⟨T1 rfl, trivial⟩ ?_
  refine ws (O_field tf139_2) ⟨T1 rfl, trivial⟩ ?_
  refine ws (O_load ta62) ⟨T1 rfl, trivial⟩ ?_
  refine WL_len ts62 rfl rfl fun hl9 => ?_
  refine WL_mc rfl ?_
  refine WL_nil (Fin_then (W_block (W_loopp [0, 1, 8, 9] [2, 1] [] [] (T := Nat) (fun x => x ≤ S.length) (fun x => [(10, true, A.int (x : Int))]) (fun x => { own := [(b3, 234, (tabI (selR G.flatten h) h (S.take x)).map A.bool), (b4, 234, (tabI (selY G.flatten h) h (S.take x)).map A.bool)], rooms := [], maps := [] }) (fun x => S.length - x) 0 (by omega) ⟨⟨rfl, _, rfl, (by first | exact Imp.refl | exact Imp.slv | exact Imp.nil | exact Imp.int (by omega) | exact Imp.int (by simp; done) | exact Imp.bool (by simp_all; done))⟩, trivial⟩ (.cons (AllImp.eq rfl) (.cons (AllImp.eq rfl) OSub.nil)) rfl rfl rfl (fun x hx => ?_))))
  refine W_seq (W_region (ws O_lss ⟨T1 rfl, T1 rfl, trivial⟩ ?_))
  refine WL_nil (Fin_then (W_seq (W_cond rfl (fun h0 => ?_) (fun h0 => ?_))))
  · skip
    try simp only [bl] at h0
    refine W_skip (Fin_then (W_seq (W_block (W_seq (W_region (ws (O_index ts62 (by omega)) ⟨T1 rfl, T1 rfl, trivial⟩ ?_))))))
    refine ws (O_load ta3) ⟨T1 rfl, trivial⟩ ?_
    refine WL_as rfl rfl ?_
    refine WL_nil (Fin_then (W_seq (W_region (WL_mv rfl rfl ?_))))
    refine WL_mv rfl rfl ?_
    refine ws (O_load ta132) ⟨T1 rfl, trivial⟩ ?_
    refine ws O_nilCheck ⟨T1 rfl, trivial⟩ ?_
    refine ws (O_field tf139_3) ⟨T1 rfl, trivial⟩ ?_
    refine ws (O_load ta137) ⟨T1 rfl, trivial⟩ ?_
    refine WL_mv rfl rfl ?_
    refine ws (OpN.post (O_lookupf0 mtThg hzThg (thE_ok hSi) (thE_nodup hn) (kokInt (n := idx S (x : Int)) (hSi _ (idx_mem (by omega) (by omega))))) (thE_look0 hn (idx_mem (by omega) (by omega)))) ⟨T1 rfl, T1 rfl, trivial⟩ ?_
    refine WL_yield2 rfl rfl rfl rfl (List.Mem.head _) ⟨T1 rfl, T1 rfl, T1 rfl, trivial⟩ fun a1 r1 hat => ?_
    refine W_seq (W_region (WL_as rfl rfl ?_))
    refine WL_nil (Fin_then (W_region (WL_alloc tz86 rfl fun b7 => ?_)))
    refine WL_store 0 rfl ⟨T1 rfl, T1 rfl, trivial⟩ (CellsOf.agg (by exact ⟨OneV.int, OneV.sl, trivial⟩)) sz86 (Nat.le_of_ble_eq_true rfl) ?_
    refine WL_nil (Fin_begin (r1 := r1) rfl ?_)
    refine W_block (W_seq (W_seq (W_region (WL_mv rfl rfl ?_))))
    refine ws (O_load ta132) ⟨T1 rfl, trivial⟩ ?_
    refine ws O_nilCheck ⟨T1 rfl, trivial⟩ ?_
    refine ws (O_field tf139_1) ⟨T1 rfl, trivial⟩ ?_
    refine ws (O_field tf67_1) ⟨T1 rfl, trivial⟩ ?_
    refine ws (O_load ta3) ⟨T1 rfl, trivial⟩ ?_
    refine ws O_geq ⟨T1 rfl, T1 rfl, trivial⟩ ?_
    refine WL_nil (Fin_then (W_cond rfl (fun h0 => ?_) (fun h0 => ?_)))
    · skip
      try simp only [bl] at h0
      refine W_exit (Fin_then_exit (Fin_block_exit (Fin_roundN hat rfl [S_1.r, r] (fun c h => by simpa using h) ?_ rfl)))
      refine ws O_not ⟨T1 rfl, trivial⟩ ?_
      refine WL_nil (Fin_then (W_cond rfl (fun h1 => ?_) (fun h1 => ?_)))
      · skip
        simp at h1
      refine W_skip (Fin_block (Fin_then (W_region (ws (O_add (by omega)) ⟨T1 rfl, C1, trivial⟩ ?_))))
      refine WL_mv rfl rfl ?_
      exact WL_nil (Fin_backp [1, 2, 3] (x + 1) (by omega) (by omega) ⟨⟨rfl, _, rfl, (by first | exact Imp.refl | exact Imp.slv | exact Imp.nil | exact Imp.int (by omega) | exact Imp.int (by simp; done) | exact Imp.bool (by simp_all; done))⟩, trivial⟩ ⟨rfl, rfl, rfl, rfl, trivial⟩ (.cons (AllImp.eq (by rw [tab_step (by omega), if_neg (by omega)])) (.cons (AllImp.eq (by rw [tab_step (by omega), if_neg (by omega)])) (.cons AllImp.refl OSub.nil))) rfl (List.Sublist.refl _) rfl)
    try simp only [bl] at h0
    have ha : AtOk G.flatten h.words (idx S (x : Int)) := hS _ (idx_mem (by omega) (by omega))
    have htop := H.top (idx S (x : Int)) (idx_mem (by omega) (by omega)) (by omega)
    have u1 := ha.use.1
    have u2 := ha.use.2.1
    have u3 := ha.use.2.2.1
    have u4 := ha.use.2.2.2.1
    have u5 := ha.use.2.2.2.2.1
    have u6 := ha.use.2.2.2.2.2.1
    have u7 := ha.use.2.2.2.2.2.2.1
    have htf := thing_fields hK ha
    have htl := htf.1
    have htv := thing_len (T := G.flatten) (W := h.words) (a := (idx S (x : Int)))
    have hcw : cntW h (idx S (x : Int)) = (idx h.words (idx S (x : Int)) % 16).toNat := rfl
    refine W_skip (Fin_then (W_seq (W_region (ws (O_load ta132) ⟨T1 rfl, trivial⟩ ?_))))
    refine ws (O_loadog 0 tg86 rfl (Nat.le_of_ble_eq_true rfl)) ⟨T1 rfl, trivial⟩ ?_
    refine ws (O_call cf134 (impl_hfields _ (by assumption) _ _ _) rfl) ⟨T1 rfl, T1 rfl, trivial⟩ ?_
    refine WL_len ts50 rfl rfl fun hl28 => ?_
    refine WL_mc rfl ?_
    refine WL_nil (Fin_then (W_block (W_loopp [1, 3, 4, 6, 7, 27, 28] [1, 2] [] [] (T := Nat) (fun y => y ≤ (hfields G (thingAt G.flatten h.words (idx S (x : Int))).ty (thingAt G.flatten h.words (idx S (x : Int))).vals.length).1.length) (fun y => [(29, true, A.int (y : Int))]) (fun y => { own := [(b3, 234, (updAt (selR G.flatten h) (tabI (selR G.flatten h) h (S.take x)) (idx S (x : Int)) y).map A.bool), (b4, 234, (updAt (selY G.flatten h) (tabI (selY G.flatten h) h (S.take x)) (idx S (x : Int)) y).map A.bool)], rooms := [], maps := [] }) (fun y => (hfields G (thingAt G.flatten h.words (idx S (x : Int))).ty (thingAt G.flatten h.words (idx S (x : Int))).vals.length).1.length - y) 0 (by omega) ⟨⟨rfl, _, rfl, (by first | exact Imp.refl | exact Imp.slv | exact Imp.nil | exact Imp.int (by omega) | exact Imp.int (by simp; done) | exact Imp.bool (by simp_all; done))⟩, trivial⟩ (.cons AllImp.refl (.cons AllImp.refl OSub.nil)) rfl rfl rfl (fun y hx => ?_))))
    refine W_seq (W_region (ws O_lss ⟨T1 rfl, T1 rfl, trivial⟩ ?_))
    refine WL_nil (Fin_then (W_seq (W_cond rfl (fun h1 => ?_) (fun h1 => ?_))))
    · skip
      try simp only [bl] at h1
      refine W_skip (Fin_then (W_seq (W_block (W_seq (W_region (WL_mv rfl rfl ?_))))))
      refine ws (O_index ts50 (by omega)) ⟨T1 rfl, T1 rfl, trivial⟩ ?_
      refine ws (O_loadgw tg37 rfl) ⟨T1 rfl, trivial⟩ ?_
      refine WL_alloc tz37 rfl fun b9 => ?_
      refine WL_as rfl rfl ?_
      refine WL_store 0 rfl ⟨T1 rfl, T1 rfl, trivial⟩ (CellsOf.agg (by exact ⟨OneV.int, OneV.int, OneV.bool, trivial⟩)) sz37 (Nat.le_of_ble_eq_true rfl) ?_
      refine WL_nil (Fin_then (W_seq (W_region (WL_mv rfl rfl ?_))))
      refine ws (O_add (by omega)) ⟨T1 rfl, C1, trivial⟩ ?_
      refine WL_mv rfl rfl ?_
      refine ws (O_add (by omega)) ⟨T1 rfl, T1 rfl, trivial⟩ ?_
      refine ws (O_fieldv tf37_0) ⟨T1 rfl, trivial⟩ ?_
      refine ws (O_loado 0 ta3 rfl rfl) ⟨T1 rfl, trivial⟩ ?_
      refine ws O_neq ⟨T1 rfl, C1, trivial⟩ ?_
      refine ws (O_indexarro tar234 (by omega)) ⟨T1 rfl, T1 rfl, trivial⟩ ?_
      refine WL_store 1 rfl ⟨T1 rfl, T1 rfl, trivial⟩ (CellsOf.one OneV.bool) sz4 (by simp [tabI_len, updAt_len, seen_len]; try omega) ?_
      refine WL_nil (Fin_then (W_draw 15 mix rfl rfl ?_))
      refine cs O_move ⟨T1 rfl, trivial⟩ ?_
      refine cs (O_add (by omega)) ⟨T1 rfl, C1, trivial⟩ ?_
      refine cs O_move ⟨T1 rfl, trivial⟩ ?_
      refine cs (O_add (by omega)) ⟨T1 rfl, T1 rfl, trivial⟩ ?_
      refine cs (O_load ta132) ⟨T1 rfl, trivial⟩ ?_
      refine cs O_nilCheck ⟨T1 rfl, trivial⟩ ?_
      refine cs (O_field tf139_1) ⟨T1 rfl, trivial⟩ ?_
      refine cs (O_loadg tg67 (Nat.le_of_ble_eq_true rfl)) ⟨T1 rfl, trivial⟩ ?_
      refine cs (O_fieldv tf86_1) ⟨T1 rfl, trivial⟩ ?_
      refine cs (O_loado 3 ta84 rfl rfl) ⟨T1 rfl, trivial⟩ ?_
      refine cs O_move ⟨T1 rfl, trivial⟩ ?_
      refine cs (O_index ts84 (by omega)) ⟨T1 rfl, T1 rfl, trivial⟩ ?_
      refine cs (O_loadgw tg35 rfl) ⟨T1 rfl, trivial⟩ ?_
      refine cs (O_call cf167 (impl_isYoung _ _) rfl) ⟨T1 rfl, T1 rfl, trivial⟩ ?_
      refine cs (O_indexarro tar234 (by omega)) ⟨T1 rfl, T1 rfl, trivial⟩ ?_
      refine Chain_nil ?_
      refine WL_store 2 rfl ⟨T1 rfl, T1 rfl, trivial⟩ (CellsOf.one OneV.bool) sz4 (by simp [tabI_len, updAt_len, seen_len]; try omega) ?_
      refine WL_nil (Fin_block (Fin_then (W_region (ws (O_add (by omega)) ⟨T1 rfl, C1, trivial⟩ ?_))))
      refine WL_mv rfl rfl ?_
      refine WL_nil ?_
      have hf1 := htf.2 y (by omega)
      have hv1 := thing_val (T := G.flatten) (h := h) (a := (idx S (x : Int))) (i := y) (by omega)
      exact Fin_backp [1, 2, 3, 4] (y + 1) (by omega) (by omega) ⟨⟨rfl, _, rfl, (by first | exact Imp.refl | exact Imp.slv | exact Imp.nil | exact Imp.int (by omega) | exact Imp.int (by simp; done) | exact Imp.bool (by simp_all; done))⟩, trivial⟩ ⟨rfl, rfl, rfl, rfl, rfl, rfl, rfl, trivial⟩ (.cons (AllImp.eq (upd_over (by omega) (by rw [tabI_len]; omega) (by rw [hf1]; unfold selR; simp)).symm) (.cons (AllImp.eq (upd_over (by omega) (by rw [tabI_len]; omega) (by rw [hv1]; rfl)).symm) (.cons AllImp.refl (.cons AllImp.refl OSub.nil)))) rfl (List.Sublist.refl _) rfl
    try simp only [bl] at h1
    refine W_exit (Fin_then_exit (Fin_then_exit (Fin_block_exit (Fin_block (Fin_roundN hat rfl [S_1.r, r] (fun c h => by simpa using h) ?_ rfl)))))
    refine ws O_not ⟨T1 rfl, trivial⟩ ?_
    refine WL_nil (Fin_then (W_cond rfl (fun h1 => ?_) (fun h1 => ?_)))
    · skip
      simp at h1
    refine W_skip (Fin_block (Fin_then (W_region (ws (O_add (by omega)) ⟨T1 rfl, C1, trivial⟩ ?_))))
    refine WL_mv rfl rfl ?_
    refine WL_nil ?_
    have hyc : y = cntW h (idx S (x : Int)) := by unfold cntW; omega
    exact Fin_backp [0, 1, 3] (x + 1) (by omega) (by omega) ⟨⟨rfl, _, rfl, (by first | exact Imp.refl | exact Imp.slv | exact Imp.nil | exact Imp.int (by omega) | exact Imp.int (by simp; done) | exact Imp.bool (by simp_all; done))⟩, trivial⟩ ⟨rfl, rfl, rfl, rfl, trivial⟩ (.cons (AllImp.eq (by rw [tab_step (by omega), if_pos (by omega), hyc])) (.cons (AllImp.eq (by rw [tab_step (by omega), if_pos (by omega), hyc])) (.cons AllImp.refl OSub.nil))) rfl (List.Sublist.refl _) rfl
  try simp only [bl] at h0
  refine W_exit (Fin_then_exit (Fin_then_exit (Fin_block_exit (Fin_iterN rfl rfl (Or.inl rfl) (fun c h => by simpa using h) ?_))))
  refine Fin_block (Fin_then (W_seq (W_seq (W_region (ws (O_load ta132) ⟨T1 rfl, trivial⟩ ?_)))))
  refine ws O_nilCheck ⟨T1 rfl, trivial⟩ ?_
  refine ws (O_field tf139_1) ⟨T1 rfl, trivial⟩ ?_
  refine ws (O_field tf67_4) ⟨T1 rfl, trivial⟩ ?_
  refine ws (O_load ta62) ⟨T1 rfl, trivial⟩ ?_
  refine WL_len ts62 rfl rfl fun hl63 => ?_
  refine WL_mc rfl ?_
  refine WL_nil (Fin_then (W_block (W_loopp [3, 4, 5, 62, 63] [0, 1, 2] [] [] (T := Nat) (fun k => k ≤ h.log.length ∧ ∀ i : Nat, i < k → logAt G.flatten h S i = true) (fun k => [(64, true, A.int (k : Int))]) (fun k => { own := [(b3, 234, (tabI (selR G.flatten h) h S).map A.bool), (b4, 234, (tabI (selY G.flatten h) h S).map A.bool), (b5, 234, (seenL (h.log.take k)).map A.bool)], rooms := [], maps := [] }) (fun k => h.log.length - k) 0 ⟨Nat.zero_le _, fun i hi => by omega⟩ ⟨⟨rfl, _, rfl, (by first | exact Imp.refl | exact Imp.slv | exact Imp.nil | exact Imp.int (by omega) | exact Imp.int (by simp; done) | exact Imp.bool (by simp_all; done))⟩, trivial⟩ (.cons (AllImp.eq (by rw [show x = S.length from by omega, List.take_length])) (.cons (AllImp.eq (by rw [show x = S.length from by omega, List.take_length])) (.cons (AllImp.eq (by rw [List.take_zero, seen_nil]; rfl)) OSub.nil))) rfl rfl rfl (fun k hx => ?_))))
  have hk := hx.1
  have hj := hx.2
  refine W_seq (W_region (ws O_lss ⟨T1 rfl, T1 rfl, trivial⟩ ?_))
  refine WL_nil (Fin_then (W_seq (W_cond rfl (fun h2 => ?_) (fun h2 => ?_))))
  · skip
    try simp only [bl] at h2
    refine W_skip (Fin_then (W_seq (W_block (W_seq (W_region (ws (O_index ts62 (by omega)) ⟨T1 rfl, T1 rfl, trivial⟩ ?_))))))
    refine ws (O_load ta3) ⟨T1 rfl, trivial⟩ ?_
    refine WL_as rfl rfl ?_
    refine WL_nil (Fin_then (W_seq (W_seq (W_region (WL_mv rfl rfl ?_)))))
    refine ws O_lss ⟨T1 rfl, C1, trivial⟩ ?_
    refine WL_mv rfl rfl ?_
    refine wf1 rfl rfl (fun hc => O_move) ⟨tg rfl, trivial⟩ ?_
    refine wf1 rfl rfl (fun hc => O_geq) ⟨tg rfl, C1, trivial⟩ ?_
    refine ws O_or ⟨T1 rfl, tg rfl, trivial⟩ ?_
    refine WL_mv rfl rfl ?_
    refine wf1 rfl rfl (fun hc => O_move) ⟨tg rfl, trivial⟩ ?_
    refine wf1 rfl rfl (fun hc => (O_indexarro tar234 (by (try simp only [bl] at hc); omega))) ⟨tg rfl, tg rfl, trivial⟩ ?_
    refine wf1 rfl rfl (fun hc => (O_loado 0 ta4 rfl (bl_at (p := (idx h.log (k : Int)).toNat) (by rw [tabI_len]; (try simp at hc); omega) (by omega)))) ⟨tg rfl, trivial⟩ ?_
    refine wf1 rfl rfl (fun hc => O_not) ⟨tg rfl, trivial⟩ ?_
    refine ws O_or ⟨T1 rfl, tg rfl, trivial⟩ ?_
    refine WL_mv rfl rfl ?_
    refine wf1 rfl rfl (fun hc => O_move) ⟨tg rfl, trivial⟩ ?_
    refine wf1 rfl rfl (fun hc => (O_indexarro tar234 (by (try simp only [bl] at hc); omega))) ⟨tg rfl, tg rfl, trivial⟩ ?_
    refine wf1 rfl rfl (fun hc => (O_loado 2 ta4 rfl (bl_at (p := (idx h.log (k : Int)).toNat) (by rw [seen_len]; (try simp at hc); omega) (by omega)))) ⟨tg rfl, trivial⟩ ?_
    refine ws O_or ⟨T1 rfl, tg rfl, trivial⟩ ?_
    refine WL_nil (Fin_then (W_cond rfl (fun h3 => ?_) (fun h3 => ?_)))
    · skip
      try simp only [bl] at h3
      refine W_seq (W_region (WL_ac rfl ?_))
      exact WL_nil (Fin_then (W_ret (Fin_then_ret (Fin_block_ret (Fin_then_ret (Fin_then_ret (Fin_block_ret (Fin_then_ret (RetC rfl (Res1 rfl (RV.tmp rfl (Imp.bool (by rw [logI_false (by omega) (log_bad H rfl h3)])))))))))))))
    try simp only [bl] at h3
    refine W_skip (Fin_then (W_region (WL_mv rfl rfl ?_)))
    refine ws (O_indexarro tar234 (by omega)) ⟨T1 rfl, T1 rfl, trivial⟩ ?_
    refine WL_store 2 rfl ⟨T1 rfl, C1, trivial⟩ (CellsOf.one OneV.bool) sz4 (by simp [tabI_len, updAt_len, seen_len]; try omega) ?_
    refine WL_nil (Fin_block (Fin_then (W_region (ws (O_add (by omega)) ⟨T1 rfl, C1, trivial⟩ ?_))))
    refine WL_mv rfl rfl ?_
    exact WL_nil (Fin_backp [0, 1, 2] (k + 1) ⟨by omega, allN_succ hj (log_good H rfl (by rintro ((q | q) | q); (omega); (rw [h3.1.2] at q; cases q); (rw [h3.2] at q; cases q)))⟩ (by omega) ⟨⟨rfl, _, rfl, (by first | exact Imp.refl | exact Imp.slv | exact Imp.nil | exact Imp.int (by omega) | exact Imp.int (by simp; done) | exact Imp.bool (by simp_all; done))⟩, trivial⟩ ⟨rfl, rfl, rfl, rfl, rfl, trivial⟩ (.cons AllImp.refl (.cons AllImp.refl (.cons (AllImp.eq (by rw [show 0 + (idx h.log (k : Int)).toNat * 1 = (idx h.log (k : Int)).toNat from by omega, over_bool (by rw [seen_len]; omega), seen_snoc (by omega) (by omega), take_snoc (by omega)])) OSub.nil))) rfl (List.Sublist.refl _) rfl)
  try simp only [bl] at h2
  refine W_exit (Fin_then_exit (Fin_then_exit (Fin_block_exit (Fin_then (W_seq (W_seq (W_region (ws (OpN.post (O_loadog 1 tg234 rfl (by simp [tabI_len, updAt_len, seen_len]; try omega)) (show Imp _ (A.agg ((tabI (selY G.flatten h) h S).map A.bool)) from Imp.agg (AllImp.eq (by rw [List.drop_zero, List.take_of_length_le (by simp [tabI_len])])))) ⟨T1 rfl, trivial⟩ ?_))))))))
  refine WL_mc rfl ?_
  refine WL_nil (Fin_then (W_block (W_loopp [5, 88] [2] [] [] (T := Nat) (fun p => p ≤ 120 ∧ ∀ i : Nat, i < p → ¬ (((tabI (selY G.flatten h) h S)[i]?).getD false = true ∧ ((seenL h.log)[i]?).getD false = false)) (fun p => [(89, true, A.int (p : Int))]) (fun p => { own := [(b5, 234, (seenL h.log).map A.bool)], rooms := [], maps := [] }) (fun p => 120 - p) 0 ⟨Nat.zero_le _, fun i hi => by omega⟩ ⟨⟨rfl, _, rfl, (by first | exact Imp.refl | exact Imp.slv | exact Imp.nil | exact Imp.int (by omega) | exact Imp.int (by simp; done) | exact Imp.bool (by simp_all; done))⟩, trivial⟩ (.cons (AllImp.eq (by rw [show k = h.log.length from by omega, List.take_length])) OSub.nil) rfl rfl rfl (fun p hx => ?_))))
  have hp1 := hx.1
  have hp2 := hx.2
  refine W_seq (W_region (ws O_lss ⟨T1 rfl, C1, trivial⟩ ?_))
  refine WL_nil (Fin_then (W_seq (W_cond rfl (fun h4 => ?_) (fun h4 => ?_))))
  · skip
    try simp only [bl] at h4
    refine W_skip (Fin_then (W_seq (W_block (W_seq (W_region (WL_mv rfl rfl ?_))))))
    refine ws (O_indexat tar234 ta4 (by omega) (bl_at (p := p) (by rw [tabI_len]; omega) (by omega))) ⟨T1 rfl, T1 rfl, trivial⟩ ?_
    refine WL_as rfl rfl ?_
    refine WL_as rfl rfl ?_
    refine WL_nil (Fin_then (W_seq (W_region (WL_mv rfl rfl ?_))))
    refine WL_mv rfl rfl ?_
    refine wt1 rfl rfl (fun hc => O_move) ⟨tg rfl, trivial⟩ ?_
    refine wt1 rfl rfl (fun hc => (O_indexarro tar234 (by (try simp only [bl] at hc); omega))) ⟨tg rfl, tg rfl, trivial⟩ ?_
    refine wt1 rfl rfl (fun hc => (O_loado 0 ta4 rfl (bl_at (p := p) (by rw [seen_len]; omega) (by omega)))) ⟨tg rfl, trivial⟩ ?_
    refine wt1 rfl rfl (fun hc => O_not) ⟨tg rfl, trivial⟩ ?_
    refine ws O_and ⟨T1 rfl, tg rfl, trivial⟩ ?_
    refine WL_nil (Fin_then (W_cond rfl (fun h5 => ?_) (fun h5 => ?_)))
    · skip
      try simp only [bl] at h5
      refine W_seq (W_region (WL_ac rfl ?_))
      exact WL_nil (Fin_then (W_ret (Fin_block_ret (Fin_then_ret (Fin_then_ret (Fin_block_ret (Fin_then_ret (RetC rfl (Res1 rfl (RV.tmp rfl (Imp.bool (by rw [must_bad H (p := p) (by omega) (by grind) (by grind)]))))))))))))
    try simp only [bl] at h5
    refine W_skip (Fin_block (Fin_then (W_region (ws (O_add (by omega)) ⟨T1 rfl, C1, trivial⟩ ?_))))
    refine WL_mv rfl rfl ?_
    exact WL_nil (Fin_backp [0, 1, 2] (p + 1) ⟨by omega, fun i hi => by rcases Nat.lt_or_ge i p with z | z; exact hp2 i z; rw [show i = p from by omega]; simpa using h5⟩ (by omega) ⟨⟨rfl, _, rfl, (by first | exact Imp.refl | exact Imp.slv | exact Imp.nil | exact Imp.int (by omega) | exact Imp.int (by simp; done) | exact Imp.bool (by simp_all; done))⟩, trivial⟩ ⟨rfl, rfl, trivial⟩ (.cons AllImp.refl (.cons AllImp.refl (.cons AllImp.refl OSub.nil))) rfl (List.Sublist.refl _) rfl)
  try simp only [bl] at h4
  refine W_exit (Fin_then_exit (Fin_then_exit (Fin_block_exit (Fin_then (W_seq (W_region (WL_ac rfl ?_)))))))
  exact WL_nil (Fin_then (W_ret (RetC rfl (Res1 rfl (RV.tmp rfl (Imp.bool (by rw [must_good H (allN_true (fun i hi => hj i (by omega))) (fun i hi => hp2 i (by omega))])))))))
end Go.Proofs.Ytfjggobjijeniaa
