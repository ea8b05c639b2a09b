import Derived.Test.YtfjggobjijeniaaRows
import Derived.Test.YtfjggobjijeniaaWalk3
import Derived.Test.YtfjggobjijeniaaWalk2
import Derived.Test.YtfjggobjijeniaaPure1
import Derived.Test.YtfjggobjijeniaaPure2
import Derived.Test.YtfjggobjijeniaaPure3
import Derived.Test.YtfjggobjijeniaaPure4
import Derived.Test.YtfjggobjijeniaaA1
import Derived.Test.YtfjggobjijeniaaA5
import Derived.Test.YtfjggobjijeniaaA6
import Derived.Test.YtfjggobjijeniaaA7
namespace Go.Proofs.Ytfjggobjijeniaa.A8
open Go Go.RowKit Go.L
theorem mix : Try.prog.follows .mixedOrders = true := by kernel_rfl
theorem cf93 : CallF Try.prog 93 := fun w vs => by kernel_rfl
theorem cf95 : CallF Try.prog 95 := fun w vs => by kernel_rfl
theorem cf96 : CallF Try.prog 96 := fun w vs => by kernel_rfl
theorem cf97 : CallF Try.prog 97 := fun w vs => by kernel_rfl
theorem cf98 : CallF Try.prog 98 := fun w vs => by kernel_rfl
theorem sz156 : sizeAt Try.prog 156 = some 6 := by kernel_rfl
theorem ta108 : TA Try.prog 108 := by unfold TA; kernel_rfl
theorem ta3 : TA Try.prog 3 := by unfold TA; kernel_rfl
theorem tb110 : TB Try.prog 110 [.slice none 0 0, .slice none 0 0] [(0, 1), (1, 1)] := ⟨by kernel_rfl, by kernel_rfl⟩
theorem tf110_0 : TF Try.prog 110 0 0 := by unfold TF; kernel_rfl
theorem tf145_1 : TF Try.prog 145 1 1 := by unfold TF; kernel_rfl
theorem tf156_0 : TF Try.prog 156 0 0 := by unfold TF; kernel_rfl
theorem tg145 : TG Try.prog 145 4 := ⟨by kernel_rfl, by kernel_rfl⟩
theorem tg156 : TG Try.prog 156 6 := ⟨by kernel_rfl, by kernel_rfl⟩
theorem ts108 : TS Try.prog 108 156 6 := ⟨by kernel_rfl, by kernel_rfl⟩
theorem ts31 : TS Try.prog 31 82 1 := ⟨by kernel_rfl, by kernel_rfl⟩
theorem tz156 : TZ Try.prog 156 [.int .i64 0, .int .i64 0, .bool false, .slice none 0 0, .int .i64 0, .int .i64 0] := by unfold TZ; kernel_rfl
end Go.Proofs.Ytfjggobjijeniaa.A8
namespace Go.Proofs.Ytfjggobjijeniaa
open Go Go.RowKit Go.L A8
set_option maxRecDepth 8000 in
theorem impl_readKin (G : Kin) (hG : Small G) : FnC Try.prog 47 [A.sl 1 cGrp G] (A.tup [kOpt (kinOk G) (krows G) (canonL G), A.bool (kinOk G)]) := by
  have hn := krows_cnt G
  have hcl := canonL_len G
  refine Fn_of_W Try.func47 rfl rfl fun r w => ?_
  refine W_seq (W_region (WL_ac rfl ?_))
  refine WL_ac rfl ?_
  refine WL_nil (Fin_then (W_seq (W_seq (W_region (WL_mv rfl rfl ?_)))))
  refine WL_len ts31 rfl rfl fun hl10 => ?_
  refine ws O_gtr ⟨T1 rfl, C1, trivial⟩ ?_
  refine WL_mv rfl rfl ?_
  refine wf1 rfl rfl (fun hc => O_move) ⟨tg rfl, trivial⟩ ?_
  refine wf1 rfl rfl (fun hc => (O_call cf93 (conFuncG 94 [] (fun g => decide (g = [])) G (fun _ _ => by kernel_rfl) (fun y _ => impl_readKin1 y)) rfl)) ⟨tg rfl, F1c, trivial⟩ ?_
  refine ws O_or ⟨T1 rfl, tg rfl, trivial⟩ ?_
  refine WL_nil (Fin_then (W_cond rfl (fun h0 => ?_) (fun h0 => ?_)))
  · skip
    try simp only [bl] at h0
    refine W_seq (W_region (WL_ac rfl ?_))
    refine WL_ac rfl ?_
    refine WL_nil (Fin_then (W_ret (Fin_then_ret ?_)))
    have hno := kparts_no (G := G) (fun hq => by grind)
    exact RetC rfl (Res2 rfl (RV.tmp rfl (kOpt_no (kinOk_no hno))) (RV.tmp rfl (Imp.bool (kinOk_no hno).symm)))
  try simp only [bl] at h0
  have hne : ∀ g ∈ G, g ≠ [] := by have := h0.2; simpa using this
  have h4 : G.length ≤ 4 := by omega
  refine W_skip (Fin_then (W_seq (W_region (WL_mv rfl rfl ?_))))
  refine ws (O_call cf95 (impl_flatten _ (by assumption)) rfl) ⟨T1 rfl, trivial⟩ ?_
  refine ws (O_build [(_, _)] tb110 rfl ⟨(CellsOf.one OneV.sl), trivial⟩ rfl) ⟨T1 rfl, trivial⟩ ?_
  refine WL_boxo (CellsOf.agg (by exact ⟨OneV.sl, OneV.slv, trivial⟩)) (T1 rfl) rfl fun b19 => ?_
  refine WL_as rfl rfl ?_
  refine WL_nil (Fin_then (W_seq (W_seq (W_region (WL_mv rfl rfl ?_)))))
  refine ws O_nilCheckv ⟨T1 rfl, trivial⟩ ?_
  refine ws (O_fieldv tf110_0) ⟨T1 rfl, trivial⟩ ?_
  refine ws (O_loado 0 ta108 rfl rfl) ⟨T1 rfl, trivial⟩ ?_
  refine WL_len ts108 rfl rfl fun hl24 => ?_
  refine ws O_gtr ⟨T1 rfl, C1, trivial⟩ ?_
  refine WL_nil (Fin_then (W_cond rfl (fun h1 => ?_) (fun h1 => ?_)))
  · skip
    try simp only [bl] at h1
    refine W_seq (W_region (WL_ac rfl ?_))
    refine WL_ac rfl ?_
    refine WL_nil (Fin_then (W_ret (Fin_then_ret ?_)))
    have hno := kparts_no (G := G) (fun hq => by omega)
    exact RetC rfl (Res2 rfl (RV.tmp rfl (kOpt_no (kinOk_no hno))) (RV.tmp rfl (Imp.bool (kinOk_no hno).symm)))
  try simp only [bl] at h1
  have hp8 : kcnt G ≤ 8 := by omega
  refine W_skip (Fin_then (W_seq (W_seq (W_region (WL_mv rfl rfl ?_)))))
  refine ws O_nilCheckv ⟨T1 rfl, trivial⟩ ?_
  refine ws (O_fieldv tf110_0) ⟨T1 rfl, trivial⟩ ?_
  refine ws (O_loado 0 ta108 rfl rfl) ⟨T1 rfl, trivial⟩ ?_
  refine WL_len ts108 rfl rfl fun hl30 => ?_
  refine WL_mc rfl ?_
  refine WL_nil (Fin_then (W_block (W_loopp [4, 29, 30] [] [] [] (T := Nat) (fun k => k ≤ (krows G).length ∧ ∀ j : Nat, j < k → rowOk (idx (krows G) (j : Int)) (j : Int) = true) (fun k => [(31, true, A.int (k : Int))]) (fun k => { own := [], rooms := [], maps := [] }) (fun k => (krows G).length - k) 0 ⟨Nat.zero_le _, fun j h => by omega⟩ ⟨⟨rfl, _, rfl, (by first | exact Imp.refl | exact Imp.slv | exact Imp.nil | exact Imp.int (by omega) | exact Imp.int (by simp; done) | exact Imp.bool (by simp_all; done))⟩, trivial⟩ OSub.nil rfl rfl rfl (fun k hx => ?_))))
  have hk := hx.1
  refine W_seq (W_region (ws O_lss ⟨T1 rfl, T1 rfl, trivial⟩ ?_))
  refine WL_nil (Fin_then (W_seq (W_cond rfl (fun h2 => ?_) (fun h2 => ?_))))
  · skip
    try simp only [bl] at h2
    refine W_skip (Fin_then (W_seq (W_block (W_seq (W_region (WL_mv rfl rfl ?_))))))
    refine ws (O_index ts108 (by omega)) ⟨T1 rfl, T1 rfl, trivial⟩ ?_
    refine ws (O_loadgw tg156 rfl) ⟨T1 rfl, trivial⟩ ?_
    refine WL_alloc tz156 rfl fun b6 => ?_
    refine WL_as rfl rfl ?_
    refine WL_store 0 rfl ⟨T1 rfl, T1 rfl, trivial⟩ (CellsOf.agg (by exact ⟨OneV.int, OneV.int, OneV.bool, OneV.sl, OneV.int, OneV.int, trivial⟩)) sz156 (Nat.le_of_ble_eq_true rfl) ?_
    refine WL_nil (Fin_then (W_seq (W_region (ws (O_loadog 0 tg156 rfl (Nat.le_of_ble_eq_true rfl)) ⟨T1 rfl, trivial⟩ ?_))))
    refine WL_mv rfl rfl ?_
    refine ws (O_call cf96 (impl_rowOk _ _) rfl) ⟨T1 rfl, T1 rfl, trivial⟩ ?_
    refine ws O_not ⟨T1 rfl, trivial⟩ ?_
    refine WL_nil (Fin_then (W_cond rfl (fun h3 => ?_) (fun h3 => ?_)))
    · skip
      try simp only [bl] at h3
      refine W_seq (W_region (WL_ac rfl ?_))
      refine WL_ac rfl ?_
      refine WL_nil (Fin_then (W_ret (Fin_block_ret (Fin_then_ret (Fin_then_ret (Fin_block_ret (Fin_then_ret ?_)))))))
      have hno := kparts_no (G := G) (fun hq => by have := hq.2.2.2 k (by omega); grind)
      exact RetC rfl (Res2 rfl (RV.tmp rfl (kOpt_no (kinOk_no hno))) (RV.tmp rfl (Imp.bool (kinOk_no hno).symm)))
    try simp only [bl] at h3
    refine W_skip (Fin_block (Fin_then (W_region (ws (O_add (by omega)) ⟨T1 rfl, C1, trivial⟩ ?_))))
    refine WL_mv rfl rfl ?_
    exact WL_nil (Fin_backp [1] (k + 1) ⟨by omega, fun j hj => by rcases Nat.lt_or_ge j k with q | q; exact hx.2 j q; rw [show j = k from by omega]; simpa using h3⟩ (by omega) ⟨⟨rfl, _, rfl, (by first | exact Imp.refl | exact Imp.slv | exact Imp.nil | exact Imp.int (by omega) | exact Imp.int (by simp; done) | exact Imp.bool (by simp_all; done))⟩, trivial⟩ ⟨rfl, rfl, rfl, trivial⟩ (.cons AllImp.refl OSub.nil) rfl (List.Sublist.refl _) rfl)
  try simp only [bl] at h2
  have hRO : RowsOk G := fun i hi => hx.2 i (by omega)
  have hkp : kparts G = true := kparts_iff.2 ⟨h4, hp8, hne, hRO⟩
  have hK : KG G := ⟨hG, hkp⟩
  have hfl := krows_len G
  refine W_exit (Fin_then_exit (Fin_then_exit (Fin_block_exit (Fin_then (W_seq (W_region (WL_mv rfl rfl ?_)))))))
  refine WL_callX [0] [] [] cf97 (impl_canonize _ G hG hp8 hRO hne) rfl ⟨T1 rfl, trivial⟩ (.cons AllImp.refl .nil) rfl rfl rfl rfl fun x42 => ?_
  refine WL_freeze 0 rfl 4 rfl (u := kP (krows G) (canonL G)) (fun r _ hat => ⟨_, _, rfl, hat⟩) ?_
  refine WL_nil (Fin_then (W_seq (W_seq (W_region (WL_mv rfl rfl ?_)))))
  refine ws O_nilCheck ⟨T1 rfl, trivial⟩ ?_
  refine ws (O_field tf110_0) ⟨T1 rfl, trivial⟩ ?_
  refine ws (O_load ta108) ⟨T1 rfl, trivial⟩ ?_
  refine WL_len ts108 rfl rfl fun hl47 => ?_
  refine WL_mc rfl ?_
  refine WL_nil (Fin_then (W_block (W_loopp [4, 46, 47] [] [] [] (T := Nat) (fun k => k ≤ G.flatten.length ∧ ∀ j : Nat, j < k → kext G j = true) (fun k => [(48, true, A.int (k : Int))]) (fun k => { own := [], rooms := [], maps := [] }) (fun k => (krows G).length - k) 0 ⟨Nat.zero_le _, fun j h => by omega⟩ ⟨⟨rfl, _, rfl, (by first | exact Imp.refl | exact Imp.slv | exact Imp.nil | exact Imp.int (by omega) | exact Imp.int (by simp; done) | exact Imp.bool (by simp_all; done))⟩, trivial⟩ OSub.nil rfl rfl rfl (fun k hx => ?_))))
  have hk := hx.1
  refine W_seq (W_region (ws O_lss ⟨T1 rfl, T1 rfl, trivial⟩ ?_))
  refine WL_nil (Fin_then (W_seq (W_cond rfl (fun h4 => ?_) (fun h4 => ?_))))
  · skip
    try simp only [bl] at h4
    have hup := hK.up (a := (k : Int)) (by omega) (by omega)
    have ht2 := krows_t (G := G) (a := (k : Int)) (by omega) (by omega)
    have ht3 : 0 ≤ (idx (krows G) (k : Int)).t.up → (idx (krows G) (idx (krows G) (k : Int)).t.up).t = idx G.flatten (idx (krows G) (k : Int)).t.up := fun q => krows_t q (by omega)
    refine W_skip (Fin_then (W_seq (W_block (W_seq (W_region (ws (O_index ts108 (by omega)) ⟨T1 rfl, T1 rfl, trivial⟩ ?_))))))
    refine ws (O_loadgw tg156 rfl) ⟨T1 rfl, trivial⟩ ?_
    refine WL_alloc tz156 rfl fun b8 => ?_
    refine WL_store 0 rfl ⟨T1 rfl, T1 rfl, trivial⟩ (CellsOf.agg (by exact ⟨OneV.int, OneV.int, OneV.bool, OneV.sl, OneV.int, OneV.int, trivial⟩)) sz156 (Nat.le_of_ble_eq_true rfl) ?_
    refine WL_nil (Fin_then (W_seq (W_draw 21 mix rfl rfl ?_)))
    refine cs (O_fieldv tf156_0) ⟨T1 rfl, trivial⟩ ?_
    refine cs (O_fieldv tf145_1) ⟨T1 rfl, trivial⟩ ?_
    refine cs (O_loado 0 ta3 rfl rfl) ⟨T1 rfl, trivial⟩ ?_
    refine cs O_geq ⟨T1 rfl, C1, trivial⟩ ?_
    refine cs O_move ⟨T1 rfl, trivial⟩ ?_
    refine ct1 rfl rfl (fun hc => O_move) ⟨tg rfl, trivial⟩ ?_
    refine ct1 rfl rfl (fun hc => (O_fieldv tf156_0)) ⟨tg rfl, trivial⟩ ?_
    refine ct1 rfl rfl (fun hc => (O_loadog 0 tg145 rfl (Nat.le_of_ble_eq_true rfl))) ⟨tg rfl, trivial⟩ ?_
    refine ct1 rfl rfl (fun hc => O_move) ⟨tg rfl, trivial⟩ ?_
    refine ct1 rfl rfl (fun hc => O_nilCheck) ⟨tg rfl, trivial⟩ ?_
    refine ct1 rfl rfl (fun hc => (O_field tf110_0)) ⟨tg rfl, trivial⟩ ?_
    refine ct1 rfl rfl (fun hc => (O_load ta108)) ⟨tg rfl, trivial⟩ ?_
    refine ct1 rfl rfl (fun hc => (O_fieldv tf156_0)) ⟨tg rfl, trivial⟩ ?_
    refine ct1 rfl rfl (fun hc => (O_fieldv tf145_1)) ⟨tg rfl, trivial⟩ ?_
    refine ct1 rfl rfl (fun hc => (O_loado 0 ta3 rfl rfl)) ⟨tg rfl, trivial⟩ ?_
    refine ct1 rfl rfl (fun hc => (O_index ts108 (by (try simp only [bl] at hc); omega))) ⟨tg rfl, tg rfl, trivial⟩ ?_
    refine ct1 rfl rfl (fun hc => (O_field tf156_0)) ⟨tg rfl, trivial⟩ ?_
    refine ct1 rfl rfl (fun hc => (O_loadg tg145 (Nat.le_of_ble_eq_true rfl))) ⟨tg rfl, trivial⟩ ?_
    refine ct1 rfl rfl (fun hc => (O_call cf98 (impl_extends G hK (idx (krows G) (k : Int)).t (idx (krows G) (idx (krows G) (k : Int)).t.up).t (hK.flds (by omega) (by omega)) (hK.flds (by (try simp at hc); omega) (by (try simp at hc); omega))) rfl)) ⟨tg rfl, tg rfl, tg rfl, trivial⟩ ?_
    refine ct1 rfl rfl (fun hc => O_not) ⟨tg rfl, trivial⟩ ?_
    refine cs O_and ⟨T1 rfl, tg rfl, trivial⟩ ?_
    refine Chain_nil ?_
    refine WL_nil (Fin_then (W_cond rfl (fun h5 => ?_) (fun h5 => ?_)))
    · skip
      try simp only [bl] at h5
      refine W_seq (W_region (WL_ac rfl ?_))
      refine WL_ac rfl ?_
      refine WL_nil (Fin_then (W_ret (Fin_block_ret (Fin_then_ret (Fin_then_ret (Fin_block_ret (Fin_then_ret ?_)))))))
      have hno : kinOk G = false := by rw [kinOk_eq, allN_false k (by omega) (by unfold kext; rw [← ht2]; grind)]; simp
      exact RetC rfl (Res2 rfl (RV.tmp rfl (kOpt_no hno)) (RV.tmp rfl (Imp.bool hno.symm)))
    try simp only [bl] at h5
    refine W_skip (Fin_block (Fin_then (W_region (ws (O_add (by omega)) ⟨T1 rfl, C1, trivial⟩ ?_))))
    refine WL_mv rfl rfl ?_
    exact WL_nil (Fin_backp [] (k + 1) ⟨by omega, fun j hj => by rcases Nat.lt_or_ge j k with q | q; exact hx.2 j q; rw [show j = k from by omega]; unfold kext; rw [← ht2]; grind⟩ (by omega) ⟨⟨rfl, _, rfl, (by first | exact Imp.refl | exact Imp.slv | exact Imp.nil | exact Imp.int (by omega) | exact Imp.int (by simp; done) | exact Imp.bool (by simp_all; done))⟩, trivial⟩ ⟨rfl, rfl, rfl, trivial⟩ OSub.nil rfl (List.Sublist.refl _) rfl)
  try simp only [bl] at h4
  refine W_exit (Fin_then_exit (Fin_then_exit (Fin_block_exit (Fin_then (W_seq (W_region (WL_mv rfl rfl ?_)))))))
  refine WL_as rfl rfl ?_
  refine WL_ac rfl ?_
  refine WL_nil (Fin_then (W_ret ?_))
  have hyes : kinOk G = true := by rw [kinOk_eq, hkp, allN_true (fun j hj => hx.2 j (by omega))]; rfl
  exact RetC rfl (Res2 rfl (RV.tmp rfl (kOpt_yes (G := G) hyes)) (RV.tmp rfl (Imp.bool hyes.symm)))
end Go.Proofs.Ytfjggobjijeniaa
