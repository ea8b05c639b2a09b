import Derived.Test.YtilddfgifjejbaaRows
import Derived.Test.YtilddfgifjejbaaCal9
import Derived.Test.YtilddfgifjejbaaPure1
import Derived.Test.YtilddfgifjejbaaPure2
import Derived.Test.YtilddfgifjejbaaPure3
import Derived.Test.YtilddfgifjejbaaPure4
import Derived.Test.YtilddfgifjejbaaA1
import Derived.Test.YtilddfgifjejbaaA5
import Derived.Test.YtilddfgifjejbaaA6
import Derived.Test.YtilddfgifjejbaaA7
namespace Go.Proofs.Ytilddfgifjejbaa.A8
open Go Go.RowKit Go.L
theorem mix : Try.prog.follows .mixedOrders = true := by kernel_rfl
theorem cf40 : CallF Try.prog 40 := fun w vs => by kernel_rfl
theorem cf58 : CallF Try.prog 58 := fun w vs => by kernel_rfl
theorem cf60 : CallF Try.prog 60 := fun w vs => by kernel_rfl
theorem cf61 : CallF Try.prog 61 := fun w vs => by kernel_rfl
theorem cf62 : CallF Try.prog 62 := fun w vs => by kernel_rfl
theorem sz62 : sizeAt Try.prog 62 = some 6 := by kernel_rfl
theorem ta3 : TA Try.prog 3 := by unfold TA; kernel_rfl
theorem ta59 : TA Try.prog 59 := by unfold TA; kernel_rfl
theorem tb66 : TB Try.prog 66 [.slice none 0 0, .slice none 0 0] [(0, 1), (1, 1)] := ⟨by kernel_rfl, by kernel_rfl⟩
theorem tf29_1 : TF Try.prog 29 1 1 := by unfold TF; kernel_rfl
theorem tf62_0 : TF Try.prog 62 0 0 := by unfold TF; kernel_rfl
theorem tf66_0 : TF Try.prog 66 0 0 := by unfold TF; kernel_rfl
theorem tg29 : TG Try.prog 29 4 := ⟨by kernel_rfl, by kernel_rfl⟩
theorem tg62 : TG Try.prog 62 6 := ⟨by kernel_rfl, by kernel_rfl⟩
theorem ts23 : TS Try.prog 23 38 1 := ⟨by kernel_rfl, by kernel_rfl⟩
theorem ts59 : TS Try.prog 59 62 6 := ⟨by kernel_rfl, by kernel_rfl⟩
theorem tz62 : TZ Try.prog 62 [.int .i64 0, .int .i64 0, .bool false, .slice none 0 0, .int .i64 0, .int .i64 0] := by unfold TZ; kernel_rfl
end Go.Proofs.Ytilddfgifjejbaa.A8
namespace Go.Proofs.Ytilddfgifjejbaa
open Go Go.RowKit Go.L A8
set_option maxRecDepth 8000 in
theorem impl_readKin (G : Kin) (hG : Small G) : FnC Try.prog 36 [A.sl 1 cGrp G] (A.tup [kOpt (kinOk G) (krows G) (canonL G), A.bool (kinOk G)]) := by
  have hn := krows_cnt G
  have hcl := canonL_len G
  refine Fn_of_W Try.func36 rfl rfl fun r w => ?_
  refine W_seq ?_
  refine W_region ?_  -- R0 l1_kin.go:93
  refine WL_ac rfl ?_
  refine WL_ac rfl ?_
  refine WL_nil ?_
  refine Fin_then ?_
  refine W_seq ?_
  refine W_seq ?_
  refine W_region ?_  -- R1 l1_kin.go:94
  refine WL_mv rfl rfl ?_
  refine WL_len ts23 rfl rfl fun hl10 => ?_
  refine WL_step (S_plain O_gtr ⟨T1 rfl, C1, trivial⟩ rfl rfl) ?_
  refine WL_mv rfl rfl ?_
  refine WL_step (S_f1 rfl rfl (fun hc => O_move) ⟨⟨_, rfl, (by first | exact fun _ _ => rfl | exact fun h _ => h | exact fun _ h => h | exact fun h k => band h k | exact fun h _ => bandl h | exact fun h _ => bandr h)⟩, trivial⟩ rfl rfl rfl) ?_
  refine WL_step (S_f1 rfl rfl (fun hc => (O_call cf58 (conFuncG 59 [] (fun g => decide (g = [])) G (fun _ _ => by kernel_rfl) (fun y _ => impl_readKin1 y)) rfl)) ⟨⟨_, rfl, (by first | exact fun _ _ => rfl | exact fun h _ => h | exact fun _ h => h | exact fun h k => band h k | exact fun h _ => bandl h | exact fun h _ => bandr h)⟩, F1c, trivial⟩ rfl rfl rfl) ?_
  refine WL_step (S_plain O_or ⟨T1 rfl, ⟨_, rfl, (by first | exact fun _ _ => rfl | exact fun h _ => h | exact fun _ h => h | exact fun h k => band h k | exact fun h _ => bandl h | exact fun h _ => bandr h)⟩, trivial⟩ rfl rfl) ?_
  refine WL_nil ?_
  refine Fin_then ?_
  refine W_cond rfl (fun h0 => ?_) (fun h0 => ?_)
  · skip
    try simp only [bl] at h0
    refine W_seq ?_
    refine W_region ?_  -- R2 l1_kin.go:95
    refine WL_ac rfl ?_
    refine WL_ac rfl ?_
    refine WL_nil ?_
    refine Fin_then ?_
    refine W_ret ?_
    refine Fin_then_ret ?_
    have hno := kparts_no (G := G) (fun hq => by grind)
    exact RetC rfl (Res2 rfl (RV.tmp rfl (kOpt_no (kinOk_no hno))) (RV.tmp rfl (Imp.bool (kinOk_no hno).symm)))
  · skip
    try simp only [bl] at h0
    have hne : ∀ g ∈ G, g ≠ [] := by have := h0.2; simpa using this
    have h4 : G.length ≤ 4 := by omega
    refine W_skip ?_
    refine Fin_then ?_
    refine W_seq ?_
    refine W_region ?_  -- R3 l1_kin.go:97
    refine WL_mv rfl rfl ?_
    refine WL_step (S_plain (O_call cf40 (impl_flatten _ (by assumption)) rfl) ⟨T1 rfl, trivial⟩ rfl rfl) ?_
    refine WL_step (S_plain (O_build [(_, _)] tb66 rfl ⟨(CellsOf.one OneV.sl), trivial⟩ rfl) ⟨T1 rfl, trivial⟩ rfl rfl) ?_
    refine WL_boxo (CellsOf.agg (by exact ⟨OneV.sl, OneV.slv, trivial⟩)) (T1 rfl) rfl fun b19 => ?_
    refine WL_as rfl rfl ?_
    refine WL_nil ?_
    refine Fin_then ?_
    refine W_seq ?_
    refine W_seq ?_
    refine W_region ?_  -- R4 l1_kin.go:98
    refine WL_mv rfl rfl ?_
    refine WL_step (S_plain O_nilCheckv ⟨T1 rfl, trivial⟩ rfl rfl) ?_
    refine WL_step (S_plain (O_fieldv tf66_0) ⟨T1 rfl, trivial⟩ rfl rfl) ?_
    refine WL_step (S_plain (O_loado 0 ta59 rfl rfl) ⟨T1 rfl, trivial⟩ rfl rfl) ?_
    refine WL_len ts59 rfl rfl fun hl24 => ?_
    refine WL_step (S_plain O_gtr ⟨T1 rfl, C1, trivial⟩ rfl rfl) ?_
    refine WL_nil ?_
    refine Fin_then ?_
    refine W_cond rfl (fun h1 => ?_) (fun h1 => ?_)
    · skip
      try simp only [bl] at h1
      refine W_seq ?_
      refine W_region ?_  -- R5 l1_kin.go:99
      refine WL_ac rfl ?_
      refine WL_ac rfl ?_
      refine WL_nil ?_
      refine Fin_then ?_
      refine W_ret ?_
      refine Fin_then_ret ?_
      have hno := kparts_no (G := G) (fun hq => by omega)
      exact RetC rfl (Res2 rfl (RV.tmp rfl (kOpt_no (kinOk_no hno))) (RV.tmp rfl (Imp.bool (kinOk_no hno).symm)))
    · skip
      try simp only [bl] at h1
      have hp8 : kcnt G ≤ 8 := by omega
      refine W_skip ?_
      refine Fin_then ?_
      refine W_seq ?_
      refine W_seq ?_
      refine W_region ?_  -- R6 l1_kin.go:101
      refine WL_mv rfl rfl ?_
      refine WL_step (S_plain O_nilCheckv ⟨T1 rfl, trivial⟩ rfl rfl) ?_
      refine WL_step (S_plain (O_fieldv tf66_0) ⟨T1 rfl, trivial⟩ rfl rfl) ?_
      refine WL_step (S_plain (O_loado 0 ta59 rfl rfl) ⟨T1 rfl, trivial⟩ rfl rfl) ?_
      refine WL_len ts59 rfl rfl fun hl30 => ?_
      refine WL_mc rfl ?_
      refine WL_nil ?_
      refine Fin_then ?_
      refine W_block ?_
      refine W_loopp [4, 29, 30] [] [] [] (T := Nat) (fun k => k ≤ (krows G).length ∧ ∀ j : Nat, j < k → rowOk (idx (krows G) (j : Int)) (j : Int) = true) (fun k => [(31, true, A.int (k : Int))]) (fun k => { own := [], rooms := [], maps := [] }) (fun k => (krows G).length - k) 0 ⟨Nat.zero_le _, fun j h => by omega⟩ ⟨⟨rfl, _, rfl, (by first | exact Imp.refl | exact Imp.slv | exact Imp.nil | exact Imp.int (by omega) | exact Imp.int (by simp; done) | exact Imp.bool (by simp_all; done))⟩, trivial⟩ OSub.nil rfl rfl rfl (fun k hx => ?_)
      have hk := hx.1
      refine W_seq ?_
      refine W_region ?_  -- R7 l1_kin.go:101
      refine WL_step (S_plain O_lss ⟨T1 rfl, T1 rfl, trivial⟩ rfl rfl) ?_
      refine WL_nil ?_
      refine Fin_then ?_
      refine W_seq ?_
      refine W_cond rfl (fun h2 => ?_) (fun h2 => ?_)
      · skip
        try simp only [bl] at h2
        refine W_skip ?_
        refine Fin_then ?_
        refine W_seq ?_
        refine W_block ?_
        refine W_seq ?_
        refine W_region ?_  -- R8 l1_kin.go:101
        refine WL_mv rfl rfl ?_
        refine WL_step (S_plain (O_index ts59 (by omega)) ⟨T1 rfl, T1 rfl, trivial⟩ rfl rfl) ?_
        refine WL_step (S_plain (O_loadgw tg62 rfl) ⟨T1 rfl, trivial⟩ rfl rfl) ?_
        refine WL_alloc tz62 rfl fun b6 => ?_
        refine WL_as rfl rfl ?_
        refine WL_store 0 rfl ⟨T1 rfl, T1 rfl, trivial⟩ (CellsOf.agg (by exact ⟨OneV.int, OneV.int, OneV.bool, OneV.sl, OneV.int, OneV.int, trivial⟩)) sz62 (Nat.le_of_ble_eq_true rfl) ?_
        refine WL_nil ?_
        refine Fin_then ?_
        refine W_seq ?_
        refine W_region ?_  -- R9 l1_kin.go:102
        refine WL_step (S_plain (O_loadog 0 tg62 rfl (Nat.le_of_ble_eq_true rfl)) ⟨T1 rfl, trivial⟩ rfl rfl) ?_
        refine WL_mv rfl rfl ?_
        refine WL_step (S_plain (O_call cf60 (impl_rowOk _ _) rfl) ⟨T1 rfl, T1 rfl, trivial⟩ rfl rfl) ?_
        refine WL_step (S_plain O_not ⟨T1 rfl, trivial⟩ rfl rfl) ?_
        refine WL_nil ?_
        refine Fin_then ?_
        refine W_cond rfl (fun h3 => ?_) (fun h3 => ?_)
        · skip
          try simp only [bl] at h3
          refine W_seq ?_
          refine W_region ?_  -- R10 l1_kin.go:103
          refine WL_ac rfl ?_
          refine WL_ac rfl ?_
          refine WL_nil ?_
          refine Fin_then ?_
          refine W_ret ?_
          refine Fin_block_ret ?_
          refine Fin_then_ret ?_
          refine Fin_then_ret ?_
          refine Fin_block_ret ?_
          refine Fin_then_ret ?_
          have hno := kparts_no (G := G) (fun hq => by have := hq.2.2.2 k (by omega); grind)
          exact RetC rfl (Res2 rfl (RV.tmp rfl (kOpt_no (kinOk_no hno))) (RV.tmp rfl (Imp.bool (kinOk_no hno).symm)))
        · skip
          try simp only [bl] at h3
          refine W_skip ?_
          refine Fin_block ?_
          refine Fin_then ?_
          refine W_region ?_  -- R11 l1_kin.go:101
          refine WL_step (S_plain (O_add (by omega)) ⟨T1 rfl, C1, trivial⟩ rfl rfl) ?_
          refine WL_mv rfl rfl ?_
          refine WL_nil ?_
          exact Fin_backp [1] (k + 1) ⟨by omega, fun j hj => by rcases Nat.lt_or_ge j k with q | q; exact hx.2 j q; rw [show j = k from by omega]; simpa using h3⟩ (by omega) ⟨⟨rfl, _, rfl, (by first | exact Imp.refl | exact Imp.slv | exact Imp.nil | exact Imp.int (by omega) | exact Imp.int (by simp; done) | exact Imp.bool (by simp_all; done))⟩, trivial⟩ ⟨rfl, rfl, rfl, trivial⟩ (.cons AllImp.refl OSub.nil) rfl (List.Sublist.refl _) rfl
      · skip
        try simp only [bl] at h2
        have hRO : RowsOk G := fun i hi => hx.2 i (by omega)
        have hkp : kparts G = true := kparts_iff.2 ⟨h4, hp8, hne, hRO⟩
        have hK : KG G := ⟨hG, hkp⟩
        have hfl := krows_len G
        refine W_exit ?_
        refine Fin_then_exit ?_
        refine Fin_then_exit ?_
        refine Fin_block_exit ?_
        refine Fin_then ?_
        refine W_seq ?_
        refine W_region ?_  -- R12 l1_kin.go:106
        refine WL_mv rfl rfl ?_
        refine WL_callX [0] [] [] cf61 (impl_canonize _ G hG hp8 hRO hne) rfl ⟨T1 rfl, trivial⟩ (.cons AllImp.refl .nil) rfl rfl rfl rfl fun x42 => ?_
        refine WL_freeze 0 rfl 4 rfl (u := kP (krows G) (canonL G)) (fun r _ hat => ⟨_, _, rfl, hat⟩) ?_
        refine WL_nil ?_
        refine Fin_then ?_
        refine W_seq ?_
        refine W_seq ?_
        refine W_region ?_  -- R13 l1_kin.go:107
        refine WL_mv rfl rfl ?_
        refine WL_step (S_plain O_nilCheck ⟨T1 rfl, trivial⟩ rfl rfl) ?_
        refine WL_step (S_plain (O_field tf66_0) ⟨T1 rfl, trivial⟩ rfl rfl) ?_
        refine WL_step (S_plain (O_load ta59) ⟨T1 rfl, trivial⟩ rfl rfl) ?_
        refine WL_len ts59 rfl rfl fun hl47 => ?_
        refine WL_mc rfl ?_
        refine WL_nil ?_
        refine Fin_then ?_
        refine W_block ?_
        refine W_loopp [4, 46, 47] [] [] [] (T := Nat) (fun k => k ≤ G.flatten.length ∧ ∀ j : Nat, j < k → kext G j = true) (fun k => [(48, true, A.int (k : Int))]) (fun k => { own := [], rooms := [], maps := [] }) (fun k => (krows G).length - k) 0 ⟨Nat.zero_le _, fun j h => by omega⟩ ⟨⟨rfl, _, rfl, (by first | exact Imp.refl | exact Imp.slv | exact Imp.nil | exact Imp.int (by omega) | exact Imp.int (by simp; done) | exact Imp.bool (by simp_all; done))⟩, trivial⟩ OSub.nil rfl rfl rfl (fun k hx => ?_)
        have hk := hx.1
        refine W_seq ?_
        refine W_region ?_  -- R14 l1_kin.go:107
        refine WL_step (S_plain O_lss ⟨T1 rfl, T1 rfl, trivial⟩ rfl rfl) ?_
        refine WL_nil ?_
        refine Fin_then ?_
        refine W_seq ?_
        refine W_cond rfl (fun h4 => ?_) (fun h4 => ?_)
        · skip
          try simp only [bl] at h4
          have hup := hK.up (a := (k : Int)) (by omega) (by omega)
          have ht2 := krows_t (G := G) (a := (k : Int)) (by omega) (by omega)
          have ht3 : 0 ≤ (idx (krows G) (k : Int)).t.up → (idx (krows G) (idx (krows G) (k : Int)).t.up).t = idx G.flatten (idx (krows G) (k : Int)).t.up := fun q => krows_t q (by omega)
          refine W_skip ?_
          refine Fin_then ?_
          refine W_seq ?_
          refine W_block ?_
          refine W_seq ?_
          refine W_region ?_  -- R15 l1_kin.go:107
          refine WL_step (S_plain (O_index ts59 (by omega)) ⟨T1 rfl, T1 rfl, trivial⟩ rfl rfl) ?_
          refine WL_step (S_plain (O_loadgw tg62 rfl) ⟨T1 rfl, trivial⟩ rfl rfl) ?_
          refine WL_alloc tz62 rfl fun b8 => ?_
          refine WL_store 0 rfl ⟨T1 rfl, T1 rfl, trivial⟩ (CellsOf.agg (by exact ⟨OneV.int, OneV.int, OneV.bool, OneV.sl, OneV.int, OneV.int, trivial⟩)) sz62 (Nat.le_of_ble_eq_true rfl) ?_
          refine WL_nil ?_
          refine Fin_then ?_
          refine W_seq ?_
          refine W_draw 21 mix rfl rfl ?_  -- R16 l1_kin.go:108
          refine Chain_cons (S_plain (O_fieldv tf62_0) ⟨T1 rfl, trivial⟩ rfl rfl) ?_
          refine Chain_cons (S_plain (O_fieldv tf29_1) ⟨T1 rfl, trivial⟩ rfl rfl) ?_
          refine Chain_cons (S_plain (O_loado 0 ta3 rfl rfl) ⟨T1 rfl, trivial⟩ rfl rfl) ?_
          refine Chain_cons (S_plain O_geq ⟨T1 rfl, C1, trivial⟩ rfl rfl) ?_
          refine Chain_cons (S_plain O_move ⟨T1 rfl, trivial⟩ rfl rfl) ?_
          refine Chain_cons (S_t1 rfl rfl (fun hc => O_move) ⟨⟨_, rfl, (by first | exact fun _ _ => rfl | exact fun h _ => h | exact fun _ h => h | exact fun h k => band h k | exact fun h _ => bandl h | exact fun h _ => bandr h)⟩, trivial⟩ rfl rfl rfl) ?_
          refine Chain_cons (S_t1 rfl rfl (fun hc => (O_fieldv tf62_0)) ⟨⟨_, rfl, (by first | exact fun _ _ => rfl | exact fun h _ => h | exact fun _ h => h | exact fun h k => band h k | exact fun h _ => bandl h | exact fun h _ => bandr h)⟩, trivial⟩ rfl rfl rfl) ?_
          refine Chain_cons (S_t1 rfl rfl (fun hc => (O_loadog 0 tg29 rfl (Nat.le_of_ble_eq_true rfl))) ⟨⟨_, rfl, (by first | exact fun _ _ => rfl | exact fun h _ => h | exact fun _ h => h | exact fun h k => band h k | exact fun h _ => bandl h | exact fun h _ => bandr h)⟩, trivial⟩ rfl rfl rfl) ?_
          refine Chain_cons (S_t1 rfl rfl (fun hc => O_move) ⟨⟨_, rfl, (by first | exact fun _ _ => rfl | exact fun h _ => h | exact fun _ h => h | exact fun h k => band h k | exact fun h _ => bandl h | exact fun h _ => bandr h)⟩, trivial⟩ rfl rfl rfl) ?_
          refine Chain_cons (S_t1 rfl rfl (fun hc => O_nilCheck) ⟨⟨_, rfl, (by first | exact fun _ _ => rfl | exact fun h _ => h | exact fun _ h => h | exact fun h k => band h k | exact fun h _ => bandl h | exact fun h _ => bandr h)⟩, trivial⟩ rfl rfl rfl) ?_
          refine Chain_cons (S_t1 rfl rfl (fun hc => (O_field tf66_0)) ⟨⟨_, rfl, (by first | exact fun _ _ => rfl | exact fun h _ => h | exact fun _ h => h | exact fun h k => band h k | exact fun h _ => bandl h | exact fun h _ => bandr h)⟩, trivial⟩ rfl rfl rfl) ?_
          refine Chain_cons (S_t1 rfl rfl (fun hc => (O_load ta59)) ⟨⟨_, rfl, (by first | exact fun _ _ => rfl | exact fun h _ => h | exact fun _ h => h | exact fun h k => band h k | exact fun h _ => bandl h | exact fun h _ => bandr h)⟩, trivial⟩ rfl rfl rfl) ?_
          refine Chain_cons (S_t1 rfl rfl (fun hc => (O_fieldv tf62_0)) ⟨⟨_, rfl, (by first | exact fun _ _ => rfl | exact fun h _ => h | exact fun _ h => h | exact fun h k => band h k | exact fun h _ => bandl h | exact fun h _ => bandr h)⟩, trivial⟩ rfl rfl rfl) ?_
          refine Chain_cons (S_t1 rfl rfl (fun hc => (O_fieldv tf29_1)) ⟨⟨_, rfl, (by first | exact fun _ _ => rfl | exact fun h _ => h | exact fun _ h => h | exact fun h k => band h k | exact fun h _ => bandl h | exact fun h _ => bandr h)⟩, trivial⟩ rfl rfl rfl) ?_
          refine Chain_cons (S_t1 rfl rfl (fun hc => (O_loado 0 ta3 rfl rfl)) ⟨⟨_, rfl, (by first | exact fun _ _ => rfl | exact fun h _ => h | exact fun _ h => h | exact fun h k => band h k | exact fun h _ => bandl h | exact fun h _ => bandr h)⟩, trivial⟩ rfl rfl rfl) ?_
          refine Chain_cons (S_t1 rfl rfl (fun hc => (O_index ts59 (by (try simp only [bl] at hc); omega))) ⟨⟨_, rfl, (by first | exact fun _ _ => rfl | exact fun h _ => h | exact fun _ h => h | exact fun h k => band h k | exact fun h _ => bandl h | exact fun h _ => bandr h)⟩, ⟨_, rfl, (by first | exact fun _ _ => rfl | exact fun h _ => h | exact fun _ h => h | exact fun h k => band h k | exact fun h _ => bandl h | exact fun h _ => bandr h)⟩, trivial⟩ rfl rfl rfl) ?_
          refine Chain_cons (S_t1 rfl rfl (fun hc => (O_field tf62_0)) ⟨⟨_, rfl, (by first | exact fun _ _ => rfl | exact fun h _ => h | exact fun _ h => h | exact fun h k => band h k | exact fun h _ => bandl h | exact fun h _ => bandr h)⟩, trivial⟩ rfl rfl rfl) ?_
          refine Chain_cons (S_t1 rfl rfl (fun hc => (O_loadg tg29 (Nat.le_of_ble_eq_true rfl))) ⟨⟨_, rfl, (by first | exact fun _ _ => rfl | exact fun h _ => h | exact fun _ h => h | exact fun h k => band h k | exact fun h _ => bandl h | exact fun h _ => bandr h)⟩, trivial⟩ rfl rfl rfl) ?_
          refine Chain_cons (S_t1 rfl rfl (fun hc => (O_call cf62 (impl_extends G hK (idx (krows G) (k : Int)).t (idx (krows G) (idx (krows G) (k : Int)).t.up).t (hK.flds (by omega) (by omega)) (hK.flds (by (try simp at hc); omega) (by (try simp at hc); omega))) rfl)) ⟨⟨_, rfl, (by first | exact fun _ _ => rfl | exact fun h _ => h | exact fun _ h => h | exact fun h k => band h k | exact fun h _ => bandl h | exact fun h _ => bandr h)⟩, ⟨_, rfl, (by first | exact fun _ _ => rfl | exact fun h _ => h | exact fun _ h => h | exact fun h k => band h k | exact fun h _ => bandl h | exact fun h _ => bandr h)⟩, ⟨_, rfl, (by first | exact fun _ _ => rfl | exact fun h _ => h | exact fun _ h => h | exact fun h k => band h k | exact fun h _ => bandl h | exact fun h _ => bandr h)⟩, trivial⟩ rfl rfl rfl) ?_
          refine Chain_cons (S_t1 rfl rfl (fun hc => O_not) ⟨⟨_, rfl, (by first | exact fun _ _ => rfl | exact fun h _ => h | exact fun _ h => h | exact fun h k => band h k | exact fun h _ => bandl h | exact fun h _ => bandr h)⟩, trivial⟩ rfl rfl rfl) ?_
          refine Chain_cons (S_plain O_and ⟨T1 rfl, ⟨_, rfl, (by first | exact fun _ _ => rfl | exact fun h _ => h | exact fun _ h => h | exact fun h k => band h k | exact fun h _ => bandl h | exact fun h _ => bandr h)⟩, trivial⟩ rfl rfl) ?_
          refine Chain_nil ?_
          refine WL_nil ?_
          refine Fin_then ?_
          refine W_cond rfl (fun h5 => ?_) (fun h5 => ?_)
          · skip
            try simp only [bl] at h5
            refine W_seq ?_
            refine W_region ?_  -- R17 l1_kin.go:109
            refine WL_ac rfl ?_
            refine WL_ac rfl ?_
            refine WL_nil ?_
            refine Fin_then ?_
            refine W_ret ?_
            refine Fin_block_ret ?_
            refine Fin_then_ret ?_
            refine Fin_then_ret ?_
            refine Fin_block_ret ?_
            refine Fin_then_ret ?_
            have hno : kinOk G = false := by rw [kinOk_eq, allN_false k (by omega) (by unfold kext; rw [← ht2]; grind)]; simp
            exact RetC rfl (Res2 rfl (RV.tmp rfl (kOpt_no hno)) (RV.tmp rfl (Imp.bool hno.symm)))
          · skip
            try simp only [bl] at h5
            refine W_skip ?_
            refine Fin_block ?_
            refine Fin_then ?_
            refine W_region ?_  -- R18 l1_kin.go:107
            refine WL_step (S_plain (O_add (by omega)) ⟨T1 rfl, C1, trivial⟩ rfl rfl) ?_
            refine WL_mv rfl rfl ?_
            refine WL_nil ?_
            exact Fin_backp [] (k + 1) ⟨by omega, fun j hj => by rcases Nat.lt_or_ge j k with q | q; exact hx.2 j q; rw [show j = k from by omega]; unfold kext; rw [← ht2]; grind⟩ (by omega) ⟨⟨rfl, _, rfl, (by first | exact Imp.refl | exact Imp.slv | exact Imp.nil | exact Imp.int (by omega) | exact Imp.int (by simp; done) | exact Imp.bool (by simp_all; done))⟩, trivial⟩ ⟨rfl, rfl, rfl, trivial⟩ OSub.nil rfl (List.Sublist.refl _) rfl
        · skip
          try simp only [bl] at h4
          refine W_exit ?_
          refine Fin_then_exit ?_
          refine Fin_then_exit ?_
          refine Fin_block_exit ?_
          refine Fin_then ?_
          refine W_seq ?_
          refine W_region ?_  -- R19 l1_kin.go:112
          refine WL_mv rfl rfl ?_
          refine WL_as rfl rfl ?_
          refine WL_ac rfl ?_
          refine WL_nil ?_
          refine Fin_then ?_
          refine W_ret ?_
          have hyes : kinOk G = true := by rw [kinOk_eq, hkp, allN_true (fun j hj => hx.2 j (by omega))]; rfl
          exact RetC rfl (Res2 rfl (RV.tmp rfl (kOpt_yes (G := G) hyes)) (RV.tmp rfl (Imp.bool hyes.symm)))
end Go.Proofs.Ytilddfgifjejbaa
