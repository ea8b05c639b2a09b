import Derived.Test.YtilddfgifjejbaaRows
import Derived.Test.YtilddfgifjejbaaCal10
import Derived.Test.YtilddfgifjejbaaPure1
import Derived.Test.YtilddfgifjejbaaPure2
import Derived.Test.YtilddfgifjejbaaPure3
import Derived.Test.YtilddfgifjejbaaPure4
import Derived.Test.YtilddfgifjejbaaA1
import Derived.Test.YtilddfgifjejbaaA5
import Derived.Test.YtilddfgifjejbaaA6
import Derived.Test.YtilddfgifjejbaaA7
import Derived.Test.YtilddfgifjejbaaA8
import Derived.Test.YtilddfgifjejbaaA9
import Derived.Test.YtilddfgifjejbaaA10
namespace Go.Proofs.Ytilddfgifjejbaa.A11
open Go Go.RowKit Go.L
theorem mix : Try.prog.follows .mixedOrders = true := by kernel_rfl
theorem cf36 : CallF Try.prog 36 := fun w vs => by kernel_rfl
theorem cf37 : CallF Try.prog 37 := fun w vs => by kernel_rfl
theorem cf40 : CallF Try.prog 40 := fun w vs => by kernel_rfl
theorem cf42 : CallF Try.prog 42 := fun w vs => by kernel_rfl
theorem cf47 : CallF Try.prog 47 := fun w vs => by kernel_rfl
theorem cf48 : CallF Try.prog 48 := fun w vs => by kernel_rfl
theorem cf49 : CallF Try.prog 49 := fun w vs => by kernel_rfl
theorem ta3 : TA Try.prog 3 := by unfold TA; kernel_rfl
theorem ts42 : TS Try.prog 42 3 1 := ⟨by kernel_rfl, by kernel_rfl⟩
theorem ts59 : TS Try.prog 59 62 6 := ⟨by kernel_rfl, by kernel_rfl⟩
end Go.Proofs.Ytilddfgifjejbaa.A11
namespace Go.Proofs.Ytilddfgifjejbaa
open Go Go.RowKit Go.L A11
theorem impl_isType_opt {ok : Bool} {L : List Row} {c : List Int} {n : Int} (h : ok = true) : FnC Try.prog 42 [kOpt ok L c, A.int n] (A.bool (decide (0 ≤ n) && decide (n < L.length))) := by
  unfold kOpt; rw [if_pos h]; exact impl_isType L c n
theorem impl_under_opt {G : Kin} (hG : Small G) {a b : Int} (h : kinOk G = true) : FnC Try.prog 37 [kOpt (kinOk G) (krows G) (canonL G), A.int a, A.int b] (A.bool (kunderI G a b)) := by
  unfold kOpt; rw [if_pos h]; exact impl_under G (KG.of hG h) a b
theorem impl_line_opt {ok : Bool} {L : List Row} {c : List Int} {a : Int} (h : ok = true) : FnX Try.prog 48 {} [kOpt ok L c, A.int a] (fun b : Nat => A.cl 69 [A.val (.pointer (some ⟨b, 0, none⟩)), A.pt [kP L c]]) (fun b : Nat => { own := [(b, 3, [A.int a])] }) := by
  unfold kOpt; rw [if_pos h]; exact impl_line L c a
set_option maxRecDepth 8000 in
theorem impl_KinLine (G : Kin) (hG : Small G) (a : Int) (hv : kinOk G = true ∧ 0 ≤ a ∧ a < kcnt G) : FnX Try.prog 21 {} [A.sl 1 cGrp G, A.int a] (fun x : Nat × Nat × Nat => A.st ((kinLine G a).length ≤ x.2.1 ∧ x.2.1 ≤ maxLen) (A.os x.1 (kinLine G a).length x.2.1)) (fun x : Nat × Nat × Nat => { own := [(x.1, 3, (kinLine G a).map A.int ++ List.replicate x.2.2 A.any)] }) := by
  have hn := krows_cnt G
  have hcl := canonL_len G
  have hK := KG.of hG hv.1
  have hll := cline_len G a
  have hle := cline_length G a
  have hc8 := hK.ok.cnt
  refine FnX_of_W Try.func21 rfl rfl fun r w => ?_
  refine W_seq ?_
  refine W_region ?_  -- R0 l1_kin.go:259
  refine WL_ac rfl ?_
  refine WL_nil ?_
  refine Fin_then ?_
  refine W_seq ?_
  refine W_region ?_  -- R1 l1_kin.go:260
  refine WL_mv rfl rfl ?_
  refine WL_step (S_plain (O_call cf36 (impl_readKin _ (by assumption)) rfl) ⟨T1 rfl, trivial⟩ rfl rfl) ?_
  refine WL_mv rfl rfl ?_
  refine WL_step (S_plain (O_extract rfl) ⟨T1 rfl, trivial⟩ rfl rfl) ?_
  refine WL_step (S_plain (O_extract rfl) ⟨T1 rfl, trivial⟩ rfl rfl) ?_
  refine WL_as rfl rfl ?_
  refine WL_as rfl rfl ?_
  refine WL_nil ?_
  refine Fin_then ?_
  refine W_seq ?_
  refine W_seq ?_
  refine W_region ?_  -- R2 l1_kin.go:261
  refine WL_mv rfl rfl ?_
  refine WL_step (S_plain O_not ⟨T1 rfl, trivial⟩ rfl rfl) ?_
  refine WL_mv rfl rfl ?_
  refine WL_step (S_f1 rfl rfl (fun hc => O_move) ⟨⟨_, rfl, (by first | exact fun _ _ => rfl | exact fun h _ => h | exact fun _ h => h | exact fun h k => band h k | exact fun h _ => bandl h | exact fun h _ => bandr h)⟩, trivial⟩ rfl rfl rfl) ?_
  refine WL_step (S_f1 rfl rfl (fun hc => O_move) ⟨⟨_, rfl, (by first | exact fun _ _ => rfl | exact fun h _ => h | exact fun _ h => h | exact fun h k => band h k | exact fun h _ => bandl h | exact fun h _ => bandr h)⟩, trivial⟩ rfl rfl rfl) ?_
  refine WL_step (S_f1 rfl rfl (fun hc => (O_call cf42 (impl_isType_opt (by (try simp only [bl] at hc); omega)) rfl)) ⟨⟨_, rfl, (by first | exact fun _ _ => rfl | exact fun h _ => h | exact fun _ h => h | exact fun h k => band h k | exact fun h _ => bandl h | exact fun h _ => bandr h)⟩, ⟨_, rfl, (by first | exact fun _ _ => rfl | exact fun h _ => h | exact fun _ h => h | exact fun h k => band h k | exact fun h _ => bandl h | exact fun h _ => bandr h)⟩, trivial⟩ rfl rfl rfl) ?_
  refine WL_step (S_f1 rfl rfl (fun hc => O_not) ⟨⟨_, rfl, (by first | exact fun _ _ => rfl | exact fun h _ => h | exact fun _ h => h | exact fun h k => band h k | exact fun h _ => bandl h | exact fun h _ => bandr h)⟩, trivial⟩ rfl rfl rfl) ?_
  refine WL_step (S_plain O_or ⟨T1 rfl, ⟨_, rfl, (by first | exact fun _ _ => rfl | exact fun h _ => h | exact fun _ h => h | exact fun h k => band h k | exact fun h _ => bandl h | exact fun h _ => bandr h)⟩, trivial⟩ rfl rfl) ?_
  refine WL_nil ?_
  refine Fin_then ?_
  refine W_cond rfl (fun h0 => ?_) (fun h0 => ?_)
  · skip
    try simp only [bl] at h0
    exfalso; grind
  · skip
    try simp only [bl] at h0
    refine W_skip ?_
    refine Fin_then ?_
    refine W_seq ?_
    refine W_region ?_  -- R4 l1_kin.go:264
    refine WL_mv rfl rfl ?_
    refine WL_mv rfl rfl ?_
    refine WL_callX [] [] [] cf48 (impl_line_opt hv.1) rfl ⟨T1 rfl, T1 rfl, trivial⟩ OSub.nil rfl rfl rfl rfl fun x23 => ?_
    refine WL_callX [0] [] [] cf47 (collect_line _ G hK a hv.2.1 hv.2.2) rfl ⟨T1 rfl, trivial⟩ (.cons AllImp.refl .nil) rfl rfl rfl rfl fun x24 => ?_
    refine WL_st 24 rfl fun hq24 => ?_
    refine WL_as rfl rfl ?_
    refine WL_nil ?_
    refine Fin_then ?_
    refine W_seq ?_
    refine W_region ?_  -- R5 l1_kin.go:265
    refine WL_mv rfl rfl ?_
    refine WL_callX [0] [] [] cf49 (reverse_int _ _ _ _ _ (by omega) (by omega)) rfl ⟨T1 rfl, trivial⟩ (.cons AllImp.refl .nil) rfl rfl rfl rfl fun x26 => ?_
    refine WL_nil ?_
    refine Fin_then ?_
    refine W_seq ?_
    refine W_region ?_  -- R6 l1_kin.go:266
    refine WL_mv rfl rfl ?_
    refine WL_as rfl rfl ?_
    refine WL_nil ?_
    refine Fin_then ?_
    refine W_ret ?_
    exact RetXs [0] x24 rfl (Res1 rfl (RV.tmp rfl (Imp.trans (Imp.eq (by rw [hle])) (Imp.st (by rw [← hle]; exact hq24))))) (.cons (AllImp.eq (by rw [cline_eq hK hv.2.2])) .nil) rfl (List.Sublist.refl _) (List.Sublist.refl _)
set_option maxRecDepth 8000 in
theorem impl_KinLine_no (G : Kin) (hG : Small G) (a : Int) (hv : ¬ (kinOk G = true ∧ 0 ≤ a ∧ a < kcnt G)) : FnC Try.prog 21 [A.sl 1 cGrp G, A.int a] (A.val (.slice none 0 0)) := by
  have hn := krows_cnt G
  have hcl := canonL_len G
  refine Fn_of_W Try.func21 rfl rfl fun r w => ?_
  refine W_seq ?_
  refine W_region ?_  -- R0 l1_kin.go:259
  refine WL_ac rfl ?_
  refine WL_nil ?_
  refine Fin_then ?_
  refine W_seq ?_
  refine W_region ?_  -- R1 l1_kin.go:260
  refine WL_mv rfl rfl ?_
  refine WL_step (S_plain (O_call cf36 (impl_readKin _ (by assumption)) rfl) ⟨T1 rfl, trivial⟩ rfl rfl) ?_
  refine WL_mv rfl rfl ?_
  refine WL_step (S_plain (O_extract rfl) ⟨T1 rfl, trivial⟩ rfl rfl) ?_
  refine WL_step (S_plain (O_extract rfl) ⟨T1 rfl, trivial⟩ rfl rfl) ?_
  refine WL_as rfl rfl ?_
  refine WL_as rfl rfl ?_
  refine WL_nil ?_
  refine Fin_then ?_
  refine W_seq ?_
  refine W_seq ?_
  refine W_region ?_  -- R2 l1_kin.go:261
  refine WL_mv rfl rfl ?_
  refine WL_step (S_plain O_not ⟨T1 rfl, trivial⟩ rfl rfl) ?_
  refine WL_mv rfl rfl ?_
  refine WL_step (S_f1 rfl rfl (fun hc => O_move) ⟨⟨_, rfl, (by first | exact fun _ _ => rfl | exact fun h _ => h | exact fun _ h => h | exact fun h k => band h k | exact fun h _ => bandl h | exact fun h _ => bandr h)⟩, trivial⟩ rfl rfl rfl) ?_
  refine WL_step (S_f1 rfl rfl (fun hc => O_move) ⟨⟨_, rfl, (by first | exact fun _ _ => rfl | exact fun h _ => h | exact fun _ h => h | exact fun h k => band h k | exact fun h _ => bandl h | exact fun h _ => bandr h)⟩, trivial⟩ rfl rfl rfl) ?_
  refine WL_step (S_f1 rfl rfl (fun hc => (O_call cf42 (impl_isType_opt (by (try simp only [bl] at hc); omega)) rfl)) ⟨⟨_, rfl, (by first | exact fun _ _ => rfl | exact fun h _ => h | exact fun _ h => h | exact fun h k => band h k | exact fun h _ => bandl h | exact fun h _ => bandr h)⟩, ⟨_, rfl, (by first | exact fun _ _ => rfl | exact fun h _ => h | exact fun _ h => h | exact fun h k => band h k | exact fun h _ => bandl h | exact fun h _ => bandr h)⟩, trivial⟩ rfl rfl rfl) ?_
  refine WL_step (S_f1 rfl rfl (fun hc => O_not) ⟨⟨_, rfl, (by first | exact fun _ _ => rfl | exact fun h _ => h | exact fun _ h => h | exact fun h k => band h k | exact fun h _ => bandl h | exact fun h _ => bandr h)⟩, trivial⟩ rfl rfl rfl) ?_
  refine WL_step (S_plain O_or ⟨T1 rfl, ⟨_, rfl, (by first | exact fun _ _ => rfl | exact fun h _ => h | exact fun _ h => h | exact fun h k => band h k | exact fun h _ => bandl h | exact fun h _ => bandr h)⟩, trivial⟩ rfl rfl) ?_
  refine WL_nil ?_
  refine Fin_then ?_
  refine W_cond rfl (fun h0 => ?_) (fun h0 => ?_)
  · skip
    try simp only [bl] at h0
    refine W_seq ?_
    refine W_region ?_  -- R3 l1_kin.go:262
    refine WL_ac rfl ?_
    refine WL_nil ?_
    refine Fin_then ?_
    refine W_ret ?_
    refine Fin_then_ret ?_
    exact RetC rfl (Res1 rfl (RV.tmp rfl (by first | exact Imp.refl | exact Imp.slv | exact Imp.nil | exact Imp.int (by omega) | exact Imp.int (by simp; done) | exact Imp.bool (by simp_all; done))))
  · skip
    try simp only [bl] at h0
    exfalso; grind
set_option maxRecDepth 8000 in
theorem impl_KinCount (G : Kin) (hG : Small G) : FnC Try.prog 17 [A.sl 1 cGrp G] (A.int (kcnt G)) := by
  have hn := krows_cnt G
  have hcl := canonL_len G
  refine Fn_of_W Try.func17 rfl rfl fun r w => ?_
  refine W_seq ?_
  refine W_region ?_  -- R0 l1_kin.go:218
  refine WL_ac rfl ?_
  refine WL_nil ?_
  refine Fin_then ?_
  refine W_seq ?_
  refine W_region ?_  -- R1 l1_kin.go:218
  refine WL_mv rfl rfl ?_
  refine WL_step (S_plain (O_call cf40 (impl_flatten _ (by assumption)) rfl) ⟨T1 rfl, trivial⟩ rfl rfl) ?_
  refine WL_len ts59 rfl rfl fun hl5 => ?_
  refine WL_as rfl rfl ?_
  refine WL_nil ?_
  refine Fin_then ?_
  refine W_ret ?_
  exact RetC rfl (Res1 rfl (RV.tmp rfl (Imp.int (by omega))))
set_option maxRecDepth 8000 in
theorem impl_KinOk (G : Kin) (hG : Small G) : FnC Try.prog 15 [A.sl 1 cGrp G] (A.bool (kinOk G)) := by
  refine Fn_of_W Try.func15 rfl rfl fun r w => ?_
  refine W_seq ?_
  refine W_region ?_  -- R0 l1_kin.go:232
  refine WL_ac rfl ?_
  refine WL_nil ?_
  refine Fin_then ?_
  refine W_seq ?_
  refine W_region ?_  -- R1 l1_kin.go:233
  refine WL_mv rfl rfl ?_
  refine WL_step (S_plain (O_call cf36 (impl_readKin _ (by assumption)) rfl) ⟨T1 rfl, trivial⟩ rfl rfl) ?_
  refine WL_mv rfl rfl ?_
  refine WL_step (S_plain (O_extract rfl) ⟨T1 rfl, trivial⟩ rfl rfl) ?_
  refine WL_step (S_plain (O_extract rfl) ⟨T1 rfl, trivial⟩ rfl rfl) ?_
  refine WL_as rfl rfl ?_
  refine WL_as rfl rfl ?_
  refine WL_nil ?_
  refine Fin_then ?_
  refine W_seq ?_
  refine W_region ?_  -- R2 l1_kin.go:234
  refine WL_mv rfl rfl ?_
  refine WL_as rfl rfl ?_
  refine WL_nil ?_
  refine Fin_then ?_
  refine W_ret ?_
  exact RetC rfl (Res1 rfl (RV.tmp rfl (by first | exact Imp.refl | exact Imp.slv | exact Imp.nil | exact Imp.int (by omega) | exact Imp.int (by simp; done) | exact Imp.bool (by simp_all; done))))
set_option maxRecDepth 8000 in
theorem impl_KinUnder (G : Kin) (hG : Small G) (a b : Int) : FnC Try.prog 9 [A.sl 1 cGrp G, A.int a, A.int b] (A.bool (kinUnder G a b)) := by
  refine Fn_of_W Try.func9 rfl rfl fun r w => ?_
  refine W_seq ?_
  refine W_region ?_  -- R0 l1_kin.go:244
  refine WL_ac rfl ?_
  refine WL_nil ?_
  refine Fin_then ?_
  refine W_seq ?_
  refine W_region ?_  -- R1 l1_kin.go:245
  refine WL_mv rfl rfl ?_
  refine WL_step (S_plain (O_call cf36 (impl_readKin _ (by assumption)) rfl) ⟨T1 rfl, trivial⟩ rfl rfl) ?_
  refine WL_mv rfl rfl ?_
  refine WL_step (S_plain (O_extract rfl) ⟨T1 rfl, trivial⟩ rfl rfl) ?_
  refine WL_step (S_plain (O_extract rfl) ⟨T1 rfl, trivial⟩ rfl rfl) ?_
  refine WL_as rfl rfl ?_
  refine WL_as rfl rfl ?_
  refine WL_nil ?_
  refine Fin_then ?_
  refine W_seq ?_
  refine W_region ?_  -- R2 l1_kin.go:246
  refine WL_mv rfl rfl ?_
  refine WL_mv rfl rfl ?_
  refine WL_step (S_t1 rfl rfl (fun hc => O_move) ⟨⟨_, rfl, (by first | exact fun _ _ => rfl | exact fun h _ => h | exact fun _ h => h | exact fun h k => band h k | exact fun h _ => bandl h | exact fun h _ => bandr h)⟩, trivial⟩ rfl rfl rfl) ?_
  refine WL_step (S_t1 rfl rfl (fun hc => O_move) ⟨⟨_, rfl, (by first | exact fun _ _ => rfl | exact fun h _ => h | exact fun _ h => h | exact fun h k => band h k | exact fun h _ => bandl h | exact fun h _ => bandr h)⟩, trivial⟩ rfl rfl rfl) ?_
  refine WL_step (S_t1 rfl rfl (fun hc => O_move) ⟨⟨_, rfl, (by first | exact fun _ _ => rfl | exact fun h _ => h | exact fun _ h => h | exact fun h k => band h k | exact fun h _ => bandl h | exact fun h _ => bandr h)⟩, trivial⟩ rfl rfl rfl) ?_
  refine WL_step (S_t1 rfl rfl (fun hc => (O_call cf37 (impl_under_opt (by assumption) (by (try simp only [bl] at hc); omega)) rfl)) ⟨⟨_, rfl, (by first | exact fun _ _ => rfl | exact fun h _ => h | exact fun _ h => h | exact fun h k => band h k | exact fun h _ => bandl h | exact fun h _ => bandr h)⟩, ⟨_, rfl, (by first | exact fun _ _ => rfl | exact fun h _ => h | exact fun _ h => h | exact fun h k => band h k | exact fun h _ => bandl h | exact fun h _ => bandr h)⟩, ⟨_, rfl, (by first | exact fun _ _ => rfl | exact fun h _ => h | exact fun _ h => h | exact fun h k => band h k | exact fun h _ => bandl h | exact fun h _ => bandr h)⟩, trivial⟩ rfl rfl rfl) ?_
  refine WL_step (S_plain O_and ⟨T1 rfl, ⟨_, rfl, (by first | exact fun _ _ => rfl | exact fun h _ => h | exact fun _ h => h | exact fun h k => band h k | exact fun h _ => bandl h | exact fun h _ => bandr h)⟩, trivial⟩ rfl rfl) ?_
  refine WL_as rfl rfl ?_
  refine WL_nil ?_
  refine Fin_then ?_
  refine W_ret ?_
  exact RetC rfl (Res1 rfl (RV.tmp rfl (Imp.bool (by unfold kinUnder kunderI; grind))))
set_option maxRecDepth 8000 in
theorem impl_KinIn (l t : List Int) : FnC Try.prog 30 [A.sl 1 cInt l, A.sl 1 cInt t] (A.bool (kinIn l t)) := by
  refine Fn_of_W Try.func30 rfl rfl fun r w => ?_
  refine W_seq ?_
  refine W_region ?_  -- R0 l1_kin.go:270
  refine WL_ac rfl ?_
  refine WL_nil ?_
  refine Fin_then ?_
  refine W_seq ?_
  refine W_region ?_  -- R1 l1_kin.go:271
  refine WL_mv rfl rfl ?_
  refine WL_len ts42 rfl rfl fun hl7 => ?_
  refine WL_step (S_plain (O_sub (by omega)) ⟨T1 rfl, C1, trivial⟩ rfl rfl) ?_
  refine WL_as rfl rfl ?_
  refine WL_nil ?_
  refine Fin_then ?_
  refine W_seq ?_
  refine W_draw 19 mix rfl rfl ?_  -- R2 l1_kin.go:272
  refine Chain_cons (S_plain O_move ⟨T1 rfl, trivial⟩ rfl rfl) ?_
  refine Chain_cons (S_plain O_geq ⟨T1 rfl, C1, trivial⟩ rfl rfl) ?_
  refine Chain_cons (S_plain O_move ⟨T1 rfl, trivial⟩ rfl rfl) ?_
  refine Chain_cons (S_t1 rfl rfl (fun hc => O_move) ⟨⟨_, rfl, (by first | exact fun _ _ => rfl | exact fun h _ => h | exact fun _ h => h | exact fun h k => band h k | exact fun h _ => bandl h | exact fun h _ => bandr h)⟩, trivial⟩ rfl rfl rfl) ?_
  refine Chain_cons (S_t1 rfl rfl (fun hc => (O_len ts42)) ⟨⟨_, rfl, (by first | exact fun _ _ => rfl | exact fun h _ => h | exact fun _ h => h | exact fun h k => band h k | exact fun h _ => bandl h | exact fun h _ => bandr h)⟩, trivial⟩ rfl rfl rfl) ?_
  refine Chain_cons (S_t1 rfl rfl (fun hc => O_move) ⟨⟨_, rfl, (by first | exact fun _ _ => rfl | exact fun h _ => h | exact fun _ h => h | exact fun h k => band h k | exact fun h _ => bandl h | exact fun h _ => bandr h)⟩, trivial⟩ rfl rfl rfl) ?_
  refine Chain_cons (S_t1 rfl rfl (fun hc => O_gtr) ⟨⟨_, rfl, (by first | exact fun _ _ => rfl | exact fun h _ => h | exact fun _ h => h | exact fun h k => band h k | exact fun h _ => bandl h | exact fun h _ => bandr h)⟩, ⟨_, rfl, (by first | exact fun _ _ => rfl | exact fun h _ => h | exact fun _ h => h | exact fun h k => band h k | exact fun h _ => bandl h | exact fun h _ => bandr h)⟩, trivial⟩ rfl rfl rfl) ?_
  refine Chain_cons (S_plain O_and ⟨T1 rfl, ⟨_, rfl, (by first | exact fun _ _ => rfl | exact fun h _ => h | exact fun _ h => h | exact fun h k => band h k | exact fun h _ => bandl h | exact fun h _ => bandr h)⟩, trivial⟩ rfl rfl) ?_
  refine Chain_cons (S_plain O_move ⟨T1 rfl, trivial⟩ rfl rfl) ?_
  refine Chain_cons (S_t1 rfl rfl (fun hc => O_move) ⟨⟨_, rfl, (by first | exact fun _ _ => rfl | exact fun h _ => h | exact fun _ h => h | exact fun h k => band h k | exact fun h _ => bandl h | exact fun h _ => bandr h)⟩, trivial⟩ rfl rfl rfl) ?_
  refine Chain_cons (S_t1 rfl rfl (fun hc => O_move) ⟨⟨_, rfl, (by first | exact fun _ _ => rfl | exact fun h _ => h | exact fun _ h => h | exact fun h k => band h k | exact fun h _ => bandl h | exact fun h _ => bandr h)⟩, trivial⟩ rfl rfl rfl) ?_
  refine Chain_cons (S_t1 rfl rfl (fun hc => (O_index ts42 (by (try simp only [bl] at hc); omega))) ⟨⟨_, rfl, (by first | exact fun _ _ => rfl | exact fun h _ => h | exact fun _ h => h | exact fun h k => band h k | exact fun h _ => bandl h | exact fun h _ => bandr h)⟩, ⟨_, rfl, (by first | exact fun _ _ => rfl | exact fun h _ => h | exact fun _ h => h | exact fun h k => band h k | exact fun h _ => bandl h | exact fun h _ => bandr h)⟩, trivial⟩ rfl rfl rfl) ?_
  refine Chain_cons (S_t1 rfl rfl (fun hc => (O_load ta3)) ⟨⟨_, rfl, (by first | exact fun _ _ => rfl | exact fun h _ => h | exact fun _ h => h | exact fun h k => band h k | exact fun h _ => bandl h | exact fun h _ => bandr h)⟩, trivial⟩ rfl rfl rfl) ?_
  refine Chain_cons (S_t1 rfl rfl (fun hc => O_move) ⟨⟨_, rfl, (by first | exact fun _ _ => rfl | exact fun h _ => h | exact fun _ h => h | exact fun h k => band h k | exact fun h _ => bandl h | exact fun h _ => bandr h)⟩, trivial⟩ rfl rfl rfl) ?_
  refine Chain_cons (S_t1 rfl rfl (fun hc => O_move) ⟨⟨_, rfl, (by first | exact fun _ _ => rfl | exact fun h _ => h | exact fun _ h => h | exact fun h k => band h k | exact fun h _ => bandl h | exact fun h _ => bandr h)⟩, trivial⟩ rfl rfl rfl) ?_
  refine Chain_cons (S_t1 rfl rfl (fun hc => (O_index ts42 (by (try simp only [bl] at hc); omega))) ⟨⟨_, rfl, (by first | exact fun _ _ => rfl | exact fun h _ => h | exact fun _ h => h | exact fun h k => band h k | exact fun h _ => bandl h | exact fun h _ => bandr h)⟩, ⟨_, rfl, (by first | exact fun _ _ => rfl | exact fun h _ => h | exact fun _ h => h | exact fun h k => band h k | exact fun h _ => bandl h | exact fun h _ => bandr h)⟩, trivial⟩ rfl rfl rfl) ?_
  refine Chain_cons (S_t1 rfl rfl (fun hc => (O_load ta3)) ⟨⟨_, rfl, (by first | exact fun _ _ => rfl | exact fun h _ => h | exact fun _ h => h | exact fun h k => band h k | exact fun h _ => bandl h | exact fun h _ => bandr h)⟩, trivial⟩ rfl rfl rfl) ?_
  refine Chain_cons (S_t1 rfl rfl (fun hc => O_eql) ⟨⟨_, rfl, (by first | exact fun _ _ => rfl | exact fun h _ => h | exact fun _ h => h | exact fun h k => band h k | exact fun h _ => bandl h | exact fun h _ => bandr h)⟩, ⟨_, rfl, (by first | exact fun _ _ => rfl | exact fun h _ => h | exact fun _ h => h | exact fun h k => band h k | exact fun h _ => bandl h | exact fun h _ => bandr h)⟩, trivial⟩ rfl rfl rfl) ?_
  refine Chain_cons (S_plain O_and ⟨T1 rfl, ⟨_, rfl, (by first | exact fun _ _ => rfl | exact fun h _ => h | exact fun _ h => h | exact fun h k => band h k | exact fun h _ => bandl h | exact fun h _ => bandr h)⟩, trivial⟩ rfl rfl) ?_
  refine Chain_nil ?_
  refine WL_as rfl rfl ?_
  refine WL_nil ?_
  refine Fin_then ?_
  refine W_ret ?_
  exact RetC rfl (Res1 rfl (RV.tmp rfl (Imp.bool (by unfold kinIn; grind))))
end Go.Proofs.Ytilddfgifjejbaa
