import Derived.Test.YtilddfgifjejbaaRows
import Derived.Test.YtilddfgifjejbaaPure1
namespace Go.Proofs.Ytilddfgifjejbaa.A1
open Go Go.RowKit Go.L
theorem mix : Try.prog.follows .mixedOrders = true := by kernel_rfl
theorem cf34 : CallF Try.prog 34 := fun w vs => by kernel_rfl
theorem cf39 : CallF Try.prog 39 := fun w vs => by kernel_rfl
theorem cf44 : CallF Try.prog 44 := fun w vs => by kernel_rfl
theorem cf45 : CallF Try.prog 45 := fun w vs => by kernel_rfl
theorem cf46 : CallF Try.prog 46 := fun w vs => by kernel_rfl
theorem cf63 : CallF Try.prog 63 := fun w vs => by kernel_rfl
theorem cf65 : CallF Try.prog 65 := fun w vs => by kernel_rfl
theorem cf66 : CallF Try.prog 66 := fun w vs => by kernel_rfl
theorem cf67 : CallF Try.prog 67 := fun w vs => by kernel_rfl
theorem cf82 : CallF Try.prog 82 := fun w vs => by kernel_rfl
theorem cf83 : CallF Try.prog 83 := fun w vs => by kernel_rfl
theorem cf84 : CallF Try.prog 84 := fun w vs => by kernel_rfl
theorem cf85 : CallF Try.prog 85 := fun w vs => by kernel_rfl
theorem cf94 : CallF Try.prog 94 := fun w vs => by kernel_rfl
theorem ta27 : TA Try.prog 27 := by unfold TA; kernel_rfl
theorem ta3 : TA Try.prog 3 := by unfold TA; kernel_rfl
theorem ta38 : TA Try.prog 38 := by unfold TA; kernel_rfl
theorem ta4 : TA Try.prog 4 := by unfold TA; kernel_rfl
theorem tez38 : TEZ Try.prog 38 29 4 48 [.int .i64 0, .int .i64 0, .bool false, .slice none 0 0] := ⟨by kernel_rfl, by kernel_rfl⟩
theorem te38 : TE Try.prog 38 29 4 48 := tez38.te rfl
theorem tf29_0 : TF Try.prog 29 0 0 := by unfold TF; kernel_rfl
theorem tf29_1 : TF Try.prog 29 1 1 := by unfold TF; kernel_rfl
theorem tf29_2 : TF Try.prog 29 2 2 := by unfold TF; kernel_rfl
theorem tf29_3 : TF Try.prog 29 3 3 := by unfold TF; kernel_rfl
theorem tf33_0 : TF Try.prog 33 0 0 := by unfold TF; kernel_rfl
theorem tf33_1 : TF Try.prog 33 1 1 := by unfold TF; kernel_rfl
theorem tf33_2 : TF Try.prog 33 2 2 := by unfold TF; kernel_rfl
theorem tg29 : TG Try.prog 29 4 := ⟨by kernel_rfl, by kernel_rfl⟩
theorem tg33 : TG Try.prog 33 3 := ⟨by kernel_rfl, by kernel_rfl⟩
theorem ts23 : TS Try.prog 23 38 1 := ⟨by kernel_rfl, by kernel_rfl⟩
theorem ts27 : TS Try.prog 27 33 3 := ⟨by kernel_rfl, by kernel_rfl⟩
theorem ts38 : TS Try.prog 38 29 4 := ⟨by kernel_rfl, by kernel_rfl⟩
theorem ub4 : Try.prog.underlying 4 = some .bool := by kernel_rfl
end Go.Proofs.Ytilddfgifjejbaa.A1
namespace Go.Proofs.Ytilddfgifjejbaa
open Go Go.RowKit Go.L A1
set_option maxRecDepth 8000 in
theorem spec_FieldOk (f : Fld) (n : Int) : FnC Try.prog 84 [A.agg (cFld f), A.int n] (A.bool (fieldOk f n)) := by
  refine Fn_of_W Try.func84 rfl rfl fun r w => ?_
  refine W_seq ?_
  refine W_region ?_  -- R0 l1_kin.go:71
  refine WL_step (S_plain O_boxg ⟨T1 rfl, trivial⟩ rfl rfl) ?_
  refine WL_ac rfl ?_
  refine WL_nil ?_
  refine Fin_then ?_
  refine W_seq ?_
  refine W_seq ?_
  refine W_region ?_  -- R1 l1_kin.go:72
  refine WL_step (S_plain (O_field tf33_0) ⟨T1 rfl, trivial⟩ rfl rfl) ?_
  refine WL_step (S_plain (O_load ta3) ⟨T1 rfl, trivial⟩ rfl rfl) ?_
  refine WL_nil ?_
  refine Fin_then ?_
  refine W_block ?_
  refine W_seq ?_
  refine W_region ?_  -- R2 l1_kin.go:73
  refine WL_step (S_plain O_eql ⟨T1 rfl, C1, trivial⟩ rfl rfl) ?_
  refine WL_as rfl rfl ?_
  refine WL_nil ?_
  refine Fin_then ?_
  refine W_cond rfl (fun h0 => ?_) (fun h0 => ?_)
  · skip
    try simp only [bl] at h0
    refine W_seq ?_
    refine W_region ?_  -- R3 l1_kin.go:74
    refine WL_step (S_plain (O_field tf33_1) ⟨T1 rfl, trivial⟩ rfl rfl) ?_
    refine WL_step (S_plain (O_load ta3) ⟨T1 rfl, trivial⟩ rfl rfl) ?_
    refine WL_step (S_plain O_eql ⟨T1 rfl, C1, trivial⟩ rfl rfl) ?_
    refine WL_as rfl rfl ?_
    refine WL_nil ?_
    refine Fin_then ?_
    refine W_ret ?_
    refine Fin_block_ret ?_
    refine Fin_then_ret ?_
    exact RetC rfl (Res1 rfl (RV.tmp rfl (Imp.bool (by simp_all [fieldOk]))))
  · skip
    try simp only [bl] at h0
    refine W_seq ?_
    refine W_seq ?_
    refine W_region ?_  -- R4 l1_kin.go:75
    refine WL_step (S_plain O_eql ⟨T1 rfl, C1, trivial⟩ rfl rfl) ?_
    refine WL_as rfl rfl ?_
    refine WL_nil ?_
    refine Fin_then ?_
    refine W_cond rfl (fun h1 => ?_) (fun h1 => ?_)
    · skip
      try simp only [bl] at h1
      refine W_skip ?_
      refine Fin_then ?_
      refine W_cond rfl (fun h2 => ?_) (fun h2 => ?_)
      · skip
        try simp only [bl] at h2
        refine W_seq ?_
        refine W_region ?_  -- R6 l1_kin.go:76
        refine WL_step (S_plain (O_field tf33_1) ⟨T1 rfl, trivial⟩ rfl rfl) ?_
        refine WL_step (S_plain (O_load ta3) ⟨T1 rfl, trivial⟩ rfl rfl) ?_
        refine WL_step (S_plain O_geq ⟨T1 rfl, C1, trivial⟩ rfl rfl) ?_
        refine WL_mv rfl rfl ?_
        refine WL_step (S_t1 rfl rfl (fun hc => (O_field tf33_1)) ⟨⟨_, rfl, (by first | exact fun _ _ => rfl | exact fun h _ => h | exact fun _ h => h | exact fun h k => band h k | exact fun h _ => bandl h | exact fun h _ => bandr h)⟩, trivial⟩ rfl rfl rfl) ?_
        refine WL_step (S_t1 rfl rfl (fun hc => (O_load ta3)) ⟨⟨_, rfl, (by first | exact fun _ _ => rfl | exact fun h _ => h | exact fun _ h => h | exact fun h k => band h k | exact fun h _ => bandl h | exact fun h _ => bandr h)⟩, trivial⟩ rfl rfl rfl) ?_
        refine WL_step (S_t1 rfl rfl (fun hc => O_move) ⟨⟨_, rfl, (by first | exact fun _ _ => rfl | exact fun h _ => h | exact fun _ h => h | exact fun h k => band h k | exact fun h _ => bandl h | exact fun h _ => bandr h)⟩, trivial⟩ rfl rfl rfl) ?_
        refine WL_step (S_t1 rfl rfl (fun hc => O_lss) ⟨⟨_, rfl, (by first | exact fun _ _ => rfl | exact fun h _ => h | exact fun _ h => h | exact fun h k => band h k | exact fun h _ => bandl h | exact fun h _ => bandr h)⟩, ⟨_, rfl, (by first | exact fun _ _ => rfl | exact fun h _ => h | exact fun _ h => h | exact fun h k => band h k | exact fun h _ => bandl h | exact fun h _ => bandr h)⟩, trivial⟩ rfl rfl rfl) ?_
        refine WL_step (S_plain O_and ⟨T1 rfl, ⟨_, rfl, (by first | exact fun _ _ => rfl | exact fun h _ => h | exact fun _ h => h | exact fun h k => band h k | exact fun h _ => bandl h | exact fun h _ => bandr h)⟩, trivial⟩ rfl rfl) ?_
        refine WL_as rfl rfl ?_
        refine WL_nil ?_
        refine Fin_then ?_
        refine W_ret ?_
        refine Fin_block_ret ?_
        refine Fin_then_ret ?_
        exact RetC rfl (Res1 rfl (RV.tmp rfl (Imp.bool (by simp_all [fieldOk]))))
      · skip
        try simp only [bl] at h2
        refine W_skip ?_
        refine Fin_block ?_
        refine Fin_then ?_
        refine W_seq ?_
        refine W_region ?_  -- R7 l1_kin.go:78
        refine WL_ac rfl ?_
        refine WL_nil ?_
        refine Fin_then ?_
        refine W_ret ?_
        exact RetC rfl (Res1 rfl (RV.tmp rfl (Imp.bool (by simp_all [fieldOk]))))
    · skip
      try simp only [bl] at h1
      refine W_region ?_  -- R5 l1_kin.go:75
      refine WL_step (S_plain O_eql ⟨T1 rfl, C1, trivial⟩ rfl rfl) ?_
      refine WL_as rfl rfl ?_
      refine WL_nil ?_
      refine Fin_then ?_
      refine W_cond rfl (fun h2 => ?_) (fun h2 => ?_)
      · skip
        try simp only [bl] at h2
        refine W_seq ?_
        refine W_region ?_  -- R6 l1_kin.go:76
        refine WL_step (S_plain (O_field tf33_1) ⟨T1 rfl, trivial⟩ rfl rfl) ?_
        refine WL_step (S_plain (O_load ta3) ⟨T1 rfl, trivial⟩ rfl rfl) ?_
        refine WL_step (S_plain O_geq ⟨T1 rfl, C1, trivial⟩ rfl rfl) ?_
        refine WL_mv rfl rfl ?_
        refine WL_step (S_t1 rfl rfl (fun hc => (O_field tf33_1)) ⟨⟨_, rfl, (by first | exact fun _ _ => rfl | exact fun h _ => h | exact fun _ h => h | exact fun h k => band h k | exact fun h _ => bandl h | exact fun h _ => bandr h)⟩, trivial⟩ rfl rfl rfl) ?_
        refine WL_step (S_t1 rfl rfl (fun hc => (O_load ta3)) ⟨⟨_, rfl, (by first | exact fun _ _ => rfl | exact fun h _ => h | exact fun _ h => h | exact fun h k => band h k | exact fun h _ => bandl h | exact fun h _ => bandr h)⟩, trivial⟩ rfl rfl rfl) ?_
        refine WL_step (S_t1 rfl rfl (fun hc => O_move) ⟨⟨_, rfl, (by first | exact fun _ _ => rfl | exact fun h _ => h | exact fun _ h => h | exact fun h k => band h k | exact fun h _ => bandl h | exact fun h _ => bandr h)⟩, trivial⟩ rfl rfl rfl) ?_
        refine WL_step (S_t1 rfl rfl (fun hc => O_lss) ⟨⟨_, rfl, (by first | exact fun _ _ => rfl | exact fun h _ => h | exact fun _ h => h | exact fun h k => band h k | exact fun h _ => bandl h | exact fun h _ => bandr h)⟩, ⟨_, rfl, (by first | exact fun _ _ => rfl | exact fun h _ => h | exact fun _ h => h | exact fun h k => band h k | exact fun h _ => bandl h | exact fun h _ => bandr h)⟩, trivial⟩ rfl rfl rfl) ?_
        refine WL_step (S_plain O_and ⟨T1 rfl, ⟨_, rfl, (by first | exact fun _ _ => rfl | exact fun h _ => h | exact fun _ h => h | exact fun h k => band h k | exact fun h _ => bandl h | exact fun h _ => bandr h)⟩, trivial⟩ rfl rfl) ?_
        refine WL_as rfl rfl ?_
        refine WL_nil ?_
        refine Fin_then ?_
        refine W_ret ?_
        refine Fin_block_ret ?_
        refine Fin_then_ret ?_
        exact RetC rfl (Res1 rfl (RV.tmp rfl (Imp.bool (by simp_all [fieldOk]))))
      · skip
        try simp only [bl] at h2
        refine W_skip ?_
        refine Fin_block ?_
        refine Fin_then ?_
        refine W_seq ?_
        refine W_region ?_  -- R7 l1_kin.go:78
        refine WL_ac rfl ?_
        refine WL_nil ?_
        refine Fin_then ?_
        refine W_ret ?_
        exact RetC rfl (Res1 rfl (RV.tmp rfl (Imp.bool (by simp_all [fieldOk]))))
set_option maxRecDepth 8000 in
theorem impl_fieldOk (f : Fld) (n : Int) : FnC Try.prog 64 [A.agg (cFld f), A.int n] (A.bool (fieldOk f n)) := by
  refine Fn_of_W Try.func64 rfl rfl fun r w => ?_
  refine W_seq ?_
  refine W_region ?_  -- R0 l1_kin.go:71
  refine WL_step (S_plain O_boxg ⟨T1 rfl, trivial⟩ rfl rfl) ?_
  refine WL_ac rfl ?_
  refine WL_nil ?_
  refine Fin_then ?_
  refine W_seq ?_
  refine W_seq ?_
  refine W_region ?_  -- R1 l1_kin.go:72
  refine WL_step (S_plain (O_field tf33_0) ⟨T1 rfl, trivial⟩ rfl rfl) ?_
  refine WL_step (S_plain (O_load ta3) ⟨T1 rfl, trivial⟩ rfl rfl) ?_
  refine WL_nil ?_
  refine Fin_then ?_
  refine W_block ?_
  refine W_seq ?_
  refine W_region ?_  -- R2 l1_kin.go:73
  refine WL_step (S_plain O_eql ⟨T1 rfl, C1, trivial⟩ rfl rfl) ?_
  refine WL_as rfl rfl ?_
  refine WL_nil ?_
  refine Fin_then ?_
  refine W_cond rfl (fun h0 => ?_) (fun h0 => ?_)
  · skip
    try simp only [bl] at h0
    refine W_seq ?_
    refine W_region ?_  -- R3 l1_kin.go:74
    refine WL_step (S_plain (O_field tf33_1) ⟨T1 rfl, trivial⟩ rfl rfl) ?_
    refine WL_step (S_plain (O_load ta3) ⟨T1 rfl, trivial⟩ rfl rfl) ?_
    refine WL_step (S_plain O_eql ⟨T1 rfl, C1, trivial⟩ rfl rfl) ?_
    refine WL_as rfl rfl ?_
    refine WL_nil ?_
    refine Fin_then ?_
    refine W_ret ?_
    refine Fin_block_ret ?_
    refine Fin_then_ret ?_
    exact RetC rfl (Res1 rfl (RV.tmp rfl (Imp.bool (by simp_all [fieldOk]))))
  · skip
    try simp only [bl] at h0
    refine W_seq ?_
    refine W_seq ?_
    refine W_region ?_  -- R4 l1_kin.go:75
    refine WL_step (S_plain O_eql ⟨T1 rfl, C1, trivial⟩ rfl rfl) ?_
    refine WL_as rfl rfl ?_
    refine WL_nil ?_
    refine Fin_then ?_
    refine W_cond rfl (fun h1 => ?_) (fun h1 => ?_)
    · skip
      try simp only [bl] at h1
      refine W_skip ?_
      refine Fin_then ?_
      refine W_cond rfl (fun h2 => ?_) (fun h2 => ?_)
      · skip
        try simp only [bl] at h2
        refine W_seq ?_
        refine W_region ?_  -- R6 l1_kin.go:76
        refine WL_step (S_plain (O_field tf33_1) ⟨T1 rfl, trivial⟩ rfl rfl) ?_
        refine WL_step (S_plain (O_load ta3) ⟨T1 rfl, trivial⟩ rfl rfl) ?_
        refine WL_step (S_plain O_geq ⟨T1 rfl, C1, trivial⟩ rfl rfl) ?_
        refine WL_mv rfl rfl ?_
        refine WL_step (S_t1 rfl rfl (fun hc => (O_field tf33_1)) ⟨⟨_, rfl, (by first | exact fun _ _ => rfl | exact fun h _ => h | exact fun _ h => h | exact fun h k => band h k | exact fun h _ => bandl h | exact fun h _ => bandr h)⟩, trivial⟩ rfl rfl rfl) ?_
        refine WL_step (S_t1 rfl rfl (fun hc => (O_load ta3)) ⟨⟨_, rfl, (by first | exact fun _ _ => rfl | exact fun h _ => h | exact fun _ h => h | exact fun h k => band h k | exact fun h _ => bandl h | exact fun h _ => bandr h)⟩, trivial⟩ rfl rfl rfl) ?_
        refine WL_step (S_t1 rfl rfl (fun hc => O_move) ⟨⟨_, rfl, (by first | exact fun _ _ => rfl | exact fun h _ => h | exact fun _ h => h | exact fun h k => band h k | exact fun h _ => bandl h | exact fun h _ => bandr h)⟩, trivial⟩ rfl rfl rfl) ?_
        refine WL_step (S_t1 rfl rfl (fun hc => O_lss) ⟨⟨_, rfl, (by first | exact fun _ _ => rfl | exact fun h _ => h | exact fun _ h => h | exact fun h k => band h k | exact fun h _ => bandl h | exact fun h _ => bandr h)⟩, ⟨_, rfl, (by first | exact fun _ _ => rfl | exact fun h _ => h | exact fun _ h => h | exact fun h k => band h k | exact fun h _ => bandl h | exact fun h _ => bandr h)⟩, trivial⟩ rfl rfl rfl) ?_
        refine WL_step (S_plain O_and ⟨T1 rfl, ⟨_, rfl, (by first | exact fun _ _ => rfl | exact fun h _ => h | exact fun _ h => h | exact fun h k => band h k | exact fun h _ => bandl h | exact fun h _ => bandr h)⟩, trivial⟩ rfl rfl) ?_
        refine WL_as rfl rfl ?_
        refine WL_nil ?_
        refine Fin_then ?_
        refine W_ret ?_
        refine Fin_block_ret ?_
        refine Fin_then_ret ?_
        exact RetC rfl (Res1 rfl (RV.tmp rfl (Imp.bool (by simp_all [fieldOk]))))
      · skip
        try simp only [bl] at h2
        refine W_skip ?_
        refine Fin_block ?_
        refine Fin_then ?_
        refine W_seq ?_
        refine W_region ?_  -- R7 l1_kin.go:78
        refine WL_ac rfl ?_
        refine WL_nil ?_
        refine Fin_then ?_
        refine W_ret ?_
        exact RetC rfl (Res1 rfl (RV.tmp rfl (Imp.bool (by simp_all [fieldOk]))))
    · skip
      try simp only [bl] at h1
      refine W_region ?_  -- R5 l1_kin.go:75
      refine WL_step (S_plain O_eql ⟨T1 rfl, C1, trivial⟩ rfl rfl) ?_
      refine WL_as rfl rfl ?_
      refine WL_nil ?_
      refine Fin_then ?_
      refine W_cond rfl (fun h2 => ?_) (fun h2 => ?_)
      · skip
        try simp only [bl] at h2
        refine W_seq ?_
        refine W_region ?_  -- R6 l1_kin.go:76
        refine WL_step (S_plain (O_field tf33_1) ⟨T1 rfl, trivial⟩ rfl rfl) ?_
        refine WL_step (S_plain (O_load ta3) ⟨T1 rfl, trivial⟩ rfl rfl) ?_
        refine WL_step (S_plain O_geq ⟨T1 rfl, C1, trivial⟩ rfl rfl) ?_
        refine WL_mv rfl rfl ?_
        refine WL_step (S_t1 rfl rfl (fun hc => (O_field tf33_1)) ⟨⟨_, rfl, (by first | exact fun _ _ => rfl | exact fun h _ => h | exact fun _ h => h | exact fun h k => band h k | exact fun h _ => bandl h | exact fun h _ => bandr h)⟩, trivial⟩ rfl rfl rfl) ?_
        refine WL_step (S_t1 rfl rfl (fun hc => (O_load ta3)) ⟨⟨_, rfl, (by first | exact fun _ _ => rfl | exact fun h _ => h | exact fun _ h => h | exact fun h k => band h k | exact fun h _ => bandl h | exact fun h _ => bandr h)⟩, trivial⟩ rfl rfl rfl) ?_
        refine WL_step (S_t1 rfl rfl (fun hc => O_move) ⟨⟨_, rfl, (by first | exact fun _ _ => rfl | exact fun h _ => h | exact fun _ h => h | exact fun h k => band h k | exact fun h _ => bandl h | exact fun h _ => bandr h)⟩, trivial⟩ rfl rfl rfl) ?_
        refine WL_step (S_t1 rfl rfl (fun hc => O_lss) ⟨⟨_, rfl, (by first | exact fun _ _ => rfl | exact fun h _ => h | exact fun _ h => h | exact fun h k => band h k | exact fun h _ => bandl h | exact fun h _ => bandr h)⟩, ⟨_, rfl, (by first | exact fun _ _ => rfl | exact fun h _ => h | exact fun _ h => h | exact fun h k => band h k | exact fun h _ => bandl h | exact fun h _ => bandr h)⟩, trivial⟩ rfl rfl rfl) ?_
        refine WL_step (S_plain O_and ⟨T1 rfl, ⟨_, rfl, (by first | exact fun _ _ => rfl | exact fun h _ => h | exact fun _ h => h | exact fun h k => band h k | exact fun h _ => bandl h | exact fun h _ => bandr h)⟩, trivial⟩ rfl rfl) ?_
        refine WL_as rfl rfl ?_
        refine WL_nil ?_
        refine Fin_then ?_
        refine W_ret ?_
        refine Fin_block_ret ?_
        refine Fin_then_ret ?_
        exact RetC rfl (Res1 rfl (RV.tmp rfl (Imp.bool (by simp_all [fieldOk]))))
      · skip
        try simp only [bl] at h2
        refine W_skip ?_
        refine Fin_block ?_
        refine Fin_then ?_
        refine W_seq ?_
        refine W_region ?_  -- R7 l1_kin.go:78
        refine WL_ac rfl ?_
        refine WL_nil ?_
        refine Fin_then ?_
        refine W_ret ?_
        exact RetC rfl (Res1 rfl (RV.tmp rfl (Imp.bool (by simp_all [fieldOk]))))
set_option maxRecDepth 8000 in
theorem spec_KinCount (G : Kin) (hG : Small G) : FnC Try.prog 34 [A.sl 1 cGrp G] (A.int (kcnt G)) := by
  refine Fn_of_W Try.func34 rfl rfl fun r w => ?_
  refine W_seq ?_
  refine W_region ?_  -- R0 l1_kin.go:22
  refine WL_ac rfl ?_
  refine WL_nil ?_
  refine Fin_then ?_
  refine W_seq ?_
  refine W_region ?_  -- R1 l1_kin.go:23
  refine WL_ac rfl ?_
  refine WL_nil ?_
  refine Fin_then ?_
  refine W_seq ?_
  refine W_seq ?_
  refine W_region ?_  -- R2 l1_kin.go:24
  refine WL_ac rfl ?_
  refine WL_nil ?_
  refine Fin_then ?_
  refine W_block ?_
  refine W_loopk [0] (T := Nat) (fun k => k ≤ G.length) (fun k => [(3, true, A.int (kcnt (G.take k))), (4, true, A.int (k : Int))]) (fun k => G.length - k) 0 (by omega) ⟨⟨rfl, _, rfl, (by first | exact Imp.refl | exact Imp.slv | exact Imp.nil | exact Imp.int (by omega) | exact Imp.int (by simp; done) | exact Imp.bool (by simp_all; done))⟩, ⟨rfl, _, rfl, (by first | exact Imp.refl | exact Imp.slv | exact Imp.nil | exact Imp.int (by omega) | exact Imp.int (by simp; done) | exact Imp.bool (by simp_all; done))⟩, trivial⟩ (fun k hx => ?_)
  have b1 := (hG.take k).kcnt
  have b2 := hG.idx (k : Int)
  have b3 := hG.len
  refine W_seq ?_
  refine W_seq ?_
  refine W_region ?_  -- R3 l1_kin.go:24
  refine WL_mv rfl rfl ?_
  refine WL_mv rfl rfl ?_
  refine WL_len ts23 rfl rfl fun hl7 => ?_
  refine WL_step (S_plain O_lss ⟨T1 rfl, T1 rfl, trivial⟩ rfl rfl) ?_
  refine WL_nil ?_
  refine Fin_then ?_
  refine W_cond rfl (fun h0 => ?_) (fun h0 => ?_)
  · skip
    try simp only [bl] at h0
    refine W_skip ?_
    refine Fin_then ?_
    refine W_seq ?_
    refine W_block ?_
    refine W_region ?_  -- R5 l1_kin.go:25
    refine WL_mv rfl rfl ?_
    refine WL_mv rfl rfl ?_
    refine WL_mv rfl rfl ?_
    refine WL_step (S_plain (O_index ts23 (by omega)) ⟨T1 rfl, T1 rfl, trivial⟩ rfl rfl) ?_
    refine WL_step (S_plain (O_load ta38) ⟨T1 rfl, trivial⟩ rfl rfl) ?_
    refine WL_len ts38 rfl rfl fun hl16 => ?_
    refine WL_step (S_plain (O_add (by omega)) ⟨T1 rfl, T1 rfl, trivial⟩ rfl rfl) ?_
    refine WL_as rfl rfl ?_
    refine WL_nil ?_
    refine Fin_block ?_
    refine Fin_then ?_
    refine W_region ?_  -- R4 l1_kin.go:24
    refine WL_mv rfl rfl ?_
    refine WL_step (S_plain (O_add (by omega)) ⟨T1 rfl, C1, trivial⟩ rfl rfl) ?_
    refine WL_as rfl rfl ?_
    refine WL_nil ?_
    exact Fin_back (k + 1) (by omega) (by omega) ⟨⟨rfl, _, rfl, (Imp.int (by rw [kcnt_step G k (by omega)]))⟩, ⟨rfl, _, rfl, (by first | exact Imp.refl | exact Imp.slv | exact Imp.nil | exact Imp.int (by omega) | exact Imp.int (by simp; done) | exact Imp.bool (by simp_all; done))⟩, trivial⟩ ⟨rfl, trivial⟩ rfl rfl
  · skip
    try simp only [bl] at h0
    refine W_exit ?_
    refine Fin_then_exit ?_
    refine Fin_then_exit ?_
    refine Fin_block_exit ?_
    refine Fin_then ?_
    refine W_seq ?_
    refine W_region ?_  -- R6 l1_kin.go:27
    refine WL_mv rfl rfl ?_
    refine WL_as rfl rfl ?_
    refine WL_nil ?_
    refine Fin_then ?_
    refine W_ret ?_
    exact RetC rfl (Res1 rfl (RV.tmp rfl (Imp.int (by rw [show k = G.length from by omega, List.take_length]))))
set_option maxRecDepth 8000 in
theorem spec_l1Min (a b : Int) : FnC Try.prog 89 [A.int a, A.int b] (A.int (if a < b then a else b)) := by
  refine Fn_of_W Try.func89 rfl rfl fun r w => ?_
  refine W_seq ?_
  refine W_region ?_  -- R0 l1_kin.go:14
  refine WL_ac rfl ?_
  refine WL_nil ?_
  refine Fin_then ?_
  refine W_seq ?_
  refine W_seq ?_
  refine W_region ?_  -- R1 l1_kin.go:15
  refine WL_mv rfl rfl ?_
  refine WL_mv rfl rfl ?_
  refine WL_step (S_plain O_lss ⟨T1 rfl, T1 rfl, trivial⟩ rfl rfl) ?_
  refine WL_nil ?_
  refine Fin_then ?_
  refine W_cond rfl (fun h0 => ?_) (fun h0 => ?_)
  · skip
    try simp only [bl] at h0
    refine W_seq ?_
    refine W_region ?_  -- R2 l1_kin.go:16
    refine WL_mv rfl rfl ?_
    refine WL_as rfl rfl ?_
    refine WL_nil ?_
    refine Fin_then ?_
    refine W_ret ?_
    refine Fin_then_ret ?_
    exact RetC rfl (Res1 rfl (RV.tmp rfl (Imp.int (by simp; omega))))
  · skip
    try simp only [bl] at h0
    refine W_skip ?_
    refine Fin_then ?_
    refine W_seq ?_
    refine W_region ?_  -- R3 l1_kin.go:18
    refine WL_mv rfl rfl ?_
    refine WL_as rfl rfl ?_
    refine WL_nil ?_
    refine Fin_then ?_
    refine W_ret ?_
    exact RetC rfl (Res1 rfl (RV.tmp rfl (Imp.int (by simp; omega))))
set_option maxRecDepth 8000 in
theorem spec_l1Begin (G : Kin) (hG : Small G) (a : Int) (h0 : 0 ≤ a) (h1 : a ≤ G.length) : FnC Try.prog 65 [A.sl 1 cGrp G, A.int a] (A.int (kbeg G a)) := by
  refine Fn_of_W Try.func65 rfl rfl fun r w => ?_
  refine W_seq ?_
  refine W_region ?_  -- R0 l1_kin.go:68
  refine WL_ac rfl ?_
  refine WL_nil ?_
  refine Fin_then ?_
  refine W_seq ?_
  refine W_region ?_  -- R1 l1_kin.go:68
  refine WL_mv rfl rfl ?_
  refine WL_mv rfl rfl ?_
  refine WL_step (S_plain (O_slice_h ts23 (by omega)) ⟨T1 rfl, T1 rfl, trivial⟩ rfl rfl) ?_
  refine WL_step (S_plain (O_call cf34 (spec_KinCount _ (hG.take _)) rfl) ⟨T1 rfl, trivial⟩ rfl rfl) ?_
  refine WL_as rfl rfl ?_
  refine WL_nil ?_
  refine Fin_then ?_
  refine W_ret ?_
  exact RetC rfl (Res1 rfl (RV.tmp rfl (by first | exact Imp.refl | exact Imp.slv | exact Imp.nil | exact Imp.int (by omega) | exact Imp.int (by simp; done) | exact Imp.bool (by simp_all; done))))
set_option maxRecDepth 8000 in
theorem spec_l1Flat (G : Kin) (hG : Small G) : FnC Try.prog 45 [A.sl 1 cGrp G] (A.sl 4 cTy G.flatten) := by
  have b3 := hG.len
  have b4 := hG.flat
  refine Fn_of_W Try.func45 rfl rfl fun r w => ?_
  refine W_seq ?_
  refine W_region ?_  -- R0 l1_kin.go:31
  refine WL_ac rfl ?_
  refine WL_nil ?_
  refine Fin_then ?_
  refine W_seq ?_
  refine W_region ?_  -- R1 l1_kin.go:32
  refine WL_slice0r cTy te38 rfl fun v6 => ?_
  refine WL_as rfl rfl ?_
  refine WL_nil ?_
  refine Fin_then ?_
  refine W_seq ?_
  refine W_seq ?_
  refine W_region ?_  -- R2 l1_kin.go:33
  refine WL_ac rfl ?_
  refine WL_nil ?_
  refine Fin_then ?_
  refine W_block ?_
  refine W_loopp [0] [] [0] [] (T := Nat × Value) (fun x => x.1 ≤ G.length) (fun x => [(3, true, A.slv x.2 4 cTy (G.take x.1).flatten), (4, true, A.int (x.1 : Int))]) (fun x => { own := [], rooms := [(x.2, 29, 4)], maps := [] }) (fun x => G.length - x.1) (0, v6) (by omega) ⟨⟨rfl, _, rfl, (by first | exact Imp.refl | exact Imp.slv | exact Imp.nil | exact Imp.int (by omega) | exact Imp.int (by simp; done) | exact Imp.bool (by simp_all; done))⟩, ⟨rfl, _, rfl, (by first | exact Imp.refl | exact Imp.slv | exact Imp.nil | exact Imp.int (by omega) | exact Imp.int (by simp; done) | exact Imp.bool (by simp_all; done))⟩, trivial⟩ OSub.nil rfl rfl rfl (fun x hx => ?_)
  refine W_seq ?_
  refine W_seq ?_
  refine W_region ?_  -- R3 l1_kin.go:33
  refine WL_mv rfl rfl ?_
  refine WL_mv rfl rfl ?_
  refine WL_len ts23 rfl rfl fun hl9 => ?_
  refine WL_step (S_plain O_lss ⟨T1 rfl, T1 rfl, trivial⟩ rfl rfl) ?_
  refine WL_nil ?_
  refine Fin_then ?_
  refine W_cond rfl (fun h0 => ?_) (fun h0 => ?_)
  · skip
    try simp only [bl] at h0
    refine W_skip ?_
    refine Fin_then ?_
    refine W_seq ?_
    refine W_block ?_
    refine W_seq ?_
    refine W_region ?_  -- R5 l1_kin.go:34
    refine WL_ac rfl ?_
    refine WL_nil ?_
    refine Fin_then ?_
    refine W_block ?_
    refine W_loopp [0, 4] [] [0] [] (T := Nat × Value) (fun y => y.1 ≤ (idx G (x.1 : Int)).length) (fun y => [(3, true, A.slv y.2 4 cTy ((G.take x.1).flatten ++ (idx G (x.1 : Int)).take y.1)), (5, true, A.int (y.1 : Int))]) (fun y => { own := [], rooms := [(y.2, 29, 4)], maps := [] }) (fun y => (idx G (x.1 : Int)).length - y.1) (0, x.2) (by omega) ⟨⟨rfl, _, rfl, (Imp.eq (by simp))⟩, ⟨rfl, _, rfl, (by first | exact Imp.refl | exact Imp.slv | exact Imp.nil | exact Imp.int (by omega) | exact Imp.int (by simp; done) | exact Imp.bool (by simp_all; done))⟩, trivial⟩ OSub.nil rfl rfl rfl (fun y hx => ?_)
    have b5 := hG.idx (x.1 : Int)
    have b6 := flat_idx G x.1 y.1 (by omega) (by assumption)
    refine W_seq ?_
    refine W_seq ?_
    refine W_region ?_  -- R6 l1_kin.go:34
    refine WL_mv rfl rfl ?_
    refine WL_mv rfl rfl ?_
    refine WL_mv rfl rfl ?_
    refine WL_step (S_plain (O_index ts23 (by omega)) ⟨T1 rfl, T1 rfl, trivial⟩ rfl rfl) ?_
    refine WL_step (S_plain (O_load ta38) ⟨T1 rfl, trivial⟩ rfl rfl) ?_
    refine WL_len ts38 rfl rfl fun hl18 => ?_
    refine WL_step (S_plain O_lss ⟨T1 rfl, T1 rfl, trivial⟩ rfl rfl) ?_
    refine WL_nil ?_
    refine Fin_then ?_
    refine W_cond rfl (fun h1 => ?_) (fun h1 => ?_)
    · skip
      try simp only [bl] at h1
      refine W_skip ?_
      refine Fin_then ?_
      refine W_seq ?_
      refine W_block ?_
      refine W_region ?_  -- R8 l1_kin.go:35
      refine WL_mv rfl rfl ?_
      refine WL_mv rfl rfl ?_
      refine WL_mv rfl rfl ?_
      refine WL_step (S_plain (O_index ts23 (by omega)) ⟨T1 rfl, T1 rfl, trivial⟩ rfl rfl) ?_
      refine WL_step (S_plain (O_load ta38) ⟨T1 rfl, trivial⟩ rfl rfl) ?_
      refine WL_mv rfl rfl ?_
      refine WL_step (S_plain (O_index ts38 (by omega)) ⟨T1 rfl, T1 rfl, trivial⟩ rfl rfl) ?_
      refine WL_step (S_plain (O_loadgw tg29 rfl) ⟨T1 rfl, trivial⟩ rfl rfl) ?_
      refine WL_step (S_plain (O_slice1 (f := cTy) _ te38 rfl rfl (CellsOf.agg (by exact ⟨OneV.int, OneV.int, OneV.bool, OneV.sl, trivial⟩)) AllImp.refl) ⟨T1 rfl, trivial⟩ rfl rfl) ?_
      refine WL_append 0 _ te38 ⟨T1 rfl, T1 rfl, trivial⟩ rfl (by decide) (fun _ => rfl) (fun _ => rfl) (fun _ => ⟨OneV.int, OneV.int, OneV.bool, OneV.sl, trivial⟩) rfl (by try simp only [List.length_cons, List.length_nil]; (first | done | omega)) (by simp only [maxLen, List.length_cons, List.length_nil]; omega) rfl fun v31 => ?_
      refine WL_as rfl rfl ?_
      refine WL_nil ?_
      refine Fin_block ?_
      refine Fin_then ?_
      refine W_region ?_  -- R7 l1_kin.go:34
      refine WL_mv rfl rfl ?_
      refine WL_step (S_plain (O_add (by omega)) ⟨T1 rfl, C1, trivial⟩ rfl rfl) ?_
      refine WL_as rfl rfl ?_
      refine WL_nil ?_
      exact Fin_backp [] (y.1 + 1, v31) (by omega) (by omega) ⟨⟨rfl, _, rfl, (Imp.eq (by rw [take_snoc (by omega : y.1 < _), List.append_assoc]))⟩, ⟨rfl, _, rfl, (by first | exact Imp.refl | exact Imp.slv | exact Imp.nil | exact Imp.int (by omega) | exact Imp.int (by simp; done) | exact Imp.bool (by simp_all; done))⟩, trivial⟩ ⟨rfl, rfl, trivial⟩ OSub.nil rfl (List.Sublist.refl _) rfl
    · skip
      try simp only [bl] at h1
      refine W_exit ?_
      refine Fin_then_exit ?_
      refine Fin_then_exit ?_
      refine Fin_block_exit ?_
      refine Fin_block ?_
      refine Fin_then ?_
      refine W_region ?_  -- R4 l1_kin.go:33
      refine WL_mv rfl rfl ?_
      refine WL_step (S_plain (O_add (by omega)) ⟨T1 rfl, C1, trivial⟩ rfl rfl) ?_
      refine WL_as rfl rfl ?_
      refine WL_nil ?_
      exact Fin_backp [] (x.1 + 1, y.2) (by omega) (by omega) ⟨⟨rfl, _, rfl, (Imp.eq (by rw [flat_end G x.1 y.1 (by omega) (by omega)]))⟩, ⟨rfl, _, rfl, (by first | exact Imp.refl | exact Imp.slv | exact Imp.nil | exact Imp.int (by omega) | exact Imp.int (by simp; done) | exact Imp.bool (by simp_all; done))⟩, trivial⟩ ⟨rfl, trivial⟩ OSub.nil rfl (List.Sublist.refl _) rfl
  · skip
    try simp only [bl] at h0
    refine W_exit ?_
    refine Fin_then_exit ?_
    refine Fin_then_exit ?_
    refine Fin_block_exit ?_
    refine Fin_then ?_
    refine W_seq ?_
    refine W_region ?_  -- R9 l1_kin.go:38
    refine WL_mv rfl rfl ?_
    refine WL_as rfl rfl ?_
    refine WL_nil ?_
    refine Fin_then ?_
    refine W_ret ?_
    exact RetC rfl (Res1 rfl (RV.tmp rfl (Imp.trans Imp.slv (Imp.eq (by rw [show x.1 = G.length from by omega, List.take_length])))))
set_option maxRecDepth 8000 in
theorem spec_l1Group (G : Kin) (hG : Small G) (a : Int) : FnC Try.prog 82 [A.sl 1 cGrp G, A.int a] (A.int (kgrp G a)) := by
  have b3 := hG.len
  refine Fn_of_W Try.func82 rfl rfl fun r w => ?_
  refine W_seq ?_
  refine W_region ?_  -- R0 l1_kin.go:56
  refine WL_ac rfl ?_
  refine WL_nil ?_
  refine Fin_then ?_
  refine W_seq ?_
  refine W_region ?_  -- R1 l1_kin.go:57
  refine WL_ac rfl ?_
  refine WL_nil ?_
  refine Fin_then ?_
  refine W_seq ?_
  refine W_seq ?_
  refine W_region ?_  -- R2 l1_kin.go:58
  refine WL_ac rfl ?_
  refine WL_nil ?_
  refine Fin_then ?_
  refine W_block ?_
  refine W_loopk [0, 1] (T := Nat) (fun k => k ≤ G.length ∧ ∀ j, j < k → ¬ a < kcnt (G.take (j + 1))) (fun k => [(5, true, A.int (kcnt (G.take k))), (6, true, A.int (k : Int))]) (fun k => G.length - k) 0 ⟨Nat.zero_le _, fun j h => by omega⟩ ⟨⟨rfl, _, rfl, (by first | exact Imp.refl | exact Imp.slv | exact Imp.nil | exact Imp.int (by omega) | exact Imp.int (by simp; done) | exact Imp.bool (by simp_all; done))⟩, ⟨rfl, _, rfl, (by first | exact Imp.refl | exact Imp.slv | exact Imp.nil | exact Imp.int (by omega) | exact Imp.int (by simp; done) | exact Imp.bool (by simp_all; done))⟩, trivial⟩ (fun k hx => ?_)
  have hk := hx.1
  have b1 := (hG.take k).kcnt
  have b2 := hG.idx (k : Int)
  refine W_seq ?_
  refine W_seq ?_
  refine W_region ?_  -- R3 l1_kin.go:58
  refine WL_mv rfl rfl ?_
  refine WL_mv rfl rfl ?_
  refine WL_len ts23 rfl rfl fun hl9 => ?_
  refine WL_step (S_plain O_lss ⟨T1 rfl, T1 rfl, trivial⟩ rfl rfl) ?_
  refine WL_nil ?_
  refine Fin_then ?_
  refine W_cond rfl (fun h0 => ?_) (fun h0 => ?_)
  · skip
    try simp only [bl] at h0
    refine W_skip ?_
    refine Fin_then ?_
    refine W_seq ?_
    refine W_block ?_
    refine W_seq ?_
    refine W_region ?_  -- R5 l1_kin.go:59
    refine WL_mv rfl rfl ?_
    refine WL_mv rfl rfl ?_
    refine WL_mv rfl rfl ?_
    refine WL_step (S_plain (O_index ts23 (by omega)) ⟨T1 rfl, T1 rfl, trivial⟩ rfl rfl) ?_
    refine WL_step (S_plain (O_load ta38) ⟨T1 rfl, trivial⟩ rfl rfl) ?_
    refine WL_len ts38 rfl rfl fun hl18 => ?_
    refine WL_step (S_plain (O_add (by omega)) ⟨T1 rfl, T1 rfl, trivial⟩ rfl rfl) ?_
    refine WL_as rfl rfl ?_
    refine WL_nil ?_
    refine Fin_then ?_
    refine W_seq ?_
    refine W_region ?_  -- R6 l1_kin.go:60
    refine WL_mv rfl rfl ?_
    refine WL_mv rfl rfl ?_
    refine WL_step (S_plain O_lss ⟨T1 rfl, T1 rfl, trivial⟩ rfl rfl) ?_
    refine WL_nil ?_
    refine Fin_then ?_
    refine W_cond rfl (fun h1 => ?_) (fun h1 => ?_)
    · skip
      try simp only [bl] at h1
      refine W_seq ?_
      refine W_region ?_  -- R7 l1_kin.go:61
      refine WL_mv rfl rfl ?_
      refine WL_as rfl rfl ?_
      refine WL_nil ?_
      refine Fin_then ?_
      refine W_ret ?_
      refine Fin_block_ret ?_
      refine Fin_then_ret ?_
      refine Fin_then_ret ?_
      refine Fin_block_ret ?_
      refine Fin_then_ret ?_
      exact RetC rfl (Res1 rfl (RV.tmp rfl (Imp.int (kgrp_some (by omega) (by rw [kcnt_step G k (by omega)]; omega) hx.2).symm)))
    · skip
      try simp only [bl] at h1
      refine W_skip ?_
      refine Fin_block ?_
      refine Fin_then ?_
      refine W_region ?_  -- R4 l1_kin.go:58
      refine WL_mv rfl rfl ?_
      refine WL_step (S_plain (O_add (by omega)) ⟨T1 rfl, C1, trivial⟩ rfl rfl) ?_
      refine WL_as rfl rfl ?_
      refine WL_nil ?_
      exact Fin_back (k + 1) ⟨by omega, fun j hj => by rcases Nat.lt_or_ge j k with q | q; exact hx.2 j q; rw [show j = k from by omega, kcnt_step G k (by omega)]; omega⟩ (by omega) ⟨⟨rfl, _, rfl, (Imp.int (by rw [kcnt_step G k (by omega)]))⟩, ⟨rfl, _, rfl, (by first | exact Imp.refl | exact Imp.slv | exact Imp.nil | exact Imp.int (by omega) | exact Imp.int (by simp; done) | exact Imp.bool (by simp_all; done))⟩, trivial⟩ ⟨rfl, rfl, trivial⟩ rfl rfl
  · skip
    try simp only [bl] at h0
    refine W_exit ?_
    refine Fin_then_exit ?_
    refine Fin_then_exit ?_
    refine Fin_block_exit ?_
    refine Fin_then ?_
    refine W_seq ?_
    refine W_region ?_  -- R8 l1_kin.go:64
    refine WL_ac rfl ?_
    refine WL_nil ?_
    refine Fin_then ?_
    refine W_ret ?_
    exact RetC rfl (Res1 rfl (RV.tmp rfl (Imp.int (kgrp_none (fun j hj => hx.2 j (by omega))).symm)))
set_option maxRecDepth 8000 in
theorem spec_l1Form (t : Ty) (me n : Int) : FnC Try.prog 66 [A.agg (cTy t), A.int me, A.int n] (A.bool (kform t me n)) := by
  refine Fn_of_W Try.func66 rfl rfl fun r w => ?_
  refine W_seq ?_
  refine W_region ?_  -- R0 l1_kin.go:82
  refine WL_step (S_plain O_boxg ⟨T1 rfl, trivial⟩ rfl rfl) ?_
  refine WL_ac rfl ?_
  refine WL_nil ?_
  refine Fin_then ?_
  refine W_seq ?_
  refine W_seq ?_
  refine W_region ?_  -- R1 l1_kin.go:83
  refine WL_step (S_plain (O_field tf29_1) ⟨T1 rfl, trivial⟩ rfl rfl) ?_
  refine WL_step (S_plain (O_load ta3) ⟨T1 rfl, trivial⟩ rfl rfl) ?_
  refine WL_step (S_plain O_lss ⟨T1 rfl, C1, trivial⟩ rfl rfl) ?_
  refine WL_mv rfl rfl ?_
  refine WL_step (S_f1 rfl rfl (fun hc => (O_field tf29_1)) ⟨⟨_, rfl, (by first | exact fun _ _ => rfl | exact fun h _ => h | exact fun _ h => h | exact fun h k => band h k | exact fun h _ => bandl h | exact fun h _ => bandr h)⟩, trivial⟩ rfl rfl rfl) ?_
  refine WL_step (S_f1 rfl rfl (fun hc => (O_load ta3)) ⟨⟨_, rfl, (by first | exact fun _ _ => rfl | exact fun h _ => h | exact fun _ h => h | exact fun h k => band h k | exact fun h _ => bandl h | exact fun h _ => bandr h)⟩, trivial⟩ rfl rfl rfl) ?_
  refine WL_step (S_f1 rfl rfl (fun hc => O_move) ⟨⟨_, rfl, (by first | exact fun _ _ => rfl | exact fun h _ => h | exact fun _ h => h | exact fun h k => band h k | exact fun h _ => bandl h | exact fun h _ => bandr h)⟩, trivial⟩ rfl rfl rfl) ?_
  refine WL_step (S_f1 rfl rfl (fun hc => O_geq) ⟨⟨_, rfl, (by first | exact fun _ _ => rfl | exact fun h _ => h | exact fun _ h => h | exact fun h k => band h k | exact fun h _ => bandl h | exact fun h _ => bandr h)⟩, ⟨_, rfl, (by first | exact fun _ _ => rfl | exact fun h _ => h | exact fun _ h => h | exact fun h k => band h k | exact fun h _ => bandl h | exact fun h _ => bandr h)⟩, trivial⟩ rfl rfl rfl) ?_
  refine WL_step (S_plain O_or ⟨T1 rfl, ⟨_, rfl, (by first | exact fun _ _ => rfl | exact fun h _ => h | exact fun _ h => h | exact fun h k => band h k | exact fun h _ => bandl h | exact fun h _ => bandr h)⟩, trivial⟩ rfl rfl) ?_
  refine WL_mv rfl rfl ?_
  refine WL_step (S_f1 rfl rfl (fun hc => (O_field tf29_3)) ⟨⟨_, rfl, (by first | exact fun _ _ => rfl | exact fun h _ => h | exact fun _ h => h | exact fun h k => band h k | exact fun h _ => bandl h | exact fun h _ => bandr h)⟩, trivial⟩ rfl rfl rfl) ?_
  refine WL_step (S_f1 rfl rfl (fun hc => (O_load ta27)) ⟨⟨_, rfl, (by first | exact fun _ _ => rfl | exact fun h _ => h | exact fun _ h => h | exact fun h k => band h k | exact fun h _ => bandl h | exact fun h _ => bandr h)⟩, trivial⟩ rfl rfl rfl) ?_
  refine WL_step (S_f1 rfl rfl (fun hc => (O_len ts27)) ⟨⟨_, rfl, (by first | exact fun _ _ => rfl | exact fun h _ => h | exact fun _ h => h | exact fun h k => band h k | exact fun h _ => bandl h | exact fun h _ => bandr h)⟩, trivial⟩ rfl rfl rfl) ?_
  refine WL_step (S_f1 rfl rfl (fun hc => O_gtr) ⟨⟨_, rfl, (by first | exact fun _ _ => rfl | exact fun h _ => h | exact fun _ h => h | exact fun h k => band h k | exact fun h _ => bandl h | exact fun h _ => bandr h)⟩, C1, trivial⟩ rfl rfl rfl) ?_
  refine WL_step (S_plain O_or ⟨T1 rfl, ⟨_, rfl, (by first | exact fun _ _ => rfl | exact fun h _ => h | exact fun _ h => h | exact fun h k => band h k | exact fun h _ => bandl h | exact fun h _ => bandr h)⟩, trivial⟩ rfl rfl) ?_
  refine WL_nil ?_
  refine Fin_then ?_
  refine W_cond rfl (fun h0 => ?_) (fun h0 => ?_)
  · skip
    try simp only [bl] at h0
    refine W_seq ?_
    refine W_region ?_  -- R2 l1_kin.go:84
    refine WL_ac rfl ?_
    refine WL_nil ?_
    refine Fin_then ?_
    refine W_ret ?_
    refine Fin_then_ret ?_
    exact RetC rfl (Res1 rfl (RV.tmp rfl (Imp.bool (by unfold kform; simp; omega))))
  · skip
    try simp only [bl] at h0
    refine W_skip ?_
    refine Fin_then ?_
    refine W_seq ?_
    refine W_seq ?_
    refine W_region ?_  -- R3 l1_kin.go:86
    refine WL_step (S_plain (O_field tf29_0) ⟨T1 rfl, trivial⟩ rfl rfl) ?_
    refine WL_step (S_plain (O_load ta3) ⟨T1 rfl, trivial⟩ rfl rfl) ?_
    refine WL_step (S_plain O_neq ⟨T1 rfl, C1, trivial⟩ rfl rfl) ?_
    refine WL_mv rfl rfl ?_
    refine WL_step (S_t1 rfl rfl (fun hc => (O_field tf29_0)) ⟨⟨_, rfl, (by first | exact fun _ _ => rfl | exact fun h _ => h | exact fun _ h => h | exact fun h k => band h k | exact fun h _ => bandl h | exact fun h _ => bandr h)⟩, trivial⟩ rfl rfl rfl) ?_
    refine WL_step (S_t1 rfl rfl (fun hc => (O_load ta3)) ⟨⟨_, rfl, (by first | exact fun _ _ => rfl | exact fun h _ => h | exact fun _ h => h | exact fun h k => band h k | exact fun h _ => bandl h | exact fun h _ => bandr h)⟩, trivial⟩ rfl rfl rfl) ?_
    refine WL_step (S_t1 rfl rfl (fun hc => O_neq) ⟨⟨_, rfl, (by first | exact fun _ _ => rfl | exact fun h _ => h | exact fun _ h => h | exact fun h k => band h k | exact fun h _ => bandl h | exact fun h _ => bandr h)⟩, C1, trivial⟩ rfl rfl rfl) ?_
    refine WL_step (S_t1 rfl rfl (fun hc => O_move) ⟨⟨_, rfl, (by first | exact fun _ _ => rfl | exact fun h _ => h | exact fun _ h => h | exact fun h k => band h k | exact fun h _ => bandl h | exact fun h _ => bandr h)⟩, trivial⟩ rfl rfl rfl) ?_
    refine WL_step (S_f rfl rfl (fun hc => (O_field tf29_3)) ⟨⟨_, rfl, (by first | exact fun _ _ => rfl | exact fun h _ => h | exact fun _ h => h | exact fun h k => band h k | exact fun h _ => bandl h | exact fun h _ => bandr h)⟩, trivial⟩ rfl rfl rfl) ?_
    refine WL_step (S_f rfl rfl (fun hc => (O_load ta27)) ⟨⟨_, rfl, (by first | exact fun _ _ => rfl | exact fun h _ => h | exact fun _ h => h | exact fun h k => band h k | exact fun h _ => bandl h | exact fun h _ => bandr h)⟩, trivial⟩ rfl rfl rfl) ?_
    refine WL_step (S_f rfl rfl (fun hc => (O_len ts27)) ⟨⟨_, rfl, (by first | exact fun _ _ => rfl | exact fun h _ => h | exact fun _ h => h | exact fun h k => band h k | exact fun h _ => bandl h | exact fun h _ => bandr h)⟩, trivial⟩ rfl rfl rfl) ?_
    refine WL_step (S_f rfl rfl (fun hc => O_neq) ⟨⟨_, rfl, (by first | exact fun _ _ => rfl | exact fun h _ => h | exact fun _ h => h | exact fun h k => band h k | exact fun h _ => bandl h | exact fun h _ => bandr h)⟩, C1, trivial⟩ rfl rfl rfl) ?_
    refine WL_step (S_t1 rfl rfl (fun hc => O_or) ⟨⟨_, rfl, (by first | exact fun _ _ => rfl | exact fun h _ => h | exact fun _ h => h | exact fun h k => band h k | exact fun h _ => bandl h | exact fun h _ => bandr h)⟩, ⟨_, rfl, (by first | exact fun _ _ => rfl | exact fun h _ => h | exact fun _ h => h | exact fun h k => band h k | exact fun h _ => bandl h | exact fun h _ => bandr h)⟩, trivial⟩ rfl rfl rfl) ?_
    refine WL_step (S_plain O_and ⟨T1 rfl, ⟨_, rfl, (by first | exact fun _ _ => rfl | exact fun h _ => h | exact fun _ h => h | exact fun h k => band h k | exact fun h _ => bandl h | exact fun h _ => bandr h)⟩, trivial⟩ rfl rfl) ?_
    refine WL_nil ?_
    refine Fin_then ?_
    refine W_cond rfl (fun h1 => ?_) (fun h1 => ?_)
    · skip
      try simp only [bl] at h1
      refine W_seq ?_
      refine W_region ?_  -- R4 l1_kin.go:87
      refine WL_ac rfl ?_
      refine WL_nil ?_
      refine Fin_then ?_
      refine W_ret ?_
      refine Fin_then_ret ?_
      exact RetC rfl (Res1 rfl (RV.tmp rfl (Imp.bool (by unfold kform; simp; omega))))
    · skip
      try simp only [bl] at h1
      refine W_skip ?_
      refine Fin_then ?_
      refine W_seq ?_
      refine W_seq ?_
      refine W_region ?_  -- R5 l1_kin.go:89
      refine WL_ac rfl ?_
      refine WL_nil ?_
      refine Fin_then ?_
      refine W_block ?_
      refine W_loopk [2, 3] (T := Nat) (fun k => k ≤ t.fields.length ∧ ∀ j, j < k → (fun j => fieldOk (idx t.fields (j : Int)) n) j = true) (fun k => [(7, true, A.int (k : Int))]) (fun k => t.fields.length - k) 0 ⟨Nat.zero_le _, allN_zero⟩ ⟨⟨rfl, _, rfl, (by first | exact Imp.refl | exact Imp.slv | exact Imp.nil | exact Imp.int (by omega) | exact Imp.int (by simp; done) | exact Imp.bool (by simp_all; done))⟩, trivial⟩ (fun k hx => ?_)
      have hk := hx.1
      have hj := hx.2
      refine W_seq ?_
      refine W_seq ?_
      refine W_region ?_  -- R6 l1_kin.go:89
      refine WL_mv rfl rfl ?_
      refine WL_step (S_plain (O_field tf29_3) ⟨T1 rfl, trivial⟩ rfl rfl) ?_
      refine WL_step (S_plain (O_load ta27) ⟨T1 rfl, trivial⟩ rfl rfl) ?_
      refine WL_len ts27 rfl rfl fun hl40 => ?_
      refine WL_step (S_plain O_lss ⟨T1 rfl, T1 rfl, trivial⟩ rfl rfl) ?_
      refine WL_nil ?_
      refine Fin_then ?_
      refine W_cond rfl (fun h2 => ?_) (fun h2 => ?_)
      · skip
        try simp only [bl] at h2
        refine W_skip ?_
        refine Fin_then ?_
        refine W_seq ?_
        refine W_block ?_
        refine W_seq ?_
        refine W_region ?_  -- R8 l1_kin.go:90
        refine WL_step (S_plain (O_field tf29_3) ⟨T1 rfl, trivial⟩ rfl rfl) ?_
        refine WL_step (S_plain (O_load ta27) ⟨T1 rfl, trivial⟩ rfl rfl) ?_
        refine WL_mv rfl rfl ?_
        refine WL_step (S_plain (O_index ts27 (by omega)) ⟨T1 rfl, T1 rfl, trivial⟩ rfl rfl) ?_
        refine WL_step (S_plain (O_loadgw tg33 rfl) ⟨T1 rfl, trivial⟩ rfl rfl) ?_
        refine WL_mv rfl rfl ?_
        refine WL_step (S_plain (O_call cf84 (spec_FieldOk _ _) rfl) ⟨T1 rfl, T1 rfl, trivial⟩ rfl rfl) ?_
        refine WL_step (S_plain O_not ⟨T1 rfl, trivial⟩ rfl rfl) ?_
        refine WL_nil ?_
        refine Fin_then ?_
        refine W_cond rfl (fun h3 => ?_) (fun h3 => ?_)
        · skip
          try simp only [bl] at h3
          refine W_seq ?_
          refine W_region ?_  -- R9 l1_kin.go:91
          refine WL_ac rfl ?_
          refine WL_nil ?_
          refine Fin_then ?_
          refine W_ret ?_
          refine Fin_block_ret ?_
          refine Fin_then_ret ?_
          refine Fin_then_ret ?_
          refine Fin_block_ret ?_
          refine Fin_then_ret ?_
          exact RetC rfl (Res1 rfl (RV.tmp rfl (Imp.bool (by unfold kform; rw [allN_false k (by omega) (by simpa using h3)]; simp))))
        · skip
          try simp only [bl] at h3
          refine W_skip ?_
          refine Fin_block ?_
          refine Fin_then ?_
          refine W_region ?_  -- R7 l1_kin.go:89
          refine WL_mv rfl rfl ?_
          refine WL_step (S_plain (O_add (by omega)) ⟨T1 rfl, C1, trivial⟩ rfl rfl) ?_
          refine WL_as rfl rfl ?_
          refine WL_nil ?_
          exact Fin_back (k + 1) ⟨by omega, allN_succ hj (by simpa using h3)⟩ (by omega) ⟨⟨rfl, _, rfl, (by first | exact Imp.refl | exact Imp.slv | exact Imp.nil | exact Imp.int (by omega) | exact Imp.int (by simp; done) | exact Imp.bool (by simp_all; done))⟩, trivial⟩ ⟨rfl, rfl, trivial⟩ rfl rfl
      · skip
        try simp only [bl] at h2
        refine W_exit ?_
        refine Fin_then_exit ?_
        refine Fin_then_exit ?_
        refine Fin_block_exit ?_
        refine Fin_then ?_
        refine W_seq ?_
        refine W_region ?_  -- R10 l1_kin.go:94
        refine WL_ac rfl ?_
        refine WL_nil ?_
        refine Fin_then ?_
        refine W_ret ?_
        exact RetC rfl (Res1 rfl (RV.tmp rfl (Imp.bool (by unfold kform; rw [allN_true (fun j q => hj j (by omega))]; simp; omega))))
set_option maxRecDepth 8000 in
theorem spec_l1Of (a n : Int) : FnC Try.prog 38 [A.int a, A.int n] (A.bool (decide (-2 ≤ a) && decide (a < n))) := by
  refine Fn_of_W Try.func38 rfl rfl fun r w => ?_
  refine W_seq ?_
  refine W_region ?_  -- R0 l1_kin.go:145
  refine WL_ac rfl ?_
  refine WL_nil ?_
  refine Fin_then ?_
  refine W_seq ?_
  refine W_region ?_  -- R1 l1_kin.go:145
  refine WL_mv rfl rfl ?_
  refine WL_step (S_plain O_geq ⟨T1 rfl, C1, trivial⟩ rfl rfl) ?_
  refine WL_mv rfl rfl ?_
  refine WL_step (S_t1 rfl rfl (fun hc => O_move) ⟨⟨_, rfl, (by first | exact fun _ _ => rfl | exact fun h _ => h | exact fun _ h => h | exact fun h k => band h k | exact fun h _ => bandl h | exact fun h _ => bandr h)⟩, trivial⟩ rfl rfl rfl) ?_
  refine WL_step (S_t1 rfl rfl (fun hc => O_move) ⟨⟨_, rfl, (by first | exact fun _ _ => rfl | exact fun h _ => h | exact fun _ h => h | exact fun h k => band h k | exact fun h _ => bandl h | exact fun h _ => bandr h)⟩, trivial⟩ rfl rfl rfl) ?_
  refine WL_step (S_t1 rfl rfl (fun hc => O_lss) ⟨⟨_, rfl, (by first | exact fun _ _ => rfl | exact fun h _ => h | exact fun _ h => h | exact fun h k => band h k | exact fun h _ => bandl h | exact fun h _ => bandr h)⟩, ⟨_, rfl, (by first | exact fun _ _ => rfl | exact fun h _ => h | exact fun _ h => h | exact fun h k => band h k | exact fun h _ => bandl h | exact fun h _ => bandr h)⟩, trivial⟩ rfl rfl rfl) ?_
  refine WL_step (S_plain O_and ⟨T1 rfl, ⟨_, rfl, (by first | exact fun _ _ => rfl | exact fun h _ => h | exact fun _ h => h | exact fun h k => band h k | exact fun h _ => bandl h | exact fun h _ => bandr h)⟩, trivial⟩ rfl rfl) ?_
  refine WL_as rfl rfl ?_
  refine WL_nil ?_
  refine Fin_then ?_
  refine W_ret ?_
  exact RetC rfl (Res1 rfl (RV.tmp rfl (by first | exact Imp.refl | exact Imp.slv | exact Imp.nil | exact Imp.int (by omega) | exact Imp.int (by simp; done) | exact Imp.bool (by simp_all; done))))
set_option maxRecDepth 8000 in
theorem spec_l1Match (G : Kin) (hG : Small G) (n : Nat) (hS : ∀ c d : Int, 0 ≤ c → c < n → c < kcnt G → 0 ≤ d → d < kcnt G → FnC Try.prog 63 [A.sl 1 cGrp G, A.int c, A.int d] (A.bool (same n G c d))) (a b x y : Int) (hx0 : 0 ≤ x) (hx : x ≤ G.length) (hy0 : 0 ≤ y) (hy : y ≤ G.length) (hn : kbeg G x ≤ n) (ha : a ≤ 9223372036854775807) (hb : b ≤ 9223372036854775807) : FnC Try.prog 94 [A.sl 1 cGrp G, A.int a, A.int b, A.int x, A.int y] (A.bool (kmatch (same n G) G a b x y)) := by
  have hbx := kbeg_le G x
  have hby := kbeg_le G y
  have hcx := kbeg_nonneg G x
  have hcy := kbeg_nonneg G y
  have hcc := hG.kcnt
  refine Fn_of_W Try.func94 rfl rfl fun r w => ?_
  refine W_seq ?_
  refine W_region ?_  -- R0 l1_kin.go:98
  refine WL_ac rfl ?_
  refine WL_nil ?_
  refine Fin_then ?_
  refine W_seq ?_
  refine W_seq ?_
  refine W_region ?_  -- R1 l1_kin.go:99
  refine WL_mv rfl rfl ?_
  refine WL_step (S_plain O_lss ⟨T1 rfl, C1, trivial⟩ rfl rfl) ?_
  refine WL_mv rfl rfl ?_
  refine WL_step (S_f1 rfl rfl (fun hc => O_move) ⟨⟨_, rfl, (by first | exact fun _ _ => rfl | exact fun h _ => h | exact fun _ h => h | exact fun h k => band h k | exact fun h _ => bandl h | exact fun h _ => bandr h)⟩, trivial⟩ rfl rfl rfl) ?_
  refine WL_step (S_f1 rfl rfl (fun hc => O_lss) ⟨⟨_, rfl, (by first | exact fun _ _ => rfl | exact fun h _ => h | exact fun _ h => h | exact fun h k => band h k | exact fun h _ => bandl h | exact fun h _ => bandr h)⟩, C1, trivial⟩ rfl rfl rfl) ?_
  refine WL_step (S_plain O_or ⟨T1 rfl, ⟨_, rfl, (by first | exact fun _ _ => rfl | exact fun h _ => h | exact fun _ h => h | exact fun h k => band h k | exact fun h _ => bandl h | exact fun h _ => bandr h)⟩, trivial⟩ rfl rfl) ?_
  refine WL_nil ?_
  refine Fin_then ?_
  refine W_cond rfl (fun h0 => ?_) (fun h0 => ?_)
  · skip
    try simp only [bl] at h0
    refine W_seq ?_
    refine W_region ?_  -- R2 l1_kin.go:100
    refine WL_mv rfl rfl ?_
    refine WL_mv rfl rfl ?_
    refine WL_step (S_plain O_eql ⟨T1 rfl, T1 rfl, trivial⟩ rfl rfl) ?_
    refine WL_as rfl rfl ?_
    refine WL_nil ?_
    refine Fin_then ?_
    refine W_ret ?_
    refine Fin_then_ret ?_
    exact RetC rfl (Res1 rfl (RV.tmp rfl (Imp.bool (by unfold kmatch; rw [if_pos (by omega)]))))
  · skip
    try simp only [bl] at h0
    refine W_skip ?_
    refine Fin_then ?_
    refine W_seq ?_
    refine W_region ?_  -- R3 l1_kin.go:102
    refine WL_mv rfl rfl ?_
    refine WL_mv rfl rfl ?_
    refine WL_step (S_plain (O_call cf65 (spec_l1Begin _ (by assumption) _ (by omega) (by omega)) rfl) ⟨T1 rfl, T1 rfl, trivial⟩ rfl rfl) ?_
    refine WL_as rfl rfl ?_
    refine WL_nil ?_
    refine Fin_then ?_
    refine W_seq ?_
    refine W_region ?_  -- R4 l1_kin.go:103
    refine WL_mv rfl rfl ?_
    refine WL_mv rfl rfl ?_
    refine WL_step (S_plain (O_call cf65 (spec_l1Begin _ (by assumption) _ (by omega) (by omega)) rfl) ⟨T1 rfl, T1 rfl, trivial⟩ rfl rfl) ?_
    refine WL_as rfl rfl ?_
    refine WL_nil ?_
    refine Fin_then ?_
    refine W_seq ?_
    refine W_seq ?_
    refine W_region ?_  -- R5 l1_kin.go:104
    refine WL_mv rfl rfl ?_
    refine WL_mv rfl rfl ?_
    refine WL_step (S_plain O_geq ⟨T1 rfl, T1 rfl, trivial⟩ rfl rfl) ?_
    refine WL_mv rfl rfl ?_
    refine WL_step (S_t1 rfl rfl (fun hc => O_move) ⟨⟨_, rfl, (by first | exact fun _ _ => rfl | exact fun h _ => h | exact fun _ h => h | exact fun h k => band h k | exact fun h _ => bandl h | exact fun h _ => bandr h)⟩, trivial⟩ rfl rfl rfl) ?_
    refine WL_step (S_t1 rfl rfl (fun hc => O_move) ⟨⟨_, rfl, (by first | exact fun _ _ => rfl | exact fun h _ => h | exact fun _ h => h | exact fun h k => band h k | exact fun h _ => bandl h | exact fun h _ => bandr h)⟩, trivial⟩ rfl rfl rfl) ?_
    refine WL_step (S_t1 rfl rfl (fun hc => O_geq) ⟨⟨_, rfl, (by first | exact fun _ _ => rfl | exact fun h _ => h | exact fun _ h => h | exact fun h k => band h k | exact fun h _ => bandl h | exact fun h _ => bandr h)⟩, ⟨_, rfl, (by first | exact fun _ _ => rfl | exact fun h _ => h | exact fun _ h => h | exact fun h k => band h k | exact fun h _ => bandl h | exact fun h _ => bandr h)⟩, trivial⟩ rfl rfl rfl) ?_
    refine WL_step (S_plain O_and ⟨T1 rfl, ⟨_, rfl, (by first | exact fun _ _ => rfl | exact fun h _ => h | exact fun _ h => h | exact fun h k => band h k | exact fun h _ => bandl h | exact fun h _ => bandr h)⟩, trivial⟩ rfl rfl) ?_
    refine WL_nil ?_
    refine Fin_then ?_
    refine W_cond rfl (fun h1 => ?_) (fun h1 => ?_)
    · skip
      try simp only [bl] at h1
      refine W_seq ?_
      refine W_region ?_  -- R6 l1_kin.go:105
      refine WL_mv rfl rfl ?_
      refine WL_mv rfl rfl ?_
      refine WL_step (S_plain (O_sub (by omega)) ⟨T1 rfl, T1 rfl, trivial⟩ rfl rfl) ?_
      refine WL_mv rfl rfl ?_
      refine WL_mv rfl rfl ?_
      refine WL_step (S_plain (O_sub (by omega)) ⟨T1 rfl, T1 rfl, trivial⟩ rfl rfl) ?_
      refine WL_step (S_plain O_eql ⟨T1 rfl, T1 rfl, trivial⟩ rfl rfl) ?_
      refine WL_as rfl rfl ?_
      refine WL_nil ?_
      refine Fin_then ?_
      refine W_ret ?_
      refine Fin_then_ret ?_
      exact RetC rfl (Res1 rfl (RV.tmp rfl (Imp.bool (by unfold kmatch; rw [if_neg (by omega), if_pos (by omega)]))))
    · skip
      try simp only [bl] at h1
      refine W_skip ?_
      refine Fin_then ?_
      refine W_seq ?_
      refine W_region ?_  -- R7 l1_kin.go:107
      refine WL_mv rfl rfl ?_
      refine WL_mv rfl rfl ?_
      refine WL_step (S_plain O_lss ⟨T1 rfl, T1 rfl, trivial⟩ rfl rfl) ?_
      refine WL_mv rfl rfl ?_
      refine WL_step (S_t1 rfl rfl (fun hc => O_move) ⟨⟨_, rfl, (by first | exact fun _ _ => rfl | exact fun h _ => h | exact fun _ h => h | exact fun h k => band h k | exact fun h _ => bandl h | exact fun h _ => bandr h)⟩, trivial⟩ rfl rfl rfl) ?_
      refine WL_step (S_t1 rfl rfl (fun hc => O_move) ⟨⟨_, rfl, (by first | exact fun _ _ => rfl | exact fun h _ => h | exact fun _ h => h | exact fun h k => band h k | exact fun h _ => bandl h | exact fun h _ => bandr h)⟩, trivial⟩ rfl rfl rfl) ?_
      refine WL_step (S_t1 rfl rfl (fun hc => O_lss) ⟨⟨_, rfl, (by first | exact fun _ _ => rfl | exact fun h _ => h | exact fun _ h => h | exact fun h k => band h k | exact fun h _ => bandl h | exact fun h _ => bandr h)⟩, ⟨_, rfl, (by first | exact fun _ _ => rfl | exact fun h _ => h | exact fun _ h => h | exact fun h k => band h k | exact fun h _ => bandl h | exact fun h _ => bandr h)⟩, trivial⟩ rfl rfl rfl) ?_
      refine WL_step (S_plain O_and ⟨T1 rfl, ⟨_, rfl, (by first | exact fun _ _ => rfl | exact fun h _ => h | exact fun _ h => h | exact fun h k => band h k | exact fun h _ => bandl h | exact fun h _ => bandr h)⟩, trivial⟩ rfl rfl) ?_
      refine WL_mv rfl rfl ?_
      refine WL_step (S_t1 rfl rfl (fun hc => O_move) ⟨⟨_, rfl, (by first | exact fun _ _ => rfl | exact fun h _ => h | exact fun _ h => h | exact fun h k => band h k | exact fun h _ => bandl h | exact fun h _ => bandr h)⟩, trivial⟩ rfl rfl rfl) ?_
      refine WL_step (S_t1 rfl rfl (fun hc => O_move) ⟨⟨_, rfl, (by first | exact fun _ _ => rfl | exact fun h _ => h | exact fun _ h => h | exact fun h k => band h k | exact fun h _ => bandl h | exact fun h _ => bandr h)⟩, trivial⟩ rfl rfl rfl) ?_
      refine WL_step (S_t1 rfl rfl (fun hc => O_move) ⟨⟨_, rfl, (by first | exact fun _ _ => rfl | exact fun h _ => h | exact fun _ h => h | exact fun h k => band h k | exact fun h _ => bandl h | exact fun h _ => bandr h)⟩, trivial⟩ rfl rfl rfl) ?_
      refine WL_step (S_t1 rfl rfl (fun hc => (O_call cf63 (hS _ _ (by (try simp only [bl] at hc); omega) (by (try simp only [bl] at hc); omega) (by (try simp only [bl] at hc); omega) (by (try simp only [bl] at hc); omega) (by (try simp only [bl] at hc); omega)) rfl)) ⟨⟨_, rfl, (by first | exact fun _ _ => rfl | exact fun h _ => h | exact fun _ h => h | exact fun h k => band h k | exact fun h _ => bandl h | exact fun h _ => bandr h)⟩, ⟨_, rfl, (by first | exact fun _ _ => rfl | exact fun h _ => h | exact fun _ h => h | exact fun h k => band h k | exact fun h _ => bandl h | exact fun h _ => bandr h)⟩, ⟨_, rfl, (by first | exact fun _ _ => rfl | exact fun h _ => h | exact fun _ h => h | exact fun h k => band h k | exact fun h _ => bandl h | exact fun h _ => bandr h)⟩, trivial⟩ rfl rfl rfl) ?_
      refine WL_step (S_plain O_and ⟨T1 rfl, ⟨_, rfl, (by first | exact fun _ _ => rfl | exact fun h _ => h | exact fun _ h => h | exact fun h k => band h k | exact fun h _ => bandl h | exact fun h _ => bandr h)⟩, trivial⟩ rfl rfl) ?_
      refine WL_as rfl rfl ?_
      refine WL_nil ?_
      refine Fin_then ?_
      refine W_ret ?_
      exact RetC rfl (Res1 rfl (RV.tmp rfl (Imp.bool (by unfold kmatch; rw [if_neg (by omega), if_neg (by omega)]))))
set_option maxRecDepth 8000 in
theorem spec_l1Alike (G : Kin) (hG : Small G) (n : Nat) (hS : ∀ c d : Int, 0 ≤ c → c < n → c < kcnt G → 0 ≤ d → d < kcnt G → FnC Try.prog 63 [A.sl 1 cGrp G, A.int c, A.int d] (A.bool (same n G c d))) (s t : Ty) (x y : Int) (hx0 : 0 ≤ x) (hx : x ≤ G.length) (hy0 : 0 ≤ y) (hy : y ≤ G.length) (hn : kbeg G x ≤ n) (hs : TyOk s) (ht : TyOk t) : FnC Try.prog 83 [A.sl 1 cGrp G, A.agg (cTy s), A.agg (cTy t), A.int x, A.int y] (A.bool (kalike (same n G) G s t x y)) := by
  have hs1 := hs.1
  have ht1 := ht.1
  refine Fn_of_W Try.func83 rfl rfl fun r w => ?_
  refine W_seq ?_
  refine W_region ?_  -- R0 l1_kin.go:111
  refine WL_step (S_plain O_boxg ⟨T1 rfl, trivial⟩ rfl rfl) ?_
  refine WL_step (S_plain O_boxg ⟨T1 rfl, trivial⟩ rfl rfl) ?_
  refine WL_ac rfl ?_
  refine WL_nil ?_
  refine Fin_then ?_
  refine W_seq ?_
  refine W_seq ?_
  refine W_region ?_  -- R1 l1_kin.go:112
  refine WL_step (S_plain (O_field tf29_0) ⟨T1 rfl, trivial⟩ rfl rfl) ?_
  refine WL_step (S_plain (O_load ta3) ⟨T1 rfl, trivial⟩ rfl rfl) ?_
  refine WL_step (S_plain (O_field tf29_0) ⟨T1 rfl, trivial⟩ rfl rfl) ?_
  refine WL_step (S_plain (O_load ta3) ⟨T1 rfl, trivial⟩ rfl rfl) ?_
  refine WL_step (S_plain O_neq ⟨T1 rfl, T1 rfl, trivial⟩ rfl rfl) ?_
  refine WL_mv rfl rfl ?_
  refine WL_step (S_f1 rfl rfl (fun hc => (O_field tf29_2)) ⟨⟨_, rfl, (by first | exact fun _ _ => rfl | exact fun h _ => h | exact fun _ h => h | exact fun h k => band h k | exact fun h _ => bandl h | exact fun h _ => bandr h)⟩, trivial⟩ rfl rfl rfl) ?_
  refine WL_step (S_f1 rfl rfl (fun hc => (O_load ta4)) ⟨⟨_, rfl, (by first | exact fun _ _ => rfl | exact fun h _ => h | exact fun _ h => h | exact fun h k => band h k | exact fun h _ => bandl h | exact fun h _ => bandr h)⟩, trivial⟩ rfl rfl rfl) ?_
  refine WL_step (S_f1 rfl rfl (fun hc => (O_field tf29_2)) ⟨⟨_, rfl, (by first | exact fun _ _ => rfl | exact fun h _ => h | exact fun _ h => h | exact fun h k => band h k | exact fun h _ => bandl h | exact fun h _ => bandr h)⟩, trivial⟩ rfl rfl rfl) ?_
  refine WL_step (S_f1 rfl rfl (fun hc => (O_load ta4)) ⟨⟨_, rfl, (by first | exact fun _ _ => rfl | exact fun h _ => h | exact fun _ h => h | exact fun h k => band h k | exact fun h _ => bandl h | exact fun h _ => bandr h)⟩, trivial⟩ rfl rfl rfl) ?_
  refine WL_step (S_f1 rfl rfl (fun hc => (O_neb ub4)) ⟨⟨_, rfl, (by first | exact fun _ _ => rfl | exact fun h _ => h | exact fun _ h => h | exact fun h k => band h k | exact fun h _ => bandl h | exact fun h _ => bandr h)⟩, ⟨_, rfl, (by first | exact fun _ _ => rfl | exact fun h _ => h | exact fun _ h => h | exact fun h k => band h k | exact fun h _ => bandl h | exact fun h _ => bandr h)⟩, trivial⟩ rfl rfl rfl) ?_
  refine WL_step (S_plain O_or ⟨T1 rfl, ⟨_, rfl, (by first | exact fun _ _ => rfl | exact fun h _ => h | exact fun _ h => h | exact fun h k => band h k | exact fun h _ => bandl h | exact fun h _ => bandr h)⟩, trivial⟩ rfl rfl) ?_
  refine WL_mv rfl rfl ?_
  refine WL_step (S_f1 rfl rfl (fun hc => (O_field tf29_3)) ⟨⟨_, rfl, (by first | exact fun _ _ => rfl | exact fun h _ => h | exact fun _ h => h | exact fun h k => band h k | exact fun h _ => bandl h | exact fun h _ => bandr h)⟩, trivial⟩ rfl rfl rfl) ?_
  refine WL_step (S_f1 rfl rfl (fun hc => (O_load ta27)) ⟨⟨_, rfl, (by first | exact fun _ _ => rfl | exact fun h _ => h | exact fun _ h => h | exact fun h k => band h k | exact fun h _ => bandl h | exact fun h _ => bandr h)⟩, trivial⟩ rfl rfl rfl) ?_
  refine WL_step (S_f1 rfl rfl (fun hc => (O_len ts27)) ⟨⟨_, rfl, (by first | exact fun _ _ => rfl | exact fun h _ => h | exact fun _ h => h | exact fun h k => band h k | exact fun h _ => bandl h | exact fun h _ => bandr h)⟩, trivial⟩ rfl rfl rfl) ?_
  refine WL_step (S_f1 rfl rfl (fun hc => (O_field tf29_3)) ⟨⟨_, rfl, (by first | exact fun _ _ => rfl | exact fun h _ => h | exact fun _ h => h | exact fun h k => band h k | exact fun h _ => bandl h | exact fun h _ => bandr h)⟩, trivial⟩ rfl rfl rfl) ?_
  refine WL_step (S_f1 rfl rfl (fun hc => (O_load ta27)) ⟨⟨_, rfl, (by first | exact fun _ _ => rfl | exact fun h _ => h | exact fun _ h => h | exact fun h k => band h k | exact fun h _ => bandl h | exact fun h _ => bandr h)⟩, trivial⟩ rfl rfl rfl) ?_
  refine WL_step (S_f1 rfl rfl (fun hc => (O_len ts27)) ⟨⟨_, rfl, (by first | exact fun _ _ => rfl | exact fun h _ => h | exact fun _ h => h | exact fun h k => band h k | exact fun h _ => bandl h | exact fun h _ => bandr h)⟩, trivial⟩ rfl rfl rfl) ?_
  refine WL_step (S_f1 rfl rfl (fun hc => O_neq) ⟨⟨_, rfl, (by first | exact fun _ _ => rfl | exact fun h _ => h | exact fun _ h => h | exact fun h k => band h k | exact fun h _ => bandl h | exact fun h _ => bandr h)⟩, ⟨_, rfl, (by first | exact fun _ _ => rfl | exact fun h _ => h | exact fun _ h => h | exact fun h k => band h k | exact fun h _ => bandl h | exact fun h _ => bandr h)⟩, trivial⟩ rfl rfl rfl) ?_
  refine WL_step (S_plain O_or ⟨T1 rfl, ⟨_, rfl, (by first | exact fun _ _ => rfl | exact fun h _ => h | exact fun _ h => h | exact fun h k => band h k | exact fun h _ => bandl h | exact fun h _ => bandr h)⟩, trivial⟩ rfl rfl) ?_
  refine WL_mv rfl rfl ?_
  refine WL_step (S_f1 rfl rfl (fun hc => O_move) ⟨⟨_, rfl, (by first | exact fun _ _ => rfl | exact fun h _ => h | exact fun _ h => h | exact fun h k => band h k | exact fun h _ => bandl h | exact fun h _ => bandr h)⟩, trivial⟩ rfl rfl rfl) ?_
  refine WL_step (S_f1 rfl rfl (fun hc => (O_field tf29_1)) ⟨⟨_, rfl, (by first | exact fun _ _ => rfl | exact fun h _ => h | exact fun _ h => h | exact fun h k => band h k | exact fun h _ => bandl h | exact fun h _ => bandr h)⟩, trivial⟩ rfl rfl rfl) ?_
  refine WL_step (S_f1 rfl rfl (fun hc => (O_load ta3)) ⟨⟨_, rfl, (by first | exact fun _ _ => rfl | exact fun h _ => h | exact fun _ h => h | exact fun h k => band h k | exact fun h _ => bandl h | exact fun h _ => bandr h)⟩, trivial⟩ rfl rfl rfl) ?_
  refine WL_step (S_f1 rfl rfl (fun hc => (O_field tf29_1)) ⟨⟨_, rfl, (by first | exact fun _ _ => rfl | exact fun h _ => h | exact fun _ h => h | exact fun h k => band h k | exact fun h _ => bandl h | exact fun h _ => bandr h)⟩, trivial⟩ rfl rfl rfl) ?_
  refine WL_step (S_f1 rfl rfl (fun hc => (O_load ta3)) ⟨⟨_, rfl, (by first | exact fun _ _ => rfl | exact fun h _ => h | exact fun _ h => h | exact fun h k => band h k | exact fun h _ => bandl h | exact fun h _ => bandr h)⟩, trivial⟩ rfl rfl rfl) ?_
  refine WL_step (S_f1 rfl rfl (fun hc => O_move) ⟨⟨_, rfl, (by first | exact fun _ _ => rfl | exact fun h _ => h | exact fun _ h => h | exact fun h k => band h k | exact fun h _ => bandl h | exact fun h _ => bandr h)⟩, trivial⟩ rfl rfl rfl) ?_
  refine WL_step (S_f1 rfl rfl (fun hc => O_move) ⟨⟨_, rfl, (by first | exact fun _ _ => rfl | exact fun h _ => h | exact fun _ h => h | exact fun h k => band h k | exact fun h _ => bandl h | exact fun h _ => bandr h)⟩, trivial⟩ rfl rfl rfl) ?_
  refine WL_step (S_f1 rfl rfl (fun hc => (O_call cf94 (spec_l1Match _ (by assumption) n hS _ _ _ _ (by (try simp only [bl] at hc); omega) (by (try simp only [bl] at hc); omega) (by (try simp only [bl] at hc); omega) (by (try simp only [bl] at hc); omega) (by (try simp only [bl] at hc); omega) (by (try simp only [bl] at hc); omega) (by (try simp only [bl] at hc); omega)) rfl)) ⟨⟨_, rfl, (by first | exact fun _ _ => rfl | exact fun h _ => h | exact fun _ h => h | exact fun h k => band h k | exact fun h _ => bandl h | exact fun h _ => bandr h)⟩, ⟨_, rfl, (by first | exact fun _ _ => rfl | exact fun h _ => h | exact fun _ h => h | exact fun h k => band h k | exact fun h _ => bandl h | exact fun h _ => bandr h)⟩, ⟨_, rfl, (by first | exact fun _ _ => rfl | exact fun h _ => h | exact fun _ h => h | exact fun h k => band h k | exact fun h _ => bandl h | exact fun h _ => bandr h)⟩, ⟨_, rfl, (by first | exact fun _ _ => rfl | exact fun h _ => h | exact fun _ h => h | exact fun h k => band h k | exact fun h _ => bandl h | exact fun h _ => bandr h)⟩, ⟨_, rfl, (by first | exact fun _ _ => rfl | exact fun h _ => h | exact fun _ h => h | exact fun h k => band h k | exact fun h _ => bandl h | exact fun h _ => bandr h)⟩, trivial⟩ rfl rfl rfl) ?_
  refine WL_step (S_f1 rfl rfl (fun hc => O_not) ⟨⟨_, rfl, (by first | exact fun _ _ => rfl | exact fun h _ => h | exact fun _ h => h | exact fun h k => band h k | exact fun h _ => bandl h | exact fun h _ => bandr h)⟩, trivial⟩ rfl rfl rfl) ?_
  refine WL_step (S_plain O_or ⟨T1 rfl, ⟨_, rfl, (by first | exact fun _ _ => rfl | exact fun h _ => h | exact fun _ h => h | exact fun h k => band h k | exact fun h _ => bandl h | exact fun h _ => bandr h)⟩, trivial⟩ rfl rfl) ?_
  refine WL_nil ?_
  refine Fin_then ?_
  refine W_cond rfl (fun h0 => ?_) (fun h0 => ?_)
  · skip
    try simp only [bl] at h0
    refine W_seq ?_
    refine W_region ?_  -- R2 l1_kin.go:113
    refine WL_ac rfl ?_
    refine WL_nil ?_
    refine Fin_then ?_
    refine W_ret ?_
    refine Fin_then_ret ?_
    exact RetC rfl (Res1 rfl (RV.tmp rfl (Imp.bool (by unfold kalike; grind))))
  · skip
    try simp only [bl] at h0
    refine W_skip ?_
    refine Fin_then ?_
    refine W_seq ?_
    refine W_seq ?_
    refine W_region ?_  -- R3 l1_kin.go:115
    refine WL_ac rfl ?_
    refine WL_nil ?_
    refine Fin_then ?_
    refine W_block ?_
    refine W_loopk [0, 3, 4, 6, 7] (T := Nat) (fun k => k ≤ s.fields.length ∧ ∀ j, j < k → (fun i => decide ((idx s.fields (i : Int)).kind = (idx t.fields (i : Int)).kind) && ((idx s.fields (i : Int)).mu == (idx t.fields (i : Int)).mu) && (decide ((idx s.fields (i : Int)).kind = 1) || kmatch (same n G) G (idx s.fields (i : Int)).of (idx t.fields (i : Int)).of x y)) j = true) (fun k => [(11, true, A.int (k : Int))]) (fun k => s.fields.length - k) 0 ⟨Nat.zero_le _, allN_zero⟩ ⟨⟨rfl, _, rfl, (by first | exact Imp.refl | exact Imp.slv | exact Imp.nil | exact Imp.int (by omega) | exact Imp.int (by simp; done) | exact Imp.bool (by simp_all; done))⟩, trivial⟩ (fun k hx => ?_)
    have hk := hx.1
    have hj := hx.2
    have hs2 := hs.of (k : Int)
    have ht2 := ht.of (k : Int)
    refine W_seq ?_
    refine W_seq ?_
    refine W_region ?_  -- R4 l1_kin.go:115
    refine WL_mv rfl rfl ?_
    refine WL_step (S_plain (O_field tf29_3) ⟨T1 rfl, trivial⟩ rfl rfl) ?_
    refine WL_step (S_plain (O_load ta27) ⟨T1 rfl, trivial⟩ rfl rfl) ?_
    refine WL_len ts27 rfl rfl fun hl47 => ?_
    refine WL_step (S_plain O_lss ⟨T1 rfl, T1 rfl, trivial⟩ rfl rfl) ?_
    refine WL_nil ?_
    refine Fin_then ?_
    refine W_cond rfl (fun h1 => ?_) (fun h1 => ?_)
    · skip
      try simp only [bl] at h1
      refine W_skip ?_
      refine Fin_then ?_
      refine W_seq ?_
      refine W_block ?_
      refine W_seq ?_
      refine W_seq ?_
      refine W_draw 28 mix rfl rfl ?_  -- R6 l1_kin.go:116
      refine Chain_cons (S_plain (O_field tf29_3) ⟨T1 rfl, trivial⟩ rfl rfl) ?_
      refine Chain_cons (S_plain (O_load ta27) ⟨T1 rfl, trivial⟩ rfl rfl) ?_
      refine Chain_cons (S_plain O_move ⟨T1 rfl, trivial⟩ rfl rfl) ?_
      refine Chain_cons (S_plain (O_index ts27 (by omega)) ⟨T1 rfl, T1 rfl, trivial⟩ rfl rfl) ?_
      refine Chain_cons (S_plain (O_field tf33_0) ⟨T1 rfl, trivial⟩ rfl rfl) ?_
      refine Chain_cons (S_plain (O_load ta3) ⟨T1 rfl, trivial⟩ rfl rfl) ?_
      refine Chain_cons (S_plain (O_field tf29_3) ⟨T1 rfl, trivial⟩ rfl rfl) ?_
      refine Chain_cons (S_plain (O_load ta27) ⟨T1 rfl, trivial⟩ rfl rfl) ?_
      refine Chain_cons (S_plain O_move ⟨T1 rfl, trivial⟩ rfl rfl) ?_
      refine Chain_cons (S_plain (O_index ts27 (by omega)) ⟨T1 rfl, T1 rfl, trivial⟩ rfl rfl) ?_
      refine Chain_cons (S_plain (O_field tf33_0) ⟨T1 rfl, trivial⟩ rfl rfl) ?_
      refine Chain_cons (S_plain (O_load ta3) ⟨T1 rfl, trivial⟩ rfl rfl) ?_
      refine Chain_cons (S_plain O_neq ⟨T1 rfl, T1 rfl, trivial⟩ rfl rfl) ?_
      refine Chain_cons (S_plain O_move ⟨T1 rfl, trivial⟩ rfl rfl) ?_
      refine Chain_cons (S_f1 rfl rfl (fun hc => (O_field tf29_3)) ⟨⟨_, rfl, (by first | exact fun _ _ => rfl | exact fun h _ => h | exact fun _ h => h | exact fun h k => band h k | exact fun h _ => bandl h | exact fun h _ => bandr h)⟩, trivial⟩ rfl rfl rfl) ?_
      refine Chain_cons (S_f1 rfl rfl (fun hc => (O_load ta27)) ⟨⟨_, rfl, (by first | exact fun _ _ => rfl | exact fun h _ => h | exact fun _ h => h | exact fun h k => band h k | exact fun h _ => bandl h | exact fun h _ => bandr h)⟩, trivial⟩ rfl rfl rfl) ?_
      refine Chain_cons (S_f1 rfl rfl (fun hc => O_move) ⟨⟨_, rfl, (by first | exact fun _ _ => rfl | exact fun h _ => h | exact fun _ h => h | exact fun h k => band h k | exact fun h _ => bandl h | exact fun h _ => bandr h)⟩, trivial⟩ rfl rfl rfl) ?_
      refine Chain_cons (S_f1 rfl rfl (fun hc => (O_index ts27 (by (try simp only [bl] at hc); omega))) ⟨⟨_, rfl, (by first | exact fun _ _ => rfl | exact fun h _ => h | exact fun _ h => h | exact fun h k => band h k | exact fun h _ => bandl h | exact fun h _ => bandr h)⟩, ⟨_, rfl, (by first | exact fun _ _ => rfl | exact fun h _ => h | exact fun _ h => h | exact fun h k => band h k | exact fun h _ => bandl h | exact fun h _ => bandr h)⟩, trivial⟩ rfl rfl rfl) ?_
      refine Chain_cons (S_f1 rfl rfl (fun hc => (O_field tf33_2)) ⟨⟨_, rfl, (by first | exact fun _ _ => rfl | exact fun h _ => h | exact fun _ h => h | exact fun h k => band h k | exact fun h _ => bandl h | exact fun h _ => bandr h)⟩, trivial⟩ rfl rfl rfl) ?_
      refine Chain_cons (S_f1 rfl rfl (fun hc => (O_load ta4)) ⟨⟨_, rfl, (by first | exact fun _ _ => rfl | exact fun h _ => h | exact fun _ h => h | exact fun h k => band h k | exact fun h _ => bandl h | exact fun h _ => bandr h)⟩, trivial⟩ rfl rfl rfl) ?_
      refine Chain_cons (S_f1 rfl rfl (fun hc => (O_field tf29_3)) ⟨⟨_, rfl, (by first | exact fun _ _ => rfl | exact fun h _ => h | exact fun _ h => h | exact fun h k => band h k | exact fun h _ => bandl h | exact fun h _ => bandr h)⟩, trivial⟩ rfl rfl rfl) ?_
      refine Chain_cons (S_f1 rfl rfl (fun hc => (O_load ta27)) ⟨⟨_, rfl, (by first | exact fun _ _ => rfl | exact fun h _ => h | exact fun _ h => h | exact fun h k => band h k | exact fun h _ => bandl h | exact fun h _ => bandr h)⟩, trivial⟩ rfl rfl rfl) ?_
      refine Chain_cons (S_f1 rfl rfl (fun hc => O_move) ⟨⟨_, rfl, (by first | exact fun _ _ => rfl | exact fun h _ => h | exact fun _ h => h | exact fun h k => band h k | exact fun h _ => bandl h | exact fun h _ => bandr h)⟩, trivial⟩ rfl rfl rfl) ?_
      refine Chain_cons (S_f1 rfl rfl (fun hc => (O_index ts27 (by (try simp only [bl] at hc); omega))) ⟨⟨_, rfl, (by first | exact fun _ _ => rfl | exact fun h _ => h | exact fun _ h => h | exact fun h k => band h k | exact fun h _ => bandl h | exact fun h _ => bandr h)⟩, ⟨_, rfl, (by first | exact fun _ _ => rfl | exact fun h _ => h | exact fun _ h => h | exact fun h k => band h k | exact fun h _ => bandl h | exact fun h _ => bandr h)⟩, trivial⟩ rfl rfl rfl) ?_
      refine Chain_cons (S_f1 rfl rfl (fun hc => (O_field tf33_2)) ⟨⟨_, rfl, (by first | exact fun _ _ => rfl | exact fun h _ => h | exact fun _ h => h | exact fun h k => band h k | exact fun h _ => bandl h | exact fun h _ => bandr h)⟩, trivial⟩ rfl rfl rfl) ?_
      refine Chain_cons (S_f1 rfl rfl (fun hc => (O_load ta4)) ⟨⟨_, rfl, (by first | exact fun _ _ => rfl | exact fun h _ => h | exact fun _ h => h | exact fun h k => band h k | exact fun h _ => bandl h | exact fun h _ => bandr h)⟩, trivial⟩ rfl rfl rfl) ?_
      refine Chain_cons (S_f1 rfl rfl (fun hc => (O_neb ub4)) ⟨⟨_, rfl, (by first | exact fun _ _ => rfl | exact fun h _ => h | exact fun _ h => h | exact fun h k => band h k | exact fun h _ => bandl h | exact fun h _ => bandr h)⟩, ⟨_, rfl, (by first | exact fun _ _ => rfl | exact fun h _ => h | exact fun _ h => h | exact fun h k => band h k | exact fun h _ => bandl h | exact fun h _ => bandr h)⟩, trivial⟩ rfl rfl rfl) ?_
      refine Chain_cons (S_plain O_or ⟨T1 rfl, ⟨_, rfl, (by first | exact fun _ _ => rfl | exact fun h _ => h | exact fun _ h => h | exact fun h k => band h k | exact fun h _ => bandl h | exact fun h _ => bandr h)⟩, trivial⟩ rfl rfl) ?_
      refine Chain_nil ?_
      refine WL_nil ?_
      refine Fin_then ?_
      refine W_cond rfl (fun h2 => ?_) (fun h2 => ?_)
      · skip
        try simp only [bl] at h2
        refine W_seq ?_
        refine W_region ?_  -- R7 l1_kin.go:117
        refine WL_ac rfl ?_
        refine WL_nil ?_
        refine Fin_then ?_
        refine W_ret ?_
        refine Fin_then_ret ?_
        refine Fin_block_ret ?_
        refine Fin_then_ret ?_
        refine Fin_then_ret ?_
        refine Fin_block_ret ?_
        refine Fin_then_ret ?_
        exact RetC rfl (Res1 rfl (RV.tmp rfl (Imp.bool (by unfold kalike; rw [allN_false k (by omega) (by grind)]; simp))))
      · skip
        try simp only [bl] at h2
        refine W_skip ?_
        refine Fin_then ?_
        refine W_seq ?_
        refine W_draw 26 mix rfl rfl ?_  -- R8 l1_kin.go:119
        refine Chain_cons (S_plain (O_field tf29_3) ⟨T1 rfl, trivial⟩ rfl rfl) ?_
        refine Chain_cons (S_plain (O_load ta27) ⟨T1 rfl, trivial⟩ rfl rfl) ?_
        refine Chain_cons (S_plain O_move ⟨T1 rfl, trivial⟩ rfl rfl) ?_
        refine Chain_cons (S_plain (O_index ts27 (by omega)) ⟨T1 rfl, T1 rfl, trivial⟩ rfl rfl) ?_
        refine Chain_cons (S_plain (O_field tf33_0) ⟨T1 rfl, trivial⟩ rfl rfl) ?_
        refine Chain_cons (S_plain (O_load ta3) ⟨T1 rfl, trivial⟩ rfl rfl) ?_
        refine Chain_cons (S_plain O_neq ⟨T1 rfl, C1, trivial⟩ rfl rfl) ?_
        refine Chain_cons (S_plain O_move ⟨T1 rfl, trivial⟩ rfl rfl) ?_
        refine Chain_cons (S_t1 rfl rfl (fun hc => O_move) ⟨⟨_, rfl, (by first | exact fun _ _ => rfl | exact fun h _ => h | exact fun _ h => h | exact fun h k => band h k | exact fun h _ => bandl h | exact fun h _ => bandr h)⟩, trivial⟩ rfl rfl rfl) ?_
        refine Chain_cons (S_t1 rfl rfl (fun hc => (O_field tf29_3)) ⟨⟨_, rfl, (by first | exact fun _ _ => rfl | exact fun h _ => h | exact fun _ h => h | exact fun h k => band h k | exact fun h _ => bandl h | exact fun h _ => bandr h)⟩, trivial⟩ rfl rfl rfl) ?_
        refine Chain_cons (S_t1 rfl rfl (fun hc => (O_load ta27)) ⟨⟨_, rfl, (by first | exact fun _ _ => rfl | exact fun h _ => h | exact fun _ h => h | exact fun h k => band h k | exact fun h _ => bandl h | exact fun h _ => bandr h)⟩, trivial⟩ rfl rfl rfl) ?_
        refine Chain_cons (S_t1 rfl rfl (fun hc => O_move) ⟨⟨_, rfl, (by first | exact fun _ _ => rfl | exact fun h _ => h | exact fun _ h => h | exact fun h k => band h k | exact fun h _ => bandl h | exact fun h _ => bandr h)⟩, trivial⟩ rfl rfl rfl) ?_
        refine Chain_cons (S_t1 rfl rfl (fun hc => (O_index ts27 (by (try simp only [bl] at hc); omega))) ⟨⟨_, rfl, (by first | exact fun _ _ => rfl | exact fun h _ => h | exact fun _ h => h | exact fun h k => band h k | exact fun h _ => bandl h | exact fun h _ => bandr h)⟩, ⟨_, rfl, (by first | exact fun _ _ => rfl | exact fun h _ => h | exact fun _ h => h | exact fun h k => band h k | exact fun h _ => bandl h | exact fun h _ => bandr h)⟩, trivial⟩ rfl rfl rfl) ?_
        refine Chain_cons (S_t1 rfl rfl (fun hc => (O_field tf33_1)) ⟨⟨_, rfl, (by first | exact fun _ _ => rfl | exact fun h _ => h | exact fun _ h => h | exact fun h k => band h k | exact fun h _ => bandl h | exact fun h _ => bandr h)⟩, trivial⟩ rfl rfl rfl) ?_
        refine Chain_cons (S_t1 rfl rfl (fun hc => (O_load ta3)) ⟨⟨_, rfl, (by first | exact fun _ _ => rfl | exact fun h _ => h | exact fun _ h => h | exact fun h k => band h k | exact fun h _ => bandl h | exact fun h _ => bandr h)⟩, trivial⟩ rfl rfl rfl) ?_
        refine Chain_cons (S_t1 rfl rfl (fun hc => (O_field tf29_3)) ⟨⟨_, rfl, (by first | exact fun _ _ => rfl | exact fun h _ => h | exact fun _ h => h | exact fun h k => band h k | exact fun h _ => bandl h | exact fun h _ => bandr h)⟩, trivial⟩ rfl rfl rfl) ?_
        refine Chain_cons (S_t1 rfl rfl (fun hc => (O_load ta27)) ⟨⟨_, rfl, (by first | exact fun _ _ => rfl | exact fun h _ => h | exact fun _ h => h | exact fun h k => band h k | exact fun h _ => bandl h | exact fun h _ => bandr h)⟩, trivial⟩ rfl rfl rfl) ?_
        refine Chain_cons (S_t1 rfl rfl (fun hc => O_move) ⟨⟨_, rfl, (by first | exact fun _ _ => rfl | exact fun h _ => h | exact fun _ h => h | exact fun h k => band h k | exact fun h _ => bandl h | exact fun h _ => bandr h)⟩, trivial⟩ rfl rfl rfl) ?_
        refine Chain_cons (S_t1 rfl rfl (fun hc => (O_index ts27 (by (try simp only [bl] at hc); omega))) ⟨⟨_, rfl, (by first | exact fun _ _ => rfl | exact fun h _ => h | exact fun _ h => h | exact fun h k => band h k | exact fun h _ => bandl h | exact fun h _ => bandr h)⟩, ⟨_, rfl, (by first | exact fun _ _ => rfl | exact fun h _ => h | exact fun _ h => h | exact fun h k => band h k | exact fun h _ => bandl h | exact fun h _ => bandr h)⟩, trivial⟩ rfl rfl rfl) ?_
        refine Chain_cons (S_t1 rfl rfl (fun hc => (O_field tf33_1)) ⟨⟨_, rfl, (by first | exact fun _ _ => rfl | exact fun h _ => h | exact fun _ h => h | exact fun h k => band h k | exact fun h _ => bandl h | exact fun h _ => bandr h)⟩, trivial⟩ rfl rfl rfl) ?_
        refine Chain_cons (S_t1 rfl rfl (fun hc => (O_load ta3)) ⟨⟨_, rfl, (by first | exact fun _ _ => rfl | exact fun h _ => h | exact fun _ h => h | exact fun h k => band h k | exact fun h _ => bandl h | exact fun h _ => bandr h)⟩, trivial⟩ rfl rfl rfl) ?_
        refine Chain_cons (S_t1 rfl rfl (fun hc => O_move) ⟨⟨_, rfl, (by first | exact fun _ _ => rfl | exact fun h _ => h | exact fun _ h => h | exact fun h k => band h k | exact fun h _ => bandl h | exact fun h _ => bandr h)⟩, trivial⟩ rfl rfl rfl) ?_
        refine Chain_cons (S_t1 rfl rfl (fun hc => O_move) ⟨⟨_, rfl, (by first | exact fun _ _ => rfl | exact fun h _ => h | exact fun _ h => h | exact fun h k => band h k | exact fun h _ => bandl h | exact fun h _ => bandr h)⟩, trivial⟩ rfl rfl rfl) ?_
        refine Chain_cons (S_t1 rfl rfl (fun hc => (O_call cf94 (spec_l1Match _ (by assumption) n hS _ _ _ _ (by (try simp only [bl] at hc); omega) (by (try simp only [bl] at hc); omega) (by (try simp only [bl] at hc); omega) (by (try simp only [bl] at hc); omega) (by (try simp only [bl] at hc); omega) (by (try simp only [bl] at hc); omega) (by (try simp only [bl] at hc); omega)) rfl)) ⟨⟨_, rfl, (by first | exact fun _ _ => rfl | exact fun h _ => h | exact fun _ h => h | exact fun h k => band h k | exact fun h _ => bandl h | exact fun h _ => bandr h)⟩, ⟨_, rfl, (by first | exact fun _ _ => rfl | exact fun h _ => h | exact fun _ h => h | exact fun h k => band h k | exact fun h _ => bandl h | exact fun h _ => bandr h)⟩, ⟨_, rfl, (by first | exact fun _ _ => rfl | exact fun h _ => h | exact fun _ h => h | exact fun h k => band h k | exact fun h _ => bandl h | exact fun h _ => bandr h)⟩, ⟨_, rfl, (by first | exact fun _ _ => rfl | exact fun h _ => h | exact fun _ h => h | exact fun h k => band h k | exact fun h _ => bandl h | exact fun h _ => bandr h)⟩, ⟨_, rfl, (by first | exact fun _ _ => rfl | exact fun h _ => h | exact fun _ h => h | exact fun h k => band h k | exact fun h _ => bandl h | exact fun h _ => bandr h)⟩, trivial⟩ rfl rfl rfl) ?_
        refine Chain_cons (S_t1 rfl rfl (fun hc => O_not) ⟨⟨_, rfl, (by first | exact fun _ _ => rfl | exact fun h _ => h | exact fun _ h => h | exact fun h k => band h k | exact fun h _ => bandl h | exact fun h _ => bandr h)⟩, trivial⟩ rfl rfl rfl) ?_
        refine Chain_cons (S_plain O_and ⟨T1 rfl, ⟨_, rfl, (by first | exact fun _ _ => rfl | exact fun h _ => h | exact fun _ h => h | exact fun h k => band h k | exact fun h _ => bandl h | exact fun h _ => bandr h)⟩, trivial⟩ rfl rfl) ?_
        refine Chain_nil ?_
        refine WL_nil ?_
        refine Fin_then ?_
        refine W_cond rfl (fun h3 => ?_) (fun h3 => ?_)
        · skip
          try simp only [bl] at h3
          refine W_seq ?_
          refine W_region ?_  -- R9 l1_kin.go:120
          refine WL_ac rfl ?_
          refine WL_nil ?_
          refine Fin_then ?_
          refine W_ret ?_
          refine Fin_block_ret ?_
          refine Fin_then_ret ?_
          refine Fin_then_ret ?_
          refine Fin_block_ret ?_
          refine Fin_then_ret ?_
          exact RetC rfl (Res1 rfl (RV.tmp rfl (Imp.bool (by unfold kalike; rw [allN_false k (by omega) (by grind)]; simp))))
        · skip
          try simp only [bl] at h3
          refine W_skip ?_
          refine Fin_block ?_
          refine Fin_then ?_
          refine W_region ?_  -- R5 l1_kin.go:115
          refine WL_mv rfl rfl ?_
          refine WL_step (S_plain (O_add (by omega)) ⟨T1 rfl, C1, trivial⟩ rfl rfl) ?_
          refine WL_as rfl rfl ?_
          refine WL_nil ?_
          exact Fin_back (k + 1) ⟨by omega, allN_succ hj (by grind)⟩ (by omega) ⟨⟨rfl, _, rfl, (by first | exact Imp.refl | exact Imp.slv | exact Imp.nil | exact Imp.int (by omega) | exact Imp.int (by simp; done) | exact Imp.bool (by simp_all; done))⟩, trivial⟩ ⟨rfl, rfl, rfl, rfl, rfl, trivial⟩ rfl rfl
    · skip
      try simp only [bl] at h1
      refine W_exit ?_
      refine Fin_then_exit ?_
      refine Fin_then_exit ?_
      refine Fin_block_exit ?_
      refine Fin_then ?_
      refine W_seq ?_
      refine W_region ?_  -- R10 l1_kin.go:123
      refine WL_ac rfl ?_
      refine WL_nil ?_
      refine Fin_then ?_
      refine W_ret ?_
      exact RetC rfl (Res1 rfl (RV.tmp rfl (Imp.bool (by unfold kalike; rw [allN_true (fun j q => hj j (by omega))]; grind))))
set_option maxRecDepth 8000 in
theorem spec_l1Same_step (G : Kin) (hG : Small G) (n : Nat) (hS : ∀ c d : Int, 0 ≤ c → c < n → c < kcnt G → 0 ≤ d → d < kcnt G → FnC Try.prog 63 [A.sl 1 cGrp G, A.int c, A.int d] (A.bool (same n G c d))) (a b : Int) (ha0 : 0 ≤ a) (ha : a < kcnt G) (han : a < n + 1) (hb0 : 0 ≤ b) (hb : b < kcnt G) : FnC Try.prog 63 [A.sl 1 cGrp G, A.int a, A.int b] (A.bool (same (n + 1) G a b)) := by
  obtain ⟨ka, ea, ka1, ka2, ka3⟩ := kgrp_spec ha0 ha
  obtain ⟨kb, eb, kb1, kb2, kb3⟩ := kgrp_spec hb0 hb
  rw [← ea] at ka2 ka3
  rw [← eb] at kb2 kb3
  have hcc := hG.kcnt
  have hxa : 0 ≤ kgrp G a ∧ kgrp G a < G.length := by omega
  have hxb : 0 ≤ kgrp G b ∧ kgrp G b < G.length := by omega
  have n1 := kbeg_nonneg G (kgrp G a)
  have n2 := kbeg_nonneg G (kgrp G b)
  refine Fn_of_W Try.func63 rfl rfl fun r w => ?_
  refine W_seq ?_
  refine W_region ?_  -- R0 l1_kin.go:127
  refine WL_ac rfl ?_
  refine WL_nil ?_
  refine Fin_then ?_
  refine W_seq ?_
  refine W_seq ?_
  refine W_region ?_  -- R1 l1_kin.go:128
  refine WL_mv rfl rfl ?_
  refine WL_mv rfl rfl ?_
  refine WL_step (S_plain O_eql ⟨T1 rfl, T1 rfl, trivial⟩ rfl rfl) ?_
  refine WL_nil ?_
  refine Fin_then ?_
  refine W_cond rfl (fun h0 => ?_) (fun h0 => ?_)
  · skip
    try simp only [bl] at h0
    refine W_seq ?_
    refine W_region ?_  -- R2 l1_kin.go:129
    refine WL_ac rfl ?_
    refine WL_nil ?_
    refine Fin_then ?_
    refine W_ret ?_
    refine Fin_then_ret ?_
    exact RetC rfl (Res1 rfl (RV.tmp rfl (Imp.bool (by unfold same; rw [if_pos (by assumption)]))))
  · skip
    try simp only [bl] at h0
    refine W_skip ?_
    refine Fin_then ?_
    refine W_seq ?_
    refine W_region ?_  -- R3 l1_kin.go:131
    refine WL_mv rfl rfl ?_
    refine WL_mv rfl rfl ?_
    refine WL_step (S_plain (O_call cf82 (spec_l1Group _ (by assumption) _) rfl) ⟨T1 rfl, T1 rfl, trivial⟩ rfl rfl) ?_
    refine WL_as rfl rfl ?_
    refine WL_nil ?_
    refine Fin_then ?_
    refine W_seq ?_
    refine W_region ?_  -- R4 l1_kin.go:132
    refine WL_mv rfl rfl ?_
    refine WL_mv rfl rfl ?_
    refine WL_step (S_plain (O_call cf82 (spec_l1Group _ (by assumption) _) rfl) ⟨T1 rfl, T1 rfl, trivial⟩ rfl rfl) ?_
    refine WL_as rfl rfl ?_
    refine WL_nil ?_
    refine Fin_then ?_
    refine W_seq ?_
    refine W_seq ?_
    refine W_draw 29 mix rfl rfl ?_  -- R5 l1_kin.go:133
    refine Chain_cons (S_plain O_move ⟨T1 rfl, trivial⟩ rfl rfl) ?_
    refine Chain_cons (S_plain O_move ⟨T1 rfl, trivial⟩ rfl rfl) ?_
    refine Chain_cons (S_plain O_eql ⟨T1 rfl, T1 rfl, trivial⟩ rfl rfl) ?_
    refine Chain_cons (S_plain O_move ⟨T1 rfl, trivial⟩ rfl rfl) ?_
    refine Chain_cons (S_f1 rfl rfl (fun hc => O_move) ⟨⟨_, rfl, (by first | exact fun _ _ => rfl | exact fun h _ => h | exact fun _ h => h | exact fun h k => band h k | exact fun h _ => bandl h | exact fun h _ => bandr h)⟩, trivial⟩ rfl rfl rfl) ?_
    refine Chain_cons (S_f1 rfl rfl (fun hc => O_move) ⟨⟨_, rfl, (by first | exact fun _ _ => rfl | exact fun h _ => h | exact fun _ h => h | exact fun h k => band h k | exact fun h _ => bandl h | exact fun h _ => bandr h)⟩, trivial⟩ rfl rfl rfl) ?_
    refine Chain_cons (S_f1 rfl rfl (fun hc => O_move) ⟨⟨_, rfl, (by first | exact fun _ _ => rfl | exact fun h _ => h | exact fun _ h => h | exact fun h k => band h k | exact fun h _ => bandl h | exact fun h _ => bandr h)⟩, trivial⟩ rfl rfl rfl) ?_
    refine Chain_cons (S_f1 rfl rfl (fun hc => (O_call cf65 (spec_l1Begin _ (by assumption) _ (by (try simp only [bl] at hc); omega) (by (try simp only [bl] at hc); omega)) rfl)) ⟨⟨_, rfl, (by first | exact fun _ _ => rfl | exact fun h _ => h | exact fun _ h => h | exact fun h k => band h k | exact fun h _ => bandl h | exact fun h _ => bandr h)⟩, ⟨_, rfl, (by first | exact fun _ _ => rfl | exact fun h _ => h | exact fun _ h => h | exact fun h k => band h k | exact fun h _ => bandl h | exact fun h _ => bandr h)⟩, trivial⟩ rfl rfl rfl) ?_
    refine Chain_cons (S_f1 rfl rfl (fun hc => (O_sub (by (try simp only [bl] at hc); omega))) ⟨⟨_, rfl, (by first | exact fun _ _ => rfl | exact fun h _ => h | exact fun _ h => h | exact fun h k => band h k | exact fun h _ => bandl h | exact fun h _ => bandr h)⟩, ⟨_, rfl, (by first | exact fun _ _ => rfl | exact fun h _ => h | exact fun _ h => h | exact fun h k => band h k | exact fun h _ => bandl h | exact fun h _ => bandr h)⟩, trivial⟩ rfl rfl rfl) ?_
    refine Chain_cons (S_f1 rfl rfl (fun hc => O_move) ⟨⟨_, rfl, (by first | exact fun _ _ => rfl | exact fun h _ => h | exact fun _ h => h | exact fun h k => band h k | exact fun h _ => bandl h | exact fun h _ => bandr h)⟩, trivial⟩ rfl rfl rfl) ?_
    refine Chain_cons (S_f1 rfl rfl (fun hc => O_move) ⟨⟨_, rfl, (by first | exact fun _ _ => rfl | exact fun h _ => h | exact fun _ h => h | exact fun h k => band h k | exact fun h _ => bandl h | exact fun h _ => bandr h)⟩, trivial⟩ rfl rfl rfl) ?_
    refine Chain_cons (S_f1 rfl rfl (fun hc => O_move) ⟨⟨_, rfl, (by first | exact fun _ _ => rfl | exact fun h _ => h | exact fun _ h => h | exact fun h k => band h k | exact fun h _ => bandl h | exact fun h _ => bandr h)⟩, trivial⟩ rfl rfl rfl) ?_
    refine Chain_cons (S_f1 rfl rfl (fun hc => (O_call cf65 (spec_l1Begin _ (by assumption) _ (by (try simp only [bl] at hc); omega) (by (try simp only [bl] at hc); omega)) rfl)) ⟨⟨_, rfl, (by first | exact fun _ _ => rfl | exact fun h _ => h | exact fun _ h => h | exact fun h k => band h k | exact fun h _ => bandl h | exact fun h _ => bandr h)⟩, ⟨_, rfl, (by first | exact fun _ _ => rfl | exact fun h _ => h | exact fun _ h => h | exact fun h k => band h k | exact fun h _ => bandl h | exact fun h _ => bandr h)⟩, trivial⟩ rfl rfl rfl) ?_
    refine Chain_cons (S_f1 rfl rfl (fun hc => (O_sub (by (try simp only [bl] at hc); omega))) ⟨⟨_, rfl, (by first | exact fun _ _ => rfl | exact fun h _ => h | exact fun _ h => h | exact fun h k => band h k | exact fun h _ => bandl h | exact fun h _ => bandr h)⟩, ⟨_, rfl, (by first | exact fun _ _ => rfl | exact fun h _ => h | exact fun _ h => h | exact fun h k => band h k | exact fun h _ => bandl h | exact fun h _ => bandr h)⟩, trivial⟩ rfl rfl rfl) ?_
    refine Chain_cons (S_f1 rfl rfl (fun hc => O_neq) ⟨⟨_, rfl, (by first | exact fun _ _ => rfl | exact fun h _ => h | exact fun _ h => h | exact fun h k => band h k | exact fun h _ => bandl h | exact fun h _ => bandr h)⟩, ⟨_, rfl, (by first | exact fun _ _ => rfl | exact fun h _ => h | exact fun _ h => h | exact fun h k => band h k | exact fun h _ => bandl h | exact fun h _ => bandr h)⟩, trivial⟩ rfl rfl rfl) ?_
    refine Chain_cons (S_plain O_or ⟨T1 rfl, ⟨_, rfl, (by first | exact fun _ _ => rfl | exact fun h _ => h | exact fun _ h => h | exact fun h k => band h k | exact fun h _ => bandl h | exact fun h _ => bandr h)⟩, trivial⟩ rfl rfl) ?_
    refine Chain_cons (S_plain O_move ⟨T1 rfl, trivial⟩ rfl rfl) ?_
    refine Chain_cons (S_f1 rfl rfl (fun hc => O_move) ⟨⟨_, rfl, (by first | exact fun _ _ => rfl | exact fun h _ => h | exact fun _ h => h | exact fun h k => band h k | exact fun h _ => bandl h | exact fun h _ => bandr h)⟩, trivial⟩ rfl rfl rfl) ?_
    refine Chain_cons (S_f1 rfl rfl (fun hc => O_move) ⟨⟨_, rfl, (by first | exact fun _ _ => rfl | exact fun h _ => h | exact fun _ h => h | exact fun h k => band h k | exact fun h _ => bandl h | exact fun h _ => bandr h)⟩, trivial⟩ rfl rfl rfl) ?_
    refine Chain_cons (S_f1 rfl rfl (fun hc => (O_index ts23 (by (try simp only [bl] at hc); omega))) ⟨⟨_, rfl, (by first | exact fun _ _ => rfl | exact fun h _ => h | exact fun _ h => h | exact fun h k => band h k | exact fun h _ => bandl h | exact fun h _ => bandr h)⟩, ⟨_, rfl, (by first | exact fun _ _ => rfl | exact fun h _ => h | exact fun _ h => h | exact fun h k => band h k | exact fun h _ => bandl h | exact fun h _ => bandr h)⟩, trivial⟩ rfl rfl rfl) ?_
    refine Chain_cons (S_f1 rfl rfl (fun hc => (O_load ta38)) ⟨⟨_, rfl, (by first | exact fun _ _ => rfl | exact fun h _ => h | exact fun _ h => h | exact fun h k => band h k | exact fun h _ => bandl h | exact fun h _ => bandr h)⟩, trivial⟩ rfl rfl rfl) ?_
    refine Chain_cons (S_f1 rfl rfl (fun hc => (O_len ts38)) ⟨⟨_, rfl, (by first | exact fun _ _ => rfl | exact fun h _ => h | exact fun _ h => h | exact fun h k => band h k | exact fun h _ => bandl h | exact fun h _ => bandr h)⟩, trivial⟩ rfl rfl rfl) ?_
    refine Chain_cons (S_f1 rfl rfl (fun hc => O_move) ⟨⟨_, rfl, (by first | exact fun _ _ => rfl | exact fun h _ => h | exact fun _ h => h | exact fun h k => band h k | exact fun h _ => bandl h | exact fun h _ => bandr h)⟩, trivial⟩ rfl rfl rfl) ?_
    refine Chain_cons (S_f1 rfl rfl (fun hc => O_move) ⟨⟨_, rfl, (by first | exact fun _ _ => rfl | exact fun h _ => h | exact fun _ h => h | exact fun h k => band h k | exact fun h _ => bandl h | exact fun h _ => bandr h)⟩, trivial⟩ rfl rfl rfl) ?_
    refine Chain_cons (S_f1 rfl rfl (fun hc => (O_index ts23 (by (try simp only [bl] at hc); omega))) ⟨⟨_, rfl, (by first | exact fun _ _ => rfl | exact fun h _ => h | exact fun _ h => h | exact fun h k => band h k | exact fun h _ => bandl h | exact fun h _ => bandr h)⟩, ⟨_, rfl, (by first | exact fun _ _ => rfl | exact fun h _ => h | exact fun _ h => h | exact fun h k => band h k | exact fun h _ => bandl h | exact fun h _ => bandr h)⟩, trivial⟩ rfl rfl rfl) ?_
    refine Chain_cons (S_f1 rfl rfl (fun hc => (O_load ta38)) ⟨⟨_, rfl, (by first | exact fun _ _ => rfl | exact fun h _ => h | exact fun _ h => h | exact fun h k => band h k | exact fun h _ => bandl h | exact fun h _ => bandr h)⟩, trivial⟩ rfl rfl rfl) ?_
    refine Chain_cons (S_f1 rfl rfl (fun hc => (O_len ts38)) ⟨⟨_, rfl, (by first | exact fun _ _ => rfl | exact fun h _ => h | exact fun _ h => h | exact fun h k => band h k | exact fun h _ => bandl h | exact fun h _ => bandr h)⟩, trivial⟩ rfl rfl rfl) ?_
    refine Chain_cons (S_f1 rfl rfl (fun hc => O_neq) ⟨⟨_, rfl, (by first | exact fun _ _ => rfl | exact fun h _ => h | exact fun _ h => h | exact fun h k => band h k | exact fun h _ => bandl h | exact fun h _ => bandr h)⟩, ⟨_, rfl, (by first | exact fun _ _ => rfl | exact fun h _ => h | exact fun _ h => h | exact fun h k => band h k | exact fun h _ => bandl h | exact fun h _ => bandr h)⟩, trivial⟩ rfl rfl rfl) ?_
    refine Chain_cons (S_plain O_or ⟨T1 rfl, ⟨_, rfl, (by first | exact fun _ _ => rfl | exact fun h _ => h | exact fun _ h => h | exact fun h k => band h k | exact fun h _ => bandl h | exact fun h _ => bandr h)⟩, trivial⟩ rfl rfl) ?_
    refine Chain_nil ?_
    refine WL_nil ?_
    refine Fin_then ?_
    refine W_cond rfl (fun h1 => ?_) (fun h1 => ?_)
    · skip
      try simp only [bl] at h1
      refine W_seq ?_
      refine W_region ?_  -- R6 l1_kin.go:134
      refine WL_ac rfl ?_
      refine WL_nil ?_
      refine Fin_then ?_
      refine W_ret ?_
      refine Fin_then_ret ?_
      exact RetC rfl (Res1 rfl (RV.tmp rfl (Imp.bool (by unfold same; grind))))
    · skip
      try simp only [bl] at h1
      refine W_skip ?_
      refine Fin_then ?_
      refine W_seq ?_
      refine W_seq ?_
      refine W_region ?_  -- R7 l1_kin.go:136
      refine WL_ac rfl ?_
      refine WL_nil ?_
      refine Fin_then ?_
      refine W_block ?_
      refine W_loopk [0, 7, 8] (T := Nat) (fun k => k ≤ (idx G (kgrp G a)).length ∧ ∀ j, j < k → (fun i => kalike (same n G) G (idx (idx G (kgrp G a)) (i : Int)) (idx (idx G (kgrp G b)) (i : Int)) (kgrp G a) (kgrp G b)) j = true) (fun k => [(9, true, A.int (k : Int))]) (fun k => (idx G (kgrp G a)).length - k) 0 ⟨Nat.zero_le _, allN_zero⟩ ⟨⟨rfl, _, rfl, (by first | exact Imp.refl | exact Imp.slv | exact Imp.nil | exact Imp.int (by omega) | exact Imp.int (by simp; done) | exact Imp.bool (by simp_all; done))⟩, trivial⟩ (fun k hx => ?_)
      have hk := hx.1
      have hj := hx.2
      refine W_seq ?_
      refine W_seq ?_
      refine W_region ?_  -- R8 l1_kin.go:136
      refine WL_mv rfl rfl ?_
      refine WL_mv rfl rfl ?_
      refine WL_mv rfl rfl ?_
      refine WL_step (S_plain (O_index ts23 (by omega)) ⟨T1 rfl, T1 rfl, trivial⟩ rfl rfl) ?_
      refine WL_step (S_plain (O_load ta38) ⟨T1 rfl, trivial⟩ rfl rfl) ?_
      refine WL_len ts38 rfl rfl fun hl53 => ?_
      refine WL_step (S_plain O_lss ⟨T1 rfl, T1 rfl, trivial⟩ rfl rfl) ?_
      refine WL_nil ?_
      refine Fin_then ?_
      refine W_cond rfl (fun h2 => ?_) (fun h2 => ?_)
      · skip
        try simp only [bl] at h2
        refine W_skip ?_
        refine Fin_then ?_
        refine W_seq ?_
        refine W_block ?_
        refine W_seq ?_
        refine W_draw 19 mix rfl rfl ?_  -- R10 l1_kin.go:137
        refine Chain_cons (S_plain O_move ⟨T1 rfl, trivial⟩ rfl rfl) ?_
        refine Chain_cons (S_plain O_move ⟨T1 rfl, trivial⟩ rfl rfl) ?_
        refine Chain_cons (S_plain O_move ⟨T1 rfl, trivial⟩ rfl rfl) ?_
        refine Chain_cons (S_plain (O_index ts23 (by omega)) ⟨T1 rfl, T1 rfl, trivial⟩ rfl rfl) ?_
        refine Chain_cons (S_plain (O_load ta38) ⟨T1 rfl, trivial⟩ rfl rfl) ?_
        refine Chain_cons (S_plain O_move ⟨T1 rfl, trivial⟩ rfl rfl) ?_
        refine Chain_cons (S_plain (O_index ts38 (by omega)) ⟨T1 rfl, T1 rfl, trivial⟩ rfl rfl) ?_
        refine Chain_cons (S_plain (O_loadgw tg29 rfl) ⟨T1 rfl, trivial⟩ rfl rfl) ?_
        refine Chain_cons (S_plain O_move ⟨T1 rfl, trivial⟩ rfl rfl) ?_
        refine Chain_cons (S_plain O_move ⟨T1 rfl, trivial⟩ rfl rfl) ?_
        refine Chain_cons (S_plain (O_index ts23 (by omega)) ⟨T1 rfl, T1 rfl, trivial⟩ rfl rfl) ?_
        refine Chain_cons (S_plain (O_load ta38) ⟨T1 rfl, trivial⟩ rfl rfl) ?_
        refine Chain_cons (S_plain O_move ⟨T1 rfl, trivial⟩ rfl rfl) ?_
        refine Chain_cons (S_plain (O_index ts38 (by omega)) ⟨T1 rfl, T1 rfl, trivial⟩ rfl rfl) ?_
        refine Chain_cons (S_plain (O_loadgw tg29 rfl) ⟨T1 rfl, trivial⟩ rfl rfl) ?_
        refine Chain_cons (S_plain O_move ⟨T1 rfl, trivial⟩ rfl rfl) ?_
        refine Chain_cons (S_plain O_move ⟨T1 rfl, trivial⟩ rfl rfl) ?_
        refine Chain_cons (S_plain (O_call cf83 (spec_l1Alike _ (by assumption) n hS _ _ _ _ (by omega) (by omega) (by omega) (by omega) (by omega) (hG.ty _ _) (hG.ty _ _)) rfl) ⟨T1 rfl, T1 rfl, T1 rfl, T1 rfl, T1 rfl, trivial⟩ rfl rfl) ?_
        refine Chain_cons (S_plain O_not ⟨T1 rfl, trivial⟩ rfl rfl) ?_
        refine Chain_nil ?_
        refine WL_nil ?_
        refine Fin_then ?_
        refine W_cond rfl (fun h3 => ?_) (fun h3 => ?_)
        · skip
          try simp only [bl] at h3
          refine W_seq ?_
          refine W_region ?_  -- R11 l1_kin.go:138
          refine WL_ac rfl ?_
          refine WL_nil ?_
          refine Fin_then ?_
          refine W_ret ?_
          refine Fin_block_ret ?_
          refine Fin_then_ret ?_
          refine Fin_then_ret ?_
          refine Fin_block_ret ?_
          refine Fin_then_ret ?_
          exact RetC rfl (Res1 rfl (RV.tmp rfl (Imp.bool (by unfold same; rw [if_neg (by omega), if_neg (by omega), allN_false k (by omega) (by grind)]))))
        · skip
          try simp only [bl] at h3
          refine W_skip ?_
          refine Fin_block ?_
          refine Fin_then ?_
          refine W_region ?_  -- R9 l1_kin.go:136
          refine WL_mv rfl rfl ?_
          refine WL_step (S_plain (O_add (by omega)) ⟨T1 rfl, C1, trivial⟩ rfl rfl) ?_
          refine WL_as rfl rfl ?_
          refine WL_nil ?_
          exact Fin_back (k + 1) ⟨by omega, allN_succ hj (by grind)⟩ (by omega) ⟨⟨rfl, _, rfl, (by first | exact Imp.refl | exact Imp.slv | exact Imp.nil | exact Imp.int (by omega) | exact Imp.int (by simp; done) | exact Imp.bool (by simp_all; done))⟩, trivial⟩ ⟨rfl, rfl, rfl, trivial⟩ rfl rfl
      · skip
        try simp only [bl] at h2
        refine W_exit ?_
        refine Fin_then_exit ?_
        refine Fin_then_exit ?_
        refine Fin_block_exit ?_
        refine Fin_then ?_
        refine W_seq ?_
        refine W_region ?_  -- R12 l1_kin.go:141
        refine WL_ac rfl ?_
        refine WL_nil ?_
        refine Fin_then ?_
        refine W_ret ?_
        exact RetC rfl (Res1 rfl (RV.tmp rfl (Imp.bool (by unfold same; rw [if_neg (by omega), if_neg (by omega), allN_true (fun j q => hj j (by omega))]))))
theorem spec_l1Same_n (G : Kin) (hG : Small G) : ∀ (n : Nat) (a b : Int), 0 ≤ a → a < n → a < kcnt G → 0 ≤ b → b < kcnt G → FnC Try.prog 63 [A.sl 1 cGrp G, A.int a, A.int b] (A.bool (same n G a b))
  | 0, a, b, h0, hn, _, _, _ => by omega
  | n + 1, a, b, h0, hn, hc, hb0, hb => spec_l1Same_step G hG n (fun c d h1 h2 h3 h4 h5 => spec_l1Same_n G hG n c d h1 h2 h3 h4 h5) a b h0 hc (by omega) hb0 hb
theorem spec_l1Same (G : Kin) (hG : Small G) (a b : Int) (h0 : 0 ≤ a) (hc : a < kcnt G) (hb0 : 0 ≤ b) (hb : b < kcnt G) : FnC Try.prog 63 [A.sl 1 cGrp G, A.int a, A.int b] (A.bool (ksame G a b)) := spec_l1Same_n G hG _ a b h0 (by omega) hc hb0 hb
set_option maxRecDepth 8000 in
theorem spec_l1Under (G : Kin) (hG : Small G) (hU : Ups G.flatten) (a b : Int) (ha : a < kcnt G) (hb : b < kcnt G) : FnC Try.prog 39 [A.sl 1 cGrp G, A.int a, A.int b] (A.bool (kunder G a b)) := by
  have hkc : kcnt G = (G.flatten.length : Int) := rfl
  refine Fn_of_W Try.func39 rfl rfl fun r w => ?_
  refine W_seq ?_
  refine W_region ?_  -- R0 l1_kin.go:148
  refine WL_ac rfl ?_
  refine WL_nil ?_
  refine Fin_then ?_
  refine W_seq ?_
  refine W_seq ?_
  refine W_region ?_  -- R1 l1_kin.go:149
  refine WL_mv rfl rfl ?_
  refine WL_step (S_plain O_eql ⟨T1 rfl, C1, trivial⟩ rfl rfl) ?_
  refine WL_mv rfl rfl ?_
  refine WL_step (S_f1 rfl rfl (fun hc => O_move) ⟨⟨_, rfl, (by first | exact fun _ _ => rfl | exact fun h _ => h | exact fun _ h => h | exact fun h k => band h k | exact fun h _ => bandl h | exact fun h _ => bandr h)⟩, trivial⟩ rfl rfl rfl) ?_
  refine WL_step (S_f1 rfl rfl (fun hc => O_move) ⟨⟨_, rfl, (by first | exact fun _ _ => rfl | exact fun h _ => h | exact fun _ h => h | exact fun h k => band h k | exact fun h _ => bandl h | exact fun h _ => bandr h)⟩, trivial⟩ rfl rfl rfl) ?_
  refine WL_step (S_f1 rfl rfl (fun hc => O_eql) ⟨⟨_, rfl, (by first | exact fun _ _ => rfl | exact fun h _ => h | exact fun _ h => h | exact fun h k => band h k | exact fun h _ => bandl h | exact fun h _ => bandr h)⟩, ⟨_, rfl, (by first | exact fun _ _ => rfl | exact fun h _ => h | exact fun _ h => h | exact fun h k => band h k | exact fun h _ => bandl h | exact fun h _ => bandr h)⟩, trivial⟩ rfl rfl rfl) ?_
  refine WL_step (S_plain O_or ⟨T1 rfl, ⟨_, rfl, (by first | exact fun _ _ => rfl | exact fun h _ => h | exact fun _ h => h | exact fun h k => band h k | exact fun h _ => bandl h | exact fun h _ => bandr h)⟩, trivial⟩ rfl rfl) ?_
  refine WL_nil ?_
  refine Fin_then ?_
  refine W_cond rfl (fun h0 => ?_) (fun h0 => ?_)
  · skip
    try simp only [bl] at h0
    refine W_seq ?_
    refine W_region ?_  -- R2 l1_kin.go:150
    refine WL_ac rfl ?_
    refine WL_nil ?_
    refine Fin_then ?_
    refine W_ret ?_
    refine Fin_then_ret ?_
    exact RetC rfl (Res1 rfl (RV.tmp rfl (Imp.bool (by unfold kunder; rw [if_pos (by omega)]))))
  · skip
    try simp only [bl] at h0
    refine W_skip ?_
    refine Fin_then ?_
    refine W_seq ?_
    refine W_seq ?_
    refine W_region ?_  -- R3 l1_kin.go:152
    refine WL_mv rfl rfl ?_
    refine WL_step (S_plain O_lss ⟨T1 rfl, C1, trivial⟩ rfl rfl) ?_
    refine WL_mv rfl rfl ?_
    refine WL_step (S_f1 rfl rfl (fun hc => O_move) ⟨⟨_, rfl, (by first | exact fun _ _ => rfl | exact fun h _ => h | exact fun _ h => h | exact fun h k => band h k | exact fun h _ => bandl h | exact fun h _ => bandr h)⟩, trivial⟩ rfl rfl rfl) ?_
    refine WL_step (S_f1 rfl rfl (fun hc => O_lss) ⟨⟨_, rfl, (by first | exact fun _ _ => rfl | exact fun h _ => h | exact fun _ h => h | exact fun h k => band h k | exact fun h _ => bandl h | exact fun h _ => bandr h)⟩, C1, trivial⟩ rfl rfl rfl) ?_
    refine WL_step (S_plain O_or ⟨T1 rfl, ⟨_, rfl, (by first | exact fun _ _ => rfl | exact fun h _ => h | exact fun _ h => h | exact fun h k => band h k | exact fun h _ => bandl h | exact fun h _ => bandr h)⟩, trivial⟩ rfl rfl) ?_
    refine WL_nil ?_
    refine Fin_then ?_
    refine W_cond rfl (fun h1 => ?_) (fun h1 => ?_)
    · skip
      try simp only [bl] at h1
      refine W_seq ?_
      refine W_region ?_  -- R4 l1_kin.go:153
      refine WL_ac rfl ?_
      refine WL_nil ?_
      refine Fin_then ?_
      refine W_ret ?_
      refine Fin_then_ret ?_
      exact RetC rfl (Res1 rfl (RV.tmp rfl (Imp.bool (by unfold kunder; rw [if_neg (by omega), if_pos (by omega)]))))
    · skip
      try simp only [bl] at h1
      refine W_skip ?_
      refine Fin_then ?_
      refine W_seq ?_
      refine W_region ?_  -- R5 l1_kin.go:155
      refine WL_mv rfl rfl ?_
      refine WL_step (S_plain (O_call cf45 (spec_l1Flat _ (by assumption)) rfl) ⟨T1 rfl, trivial⟩ rfl rfl) ?_
      refine WL_as rfl rfl ?_
      refine WL_nil ?_
      refine Fin_then ?_
      refine W_seq ?_
      refine W_block ?_
      refine W_loopk [0, 2, 7] (T := Int) (fun c => c < kcnt G ∧ -1 ≤ c ∧ (kline G.flatten a).any (fun x => ksame G x b) = (kline G.flatten c).any (fun x => ksame G x b)) (fun c => [(1, true, A.int c)]) (fun c => (c + 1).toNat) a ⟨by omega, by omega, rfl⟩ ⟨⟨rfl, _, rfl, (by first | exact Imp.refl | exact Imp.slv | exact Imp.nil | exact Imp.int (by omega) | exact Imp.int (by simp; done) | exact Imp.bool (by simp_all; done))⟩, trivial⟩ (fun c hx => ?_)
      obtain ⟨hc1, hc2, hc3⟩ := hx
      refine W_seq ?_
      refine W_seq ?_
      refine W_region ?_  -- R6 l1_kin.go:156
      refine WL_mv rfl rfl ?_
      refine WL_step (S_plain O_geq ⟨T1 rfl, C1, trivial⟩ rfl rfl) ?_
      refine WL_nil ?_
      refine Fin_then ?_
      refine W_cond rfl (fun h2 => ?_) (fun h2 => ?_)
      · skip
        try simp only [bl] at h2
        refine W_skip ?_
        refine Fin_then ?_
        refine W_block ?_
        refine W_seq ?_
        refine W_seq ?_
        refine W_region ?_  -- R7 l1_kin.go:157
        refine WL_mv rfl rfl ?_
        refine WL_mv rfl rfl ?_
        refine WL_mv rfl rfl ?_
        refine WL_step (S_plain (O_call cf63 (spec_l1Same _ (by assumption) _ _ (by omega) (by omega) (by omega) (by omega)) rfl) ⟨T1 rfl, T1 rfl, T1 rfl, trivial⟩ rfl rfl) ?_
        refine WL_nil ?_
        refine Fin_then ?_
        refine W_cond rfl (fun h3 => ?_) (fun h3 => ?_)
        · skip
          try simp only [bl] at h3
          refine W_seq ?_
          refine W_region ?_  -- R8 l1_kin.go:158
          refine WL_ac rfl ?_
          refine WL_nil ?_
          refine Fin_then ?_
          refine W_ret ?_
          refine Fin_then_ret ?_
          refine Fin_block_ret ?_
          refine Fin_then_ret ?_
          refine Fin_block_ret ?_
          refine Fin_then_ret ?_
          exact RetC rfl (Res1 rfl (RV.tmp rfl (Imp.bool (by unfold kunder; rw [if_neg (by omega), if_neg (by omega), hc3, kline_cons (a := c) hU (by omega) (by omega), List.any_cons, h3]; rfl))))
        · skip
          try simp only [bl] at h3
          refine W_skip ?_
          refine Fin_then ?_
          refine W_region ?_  -- R9 l1_kin.go:160
          refine WL_mv rfl rfl ?_
          refine WL_mv rfl rfl ?_
          refine WL_step (S_plain (O_index ts38 (by omega)) ⟨T1 rfl, T1 rfl, trivial⟩ rfl rfl) ?_
          refine WL_step (S_plain (O_field tf29_1) ⟨T1 rfl, trivial⟩ rfl rfl) ?_
          refine WL_step (S_plain (O_load ta3) ⟨T1 rfl, trivial⟩ rfl rfl) ?_
          refine WL_as rfl rfl ?_
          refine WL_nil ?_
          refine Fin_block ?_
          have hu := hU c (by omega) (by omega)
          rw [kline_cons (a := c) hU (by omega) (by omega), List.any_cons, h3, Bool.false_or] at hc3
          exact Fin_back (idx G.flatten c).up ⟨by omega, by omega, hc3⟩ (by omega) ⟨⟨rfl, _, rfl, (by first | exact Imp.refl | exact Imp.slv | exact Imp.nil | exact Imp.int (by omega) | exact Imp.int (by simp; done) | exact Imp.bool (by simp_all; done))⟩, trivial⟩ ⟨rfl, rfl, rfl, trivial⟩ rfl rfl
      · skip
        try simp only [bl] at h2
        refine W_exit ?_
        refine Fin_then_exit ?_
        refine Fin_then_exit ?_
        refine Fin_block_exit ?_
        refine Fin_then ?_
        refine W_seq ?_
        refine W_region ?_  -- R10 l1_kin.go:162
        refine WL_ac rfl ?_
        refine WL_nil ?_
        refine Fin_then ?_
        refine W_ret ?_
        exact RetC rfl (Res1 rfl (RV.tmp rfl (Imp.bool (by unfold kunder; rw [if_neg (by omega), if_neg (by omega), hc3, kline_neg (by omega)]; rfl))))
set_option maxRecDepth 8000 in
theorem spec_l1Sort (G : Kin) (hG : Small G) (hU : Ups G.flatten) (a b : Fld) (ha : a.kind ≠ 1 → a.of < kcnt G) (hb : b.kind ≠ 1 → b.of < kcnt G) : FnC Try.prog 85 [A.sl 1 cGrp G, A.agg (cFld a), A.agg (cFld b)] (A.bool (ksort G a b)) := by
  refine Fn_of_W Try.func85 rfl rfl fun r w => ?_
  refine W_seq ?_
  refine W_region ?_  -- R0 l1_kin.go:166
  refine WL_step (S_plain O_boxg ⟨T1 rfl, trivial⟩ rfl rfl) ?_
  refine WL_step (S_plain O_boxg ⟨T1 rfl, trivial⟩ rfl rfl) ?_
  refine WL_ac rfl ?_
  refine WL_nil ?_
  refine Fin_then ?_
  refine W_seq ?_
  refine W_seq ?_
  refine W_region ?_  -- R1 l1_kin.go:167
  refine WL_step (S_plain (O_field tf33_0) ⟨T1 rfl, trivial⟩ rfl rfl) ?_
  refine WL_step (S_plain (O_load ta3) ⟨T1 rfl, trivial⟩ rfl rfl) ?_
  refine WL_step (S_plain O_eql ⟨T1 rfl, C1, trivial⟩ rfl rfl) ?_
  refine WL_mv rfl rfl ?_
  refine WL_step (S_f1 rfl rfl (fun hc => (O_field tf33_0)) ⟨⟨_, rfl, (by first | exact fun _ _ => rfl | exact fun h _ => h | exact fun _ h => h | exact fun h k => band h k | exact fun h _ => bandl h | exact fun h _ => bandr h)⟩, trivial⟩ rfl rfl rfl) ?_
  refine WL_step (S_f1 rfl rfl (fun hc => (O_load ta3)) ⟨⟨_, rfl, (by first | exact fun _ _ => rfl | exact fun h _ => h | exact fun _ h => h | exact fun h k => band h k | exact fun h _ => bandl h | exact fun h _ => bandr h)⟩, trivial⟩ rfl rfl rfl) ?_
  refine WL_step (S_f1 rfl rfl (fun hc => O_eql) ⟨⟨_, rfl, (by first | exact fun _ _ => rfl | exact fun h _ => h | exact fun _ h => h | exact fun h k => band h k | exact fun h _ => bandl h | exact fun h _ => bandr h)⟩, C1, trivial⟩ rfl rfl rfl) ?_
  refine WL_step (S_plain O_or ⟨T1 rfl, ⟨_, rfl, (by first | exact fun _ _ => rfl | exact fun h _ => h | exact fun _ h => h | exact fun h k => band h k | exact fun h _ => bandl h | exact fun h _ => bandr h)⟩, trivial⟩ rfl rfl) ?_
  refine WL_nil ?_
  refine Fin_then ?_
  refine W_cond rfl (fun h0 => ?_) (fun h0 => ?_)
  · skip
    try simp only [bl] at h0
    refine W_seq ?_
    refine W_region ?_  -- R2 l1_kin.go:168
    refine WL_step (S_plain (O_field tf33_0) ⟨T1 rfl, trivial⟩ rfl rfl) ?_
    refine WL_step (S_plain (O_load ta3) ⟨T1 rfl, trivial⟩ rfl rfl) ?_
    refine WL_step (S_plain (O_field tf33_0) ⟨T1 rfl, trivial⟩ rfl rfl) ?_
    refine WL_step (S_plain (O_load ta3) ⟨T1 rfl, trivial⟩ rfl rfl) ?_
    refine WL_step (S_plain O_eql ⟨T1 rfl, T1 rfl, trivial⟩ rfl rfl) ?_
    refine WL_as rfl rfl ?_
    refine WL_nil ?_
    refine Fin_then ?_
    refine W_ret ?_
    refine Fin_then_ret ?_
    exact RetC rfl (Res1 rfl (RV.tmp rfl (Imp.bool (by unfold ksort; rw [if_pos (by omega)]))))
  · skip
    try simp only [bl] at h0
    refine W_skip ?_
    refine Fin_then ?_
    refine W_seq ?_
    refine W_region ?_  -- R3 l1_kin.go:170
    refine WL_step (S_plain (O_field tf33_0) ⟨T1 rfl, trivial⟩ rfl rfl) ?_
    refine WL_step (S_plain (O_load ta3) ⟨T1 rfl, trivial⟩ rfl rfl) ?_
    refine WL_step (S_plain O_eql ⟨T1 rfl, C1, trivial⟩ rfl rfl) ?_
    refine WL_mv rfl rfl ?_
    refine WL_step (S_f1 rfl rfl (fun hc => (O_field tf33_0)) ⟨⟨_, rfl, (by first | exact fun _ _ => rfl | exact fun h _ => h | exact fun _ h => h | exact fun h k => band h k | exact fun h _ => bandl h | exact fun h _ => bandr h)⟩, trivial⟩ rfl rfl rfl) ?_
    refine WL_step (S_f1 rfl rfl (fun hc => (O_load ta3)) ⟨⟨_, rfl, (by first | exact fun _ _ => rfl | exact fun h _ => h | exact fun _ h => h | exact fun h k => band h k | exact fun h _ => bandl h | exact fun h _ => bandr h)⟩, trivial⟩ rfl rfl rfl) ?_
    refine WL_step (S_f1 rfl rfl (fun hc => O_eql) ⟨⟨_, rfl, (by first | exact fun _ _ => rfl | exact fun h _ => h | exact fun _ h => h | exact fun h k => band h k | exact fun h _ => bandl h | exact fun h _ => bandr h)⟩, C1, trivial⟩ rfl rfl rfl) ?_
    refine WL_step (S_plain O_or ⟨T1 rfl, ⟨_, rfl, (by first | exact fun _ _ => rfl | exact fun h _ => h | exact fun _ h => h | exact fun h k => band h k | exact fun h _ => bandl h | exact fun h _ => bandr h)⟩, trivial⟩ rfl rfl) ?_
    refine WL_mv rfl rfl ?_
    refine WL_step (S_t1 rfl rfl (fun hc => O_move) ⟨⟨_, rfl, (by first | exact fun _ _ => rfl | exact fun h _ => h | exact fun _ h => h | exact fun h k => band h k | exact fun h _ => bandl h | exact fun h _ => bandr h)⟩, trivial⟩ rfl rfl rfl) ?_
    refine WL_step (S_t1 rfl rfl (fun hc => (O_field tf33_1)) ⟨⟨_, rfl, (by first | exact fun _ _ => rfl | exact fun h _ => h | exact fun _ h => h | exact fun h k => band h k | exact fun h _ => bandl h | exact fun h _ => bandr h)⟩, trivial⟩ rfl rfl rfl) ?_
    refine WL_step (S_t1 rfl rfl (fun hc => (O_load ta3)) ⟨⟨_, rfl, (by first | exact fun _ _ => rfl | exact fun h _ => h | exact fun _ h => h | exact fun h k => band h k | exact fun h _ => bandl h | exact fun h _ => bandr h)⟩, trivial⟩ rfl rfl rfl) ?_
    refine WL_step (S_t1 rfl rfl (fun hc => (O_field tf33_1)) ⟨⟨_, rfl, (by first | exact fun _ _ => rfl | exact fun h _ => h | exact fun _ h => h | exact fun h k => band h k | exact fun h _ => bandl h | exact fun h _ => bandr h)⟩, trivial⟩ rfl rfl rfl) ?_
    refine WL_step (S_t1 rfl rfl (fun hc => (O_load ta3)) ⟨⟨_, rfl, (by first | exact fun _ _ => rfl | exact fun h _ => h | exact fun _ h => h | exact fun h k => band h k | exact fun h _ => bandl h | exact fun h _ => bandr h)⟩, trivial⟩ rfl rfl rfl) ?_
    refine WL_step (S_t1 rfl rfl (fun hc => (O_call cf39 (spec_l1Under _ (by assumption) hU _ _ (by (try simp only [bl] at hc); omega) (by (try simp only [bl] at hc); omega)) rfl)) ⟨⟨_, rfl, (by first | exact fun _ _ => rfl | exact fun h _ => h | exact fun _ h => h | exact fun h k => band h k | exact fun h _ => bandl h | exact fun h _ => bandr h)⟩, ⟨_, rfl, (by first | exact fun _ _ => rfl | exact fun h _ => h | exact fun _ h => h | exact fun h k => band h k | exact fun h _ => bandl h | exact fun h _ => bandr h)⟩, ⟨_, rfl, (by first | exact fun _ _ => rfl | exact fun h _ => h | exact fun _ h => h | exact fun h k => band h k | exact fun h _ => bandl h | exact fun h _ => bandr h)⟩, trivial⟩ rfl rfl rfl) ?_
    refine WL_step (S_plain O_and ⟨T1 rfl, ⟨_, rfl, (by first | exact fun _ _ => rfl | exact fun h _ => h | exact fun _ h => h | exact fun h k => band h k | exact fun h _ => bandl h | exact fun h _ => bandr h)⟩, trivial⟩ rfl rfl) ?_
    refine WL_as rfl rfl ?_
    refine WL_nil ?_
    refine Fin_then ?_
    refine W_ret ?_
    exact RetC rfl (Res1 rfl (RV.tmp rfl (Imp.bool (by unfold ksort; rw [if_neg (by omega)]))))
set_option maxRecDepth 8000 in
theorem spec_l1Fits (G : Kin) (hG : Small G) (hU : Ups G.flatten) (a b : Fld) (ha : a.kind ≠ 1 → a.of < kcnt G) (hb : b.kind ≠ 1 → b.of < kcnt G) : FnC Try.prog 67 [A.sl 1 cGrp G, A.agg (cFld a), A.agg (cFld b)] (A.bool (kfits G a b)) := by
  refine Fn_of_W Try.func67 rfl rfl fun r w => ?_
  refine W_seq ?_
  refine W_region ?_  -- R0 l1_kin.go:174
  refine WL_step (S_plain O_boxg ⟨T1 rfl, trivial⟩ rfl rfl) ?_
  refine WL_step (S_plain O_boxg ⟨T1 rfl, trivial⟩ rfl rfl) ?_
  refine WL_ac rfl ?_
  refine WL_nil ?_
  refine Fin_then ?_
  refine W_seq ?_
  refine W_seq ?_
  refine W_region ?_  -- R1 l1_kin.go:175
  refine WL_step (S_plain (O_field tf33_2) ⟨T1 rfl, trivial⟩ rfl rfl) ?_
  refine WL_step (S_plain (O_load ta4) ⟨T1 rfl, trivial⟩ rfl rfl) ?_
  refine WL_step (S_plain (O_field tf33_2) ⟨T1 rfl, trivial⟩ rfl rfl) ?_
  refine WL_step (S_plain (O_load ta4) ⟨T1 rfl, trivial⟩ rfl rfl) ?_
  refine WL_step (S_plain (O_neb ub4) ⟨T1 rfl, T1 rfl, trivial⟩ rfl rfl) ?_
  refine WL_nil ?_
  refine Fin_then ?_
  refine W_cond rfl (fun h0 => ?_) (fun h0 => ?_)
  · skip
    try simp only [bl] at h0
    refine W_seq ?_
    refine W_region ?_  -- R2 l1_kin.go:176
    refine WL_ac rfl ?_
    refine WL_nil ?_
    refine Fin_then ?_
    refine W_ret ?_
    refine Fin_then_ret ?_
    exact RetC rfl (Res1 rfl (RV.tmp rfl (Imp.bool (by unfold kfits; grind))))
  · skip
    try simp only [bl] at h0
    refine W_skip ?_
    refine Fin_then ?_
    refine W_seq ?_
    refine W_region ?_  -- R3 l1_kin.go:178
    refine WL_mv rfl rfl ?_
    refine WL_step (S_plain (O_loadgw tg33 rfl) ⟨T1 rfl, trivial⟩ rfl rfl) ?_
    refine WL_step (S_plain (O_loadgw tg33 rfl) ⟨T1 rfl, trivial⟩ rfl rfl) ?_
    refine WL_step (S_plain (O_call cf85 (spec_l1Sort _ (by assumption) hU _ _ ha hb) rfl) ⟨T1 rfl, T1 rfl, T1 rfl, trivial⟩ rfl rfl) ?_
    refine WL_mv rfl rfl ?_
    refine WL_step (S_t1 rfl rfl (fun hc => (O_field tf33_2)) ⟨⟨_, rfl, (by first | exact fun _ _ => rfl | exact fun h _ => h | exact fun _ h => h | exact fun h k => band h k | exact fun h _ => bandl h | exact fun h _ => bandr h)⟩, trivial⟩ rfl rfl rfl) ?_
    refine WL_step (S_t1 rfl rfl (fun hc => (O_load ta4)) ⟨⟨_, rfl, (by first | exact fun _ _ => rfl | exact fun h _ => h | exact fun _ h => h | exact fun h k => band h k | exact fun h _ => bandl h | exact fun h _ => bandr h)⟩, trivial⟩ rfl rfl rfl) ?_
    refine WL_step (S_t1 rfl rfl (fun hc => O_not) ⟨⟨_, rfl, (by first | exact fun _ _ => rfl | exact fun h _ => h | exact fun _ h => h | exact fun h k => band h k | exact fun h _ => bandl h | exact fun h _ => bandr h)⟩, trivial⟩ rfl rfl rfl) ?_
    refine WL_step (S_t1 rfl rfl (fun hc => O_move) ⟨⟨_, rfl, (by first | exact fun _ _ => rfl | exact fun h _ => h | exact fun _ h => h | exact fun h k => band h k | exact fun h _ => bandl h | exact fun h _ => bandr h)⟩, trivial⟩ rfl rfl rfl) ?_
    refine WL_step (S_f rfl rfl (fun hc => O_move) ⟨⟨_, rfl, (by first | exact fun _ _ => rfl | exact fun h _ => h | exact fun _ h => h | exact fun h k => band h k | exact fun h _ => bandl h | exact fun h _ => bandr h)⟩, trivial⟩ rfl rfl rfl) ?_
    refine WL_step (S_f rfl rfl (fun hc => (O_loadgw tg33 rfl)) ⟨⟨_, rfl, (by first | exact fun _ _ => rfl | exact fun h _ => h | exact fun _ h => h | exact fun h k => band h k | exact fun h _ => bandl h | exact fun h _ => bandr h)⟩, trivial⟩ rfl rfl rfl) ?_
    refine WL_step (S_f rfl rfl (fun hc => (O_loadgw tg33 rfl)) ⟨⟨_, rfl, (by first | exact fun _ _ => rfl | exact fun h _ => h | exact fun _ h => h | exact fun h k => band h k | exact fun h _ => bandl h | exact fun h _ => bandr h)⟩, trivial⟩ rfl rfl rfl) ?_
    refine WL_step (S_f rfl rfl (fun hc => (O_call cf85 (spec_l1Sort _ (by assumption) hU _ _ hb ha) rfl)) ⟨⟨_, rfl, (by first | exact fun _ _ => rfl | exact fun h _ => h | exact fun _ h => h | exact fun h k => band h k | exact fun h _ => bandl h | exact fun h _ => bandr h)⟩, ⟨_, rfl, (by first | exact fun _ _ => rfl | exact fun h _ => h | exact fun _ h => h | exact fun h k => band h k | exact fun h _ => bandl h | exact fun h _ => bandr h)⟩, ⟨_, rfl, (by first | exact fun _ _ => rfl | exact fun h _ => h | exact fun _ h => h | exact fun h k => band h k | exact fun h _ => bandl h | exact fun h _ => bandr h)⟩, trivial⟩ rfl rfl rfl) ?_
    refine WL_step (S_t1 rfl rfl (fun hc => O_or) ⟨⟨_, rfl, (by first | exact fun _ _ => rfl | exact fun h _ => h | exact fun _ h => h | exact fun h k => band h k | exact fun h _ => bandl h | exact fun h _ => bandr h)⟩, ⟨_, rfl, (by first | exact fun _ _ => rfl | exact fun h _ => h | exact fun _ h => h | exact fun h k => band h k | exact fun h _ => bandl h | exact fun h _ => bandr h)⟩, trivial⟩ rfl rfl rfl) ?_
    refine WL_step (S_plain O_and ⟨T1 rfl, ⟨_, rfl, (by first | exact fun _ _ => rfl | exact fun h _ => h | exact fun _ h => h | exact fun h k => band h k | exact fun h _ => bandl h | exact fun h _ => bandr h)⟩, trivial⟩ rfl rfl) ?_
    refine WL_as rfl rfl ?_
    refine WL_nil ?_
    refine Fin_then ?_
    refine W_ret ?_
    exact RetC rfl (Res1 rfl (RV.tmp rfl (Imp.bool (by unfold kfits; grind))))
set_option maxRecDepth 8000 in
theorem spec_l1Below (G : Kin) (hG : Small G) (hU : Ups G.flatten) (t u : Ty) (ht : RefOk G t) (hu : RefOk G u) : FnC Try.prog 46 [A.sl 1 cGrp G, A.agg (cTy t), A.agg (cTy u)] (A.bool (kbelow G t u)) := by
  refine Fn_of_W Try.func46 rfl rfl fun r w => ?_
  refine W_seq ?_
  refine W_region ?_  -- R0 l1_kin.go:182
  refine WL_step (S_plain O_boxg ⟨T1 rfl, trivial⟩ rfl rfl) ?_
  refine WL_step (S_plain O_boxg ⟨T1 rfl, trivial⟩ rfl rfl) ?_
  refine WL_ac rfl ?_
  refine WL_nil ?_
  refine Fin_then ?_
  refine W_seq ?_
  refine W_seq ?_
  refine W_region ?_  -- R1 l1_kin.go:183
  refine WL_step (S_plain (O_field tf29_0) ⟨T1 rfl, trivial⟩ rfl rfl) ?_
  refine WL_step (S_plain (O_load ta3) ⟨T1 rfl, trivial⟩ rfl rfl) ?_
  refine WL_step (S_plain (O_field tf29_0) ⟨T1 rfl, trivial⟩ rfl rfl) ?_
  refine WL_step (S_plain (O_load ta3) ⟨T1 rfl, trivial⟩ rfl rfl) ?_
  refine WL_step (S_plain O_neq ⟨T1 rfl, T1 rfl, trivial⟩ rfl rfl) ?_
  refine WL_mv rfl rfl ?_
  refine WL_step (S_f1 rfl rfl (fun hc => (O_field tf29_2)) ⟨⟨_, rfl, (by first | exact fun _ _ => rfl | exact fun h _ => h | exact fun _ h => h | exact fun h k => band h k | exact fun h _ => bandl h | exact fun h _ => bandr h)⟩, trivial⟩ rfl rfl rfl) ?_
  refine WL_step (S_f1 rfl rfl (fun hc => (O_load ta4)) ⟨⟨_, rfl, (by first | exact fun _ _ => rfl | exact fun h _ => h | exact fun _ h => h | exact fun h k => band h k | exact fun h _ => bandl h | exact fun h _ => bandr h)⟩, trivial⟩ rfl rfl rfl) ?_
  refine WL_step (S_plain O_or ⟨T1 rfl, ⟨_, rfl, (by first | exact fun _ _ => rfl | exact fun h _ => h | exact fun _ h => h | exact fun h k => band h k | exact fun h _ => bandl h | exact fun h _ => bandr h)⟩, trivial⟩ rfl rfl) ?_
  refine WL_mv rfl rfl ?_
  refine WL_step (S_f1 rfl rfl (fun hc => (O_field tf29_3)) ⟨⟨_, rfl, (by first | exact fun _ _ => rfl | exact fun h _ => h | exact fun _ h => h | exact fun h k => band h k | exact fun h _ => bandl h | exact fun h _ => bandr h)⟩, trivial⟩ rfl rfl rfl) ?_
  refine WL_step (S_f1 rfl rfl (fun hc => (O_load ta27)) ⟨⟨_, rfl, (by first | exact fun _ _ => rfl | exact fun h _ => h | exact fun _ h => h | exact fun h k => band h k | exact fun h _ => bandl h | exact fun h _ => bandr h)⟩, trivial⟩ rfl rfl rfl) ?_
  refine WL_step (S_f1 rfl rfl (fun hc => (O_len ts27)) ⟨⟨_, rfl, (by first | exact fun _ _ => rfl | exact fun h _ => h | exact fun _ h => h | exact fun h k => band h k | exact fun h _ => bandl h | exact fun h _ => bandr h)⟩, trivial⟩ rfl rfl rfl) ?_
  refine WL_step (S_f1 rfl rfl (fun hc => (O_field tf29_3)) ⟨⟨_, rfl, (by first | exact fun _ _ => rfl | exact fun h _ => h | exact fun _ h => h | exact fun h k => band h k | exact fun h _ => bandl h | exact fun h _ => bandr h)⟩, trivial⟩ rfl rfl rfl) ?_
  refine WL_step (S_f1 rfl rfl (fun hc => (O_load ta27)) ⟨⟨_, rfl, (by first | exact fun _ _ => rfl | exact fun h _ => h | exact fun _ h => h | exact fun h k => band h k | exact fun h _ => bandl h | exact fun h _ => bandr h)⟩, trivial⟩ rfl rfl rfl) ?_
  refine WL_step (S_f1 rfl rfl (fun hc => (O_len ts27)) ⟨⟨_, rfl, (by first | exact fun _ _ => rfl | exact fun h _ => h | exact fun _ h => h | exact fun h k => band h k | exact fun h _ => bandl h | exact fun h _ => bandr h)⟩, trivial⟩ rfl rfl rfl) ?_
  refine WL_step (S_f1 rfl rfl (fun hc => O_gtr) ⟨⟨_, rfl, (by first | exact fun _ _ => rfl | exact fun h _ => h | exact fun _ h => h | exact fun h k => band h k | exact fun h _ => bandl h | exact fun h _ => bandr h)⟩, ⟨_, rfl, (by first | exact fun _ _ => rfl | exact fun h _ => h | exact fun _ h => h | exact fun h k => band h k | exact fun h _ => bandl h | exact fun h _ => bandr h)⟩, trivial⟩ rfl rfl rfl) ?_
  refine WL_step (S_plain O_or ⟨T1 rfl, ⟨_, rfl, (by first | exact fun _ _ => rfl | exact fun h _ => h | exact fun _ h => h | exact fun h k => band h k | exact fun h _ => bandl h | exact fun h _ => bandr h)⟩, trivial⟩ rfl rfl) ?_
  refine WL_nil ?_
  refine Fin_then ?_
  refine W_cond rfl (fun h0 => ?_) (fun h0 => ?_)
  · skip
    try simp only [bl] at h0
    refine W_seq ?_
    refine W_region ?_  -- R2 l1_kin.go:184
    refine WL_ac rfl ?_
    refine WL_nil ?_
    refine Fin_then ?_
    refine W_ret ?_
    refine Fin_then_ret ?_
    exact RetC rfl (Res1 rfl (RV.tmp rfl (Imp.bool (by unfold kbelow; grind))))
  · skip
    try simp only [bl] at h0
    refine W_skip ?_
    refine Fin_then ?_
    refine W_seq ?_
    refine W_seq ?_
    refine W_region ?_  -- R3 l1_kin.go:186
    refine WL_ac rfl ?_
    refine WL_nil ?_
    refine Fin_then ?_
    refine W_block ?_
    refine W_loopk [0, 4, 5] (T := Nat) (fun k => k ≤ u.fields.length ∧ ∀ j, j < k → (fun i => kfits G (idx t.fields (i : Int)) (idx u.fields (i : Int))) j = true) (fun k => [(7, true, A.int (k : Int))]) (fun k => u.fields.length - k) 0 ⟨Nat.zero_le _, allN_zero⟩ ⟨⟨rfl, _, rfl, (by first | exact Imp.refl | exact Imp.slv | exact Imp.nil | exact Imp.int (by omega) | exact Imp.int (by simp; done) | exact Imp.bool (by simp_all; done))⟩, trivial⟩ (fun k hx => ?_)
    have hk := hx.1
    have hj := hx.2
    refine W_seq ?_
    refine W_seq ?_
    refine W_region ?_  -- R4 l1_kin.go:186
    refine WL_mv rfl rfl ?_
    refine WL_step (S_plain (O_field tf29_3) ⟨T1 rfl, trivial⟩ rfl rfl) ?_
    refine WL_step (S_plain (O_load ta27) ⟨T1 rfl, trivial⟩ rfl rfl) ?_
    refine WL_len ts27 rfl rfl fun hl29 => ?_
    refine WL_step (S_plain O_lss ⟨T1 rfl, T1 rfl, trivial⟩ rfl rfl) ?_
    refine WL_nil ?_
    refine Fin_then ?_
    refine W_cond rfl (fun h1 => ?_) (fun h1 => ?_)
    · skip
      try simp only [bl] at h1
      refine W_skip ?_
      refine Fin_then ?_
      refine W_seq ?_
      refine W_block ?_
      refine W_seq ?_
      refine W_draw 13 mix rfl rfl ?_  -- R6 l1_kin.go:187
      refine Chain_cons (S_plain O_move ⟨T1 rfl, trivial⟩ rfl rfl) ?_
      refine Chain_cons (S_plain (O_field tf29_3) ⟨T1 rfl, trivial⟩ rfl rfl) ?_
      refine Chain_cons (S_plain (O_load ta27) ⟨T1 rfl, trivial⟩ rfl rfl) ?_
      refine Chain_cons (S_plain O_move ⟨T1 rfl, trivial⟩ rfl rfl) ?_
      refine Chain_cons (S_plain (O_index ts27 (by omega)) ⟨T1 rfl, T1 rfl, trivial⟩ rfl rfl) ?_
      refine Chain_cons (S_plain (O_loadgw tg33 rfl) ⟨T1 rfl, trivial⟩ rfl rfl) ?_
      refine Chain_cons (S_plain (O_field tf29_3) ⟨T1 rfl, trivial⟩ rfl rfl) ?_
      refine Chain_cons (S_plain (O_load ta27) ⟨T1 rfl, trivial⟩ rfl rfl) ?_
      refine Chain_cons (S_plain O_move ⟨T1 rfl, trivial⟩ rfl rfl) ?_
      refine Chain_cons (S_plain (O_index ts27 (by omega)) ⟨T1 rfl, T1 rfl, trivial⟩ rfl rfl) ?_
      refine Chain_cons (S_plain (O_loadgw tg33 rfl) ⟨T1 rfl, trivial⟩ rfl rfl) ?_
      refine Chain_cons (S_plain (O_call cf67 (spec_l1Fits _ (by assumption) hU _ _ (ht.idx' (by omega) (by omega)) (hu.idx' (by omega) (by omega))) rfl) ⟨T1 rfl, T1 rfl, T1 rfl, trivial⟩ rfl rfl) ?_
      refine Chain_cons (S_plain O_not ⟨T1 rfl, trivial⟩ rfl rfl) ?_
      refine Chain_nil ?_
      refine WL_nil ?_
      refine Fin_then ?_
      refine W_cond rfl (fun h2 => ?_) (fun h2 => ?_)
      · skip
        try simp only [bl] at h2
        refine W_seq ?_
        refine W_region ?_  -- R7 l1_kin.go:188
        refine WL_ac rfl ?_
        refine WL_nil ?_
        refine Fin_then ?_
        refine W_ret ?_
        refine Fin_block_ret ?_
        refine Fin_then_ret ?_
        refine Fin_then_ret ?_
        refine Fin_block_ret ?_
        refine Fin_then_ret ?_
        exact RetC rfl (Res1 rfl (RV.tmp rfl (Imp.bool (by unfold kbelow; rw [allN_false k (by omega) (by grind)]; simp))))
      · skip
        try simp only [bl] at h2
        refine W_skip ?_
        refine Fin_block ?_
        refine Fin_then ?_
        refine W_region ?_  -- R5 l1_kin.go:186
        refine WL_mv rfl rfl ?_
        refine WL_step (S_plain (O_add (by omega)) ⟨T1 rfl, C1, trivial⟩ rfl rfl) ?_
        refine WL_as rfl rfl ?_
        refine WL_nil ?_
        exact Fin_back (k + 1) ⟨by omega, allN_succ hj (by grind)⟩ (by omega) ⟨⟨rfl, _, rfl, (by first | exact Imp.refl | exact Imp.slv | exact Imp.nil | exact Imp.int (by omega) | exact Imp.int (by simp; done) | exact Imp.bool (by simp_all; done))⟩, trivial⟩ ⟨rfl, rfl, rfl, trivial⟩ rfl rfl
    · skip
      try simp only [bl] at h1
      refine W_exit ?_
      refine Fin_then_exit ?_
      refine Fin_then_exit ?_
      refine Fin_block_exit ?_
      refine Fin_then ?_
      refine W_seq ?_
      refine W_region ?_  -- R8 l1_kin.go:191
      refine WL_ac rfl ?_
      refine WL_nil ?_
      refine Fin_then ?_
      refine W_ret ?_
      exact RetC rfl (Res1 rfl (RV.tmp rfl (Imp.bool (by unfold kbelow; rw [allN_true (fun j q => hj j (by omega))]; grind))))
set_option maxRecDepth 8000 in
theorem spec_l1Parts (G : Kin) (hG : Small G) : FnC Try.prog 44 [A.sl 1 cGrp G] (A.bool (kparts G)) := by
  refine Fn_of_W Try.func44 rfl rfl fun r w => ?_
  refine W_seq ?_
  refine W_region ?_  -- R0 l1_kin.go:195
  refine WL_ac rfl ?_
  refine WL_nil ?_
  refine Fin_then ?_
  refine W_seq ?_
  refine W_seq ?_
  refine W_region ?_  -- R1 l1_kin.go:196
  refine WL_mv rfl rfl ?_
  refine WL_len ts23 rfl rfl fun hl8 => ?_
  refine WL_step (S_plain O_gtr ⟨T1 rfl, C1, trivial⟩ rfl rfl) ?_
  refine WL_mv rfl rfl ?_
  refine WL_step (S_f1 rfl rfl (fun hc => O_move) ⟨⟨_, rfl, (by first | exact fun _ _ => rfl | exact fun h _ => h | exact fun _ h => h | exact fun h k => band h k | exact fun h _ => bandl h | exact fun h _ => bandr h)⟩, trivial⟩ rfl rfl rfl) ?_
  refine WL_step (S_f1 rfl rfl (fun hc => (O_call cf34 (spec_KinCount _ (by assumption)) rfl)) ⟨⟨_, rfl, (by first | exact fun _ _ => rfl | exact fun h _ => h | exact fun _ h => h | exact fun h k => band h k | exact fun h _ => bandl h | exact fun h _ => bandr h)⟩, trivial⟩ rfl rfl rfl) ?_
  refine WL_step (S_f1 rfl rfl (fun hc => O_gtr) ⟨⟨_, rfl, (by first | exact fun _ _ => rfl | exact fun h _ => h | exact fun _ h => h | exact fun h k => band h k | exact fun h _ => bandl h | exact fun h _ => bandr h)⟩, C1, trivial⟩ rfl rfl rfl) ?_
  refine WL_step (S_plain O_or ⟨T1 rfl, ⟨_, rfl, (by first | exact fun _ _ => rfl | exact fun h _ => h | exact fun _ h => h | exact fun h k => band h k | exact fun h _ => bandl h | exact fun h _ => bandr h)⟩, trivial⟩ rfl rfl) ?_
  refine WL_nil ?_
  refine Fin_then ?_
  refine W_cond rfl (fun h0 => ?_) (fun h0 => ?_)
  · skip
    try simp only [bl] at h0
    refine W_seq ?_
    refine W_region ?_  -- R2 l1_kin.go:197
    refine WL_ac rfl ?_
    refine WL_nil ?_
    refine Fin_then ?_
    refine W_ret ?_
    refine Fin_then_ret ?_
    exact RetC rfl (Res1 rfl (RV.tmp rfl (Imp.bool (by unfold kparts; simp; omega))))
  · skip
    try simp only [bl] at h0
    refine W_skip ?_
    refine Fin_then ?_
    refine W_seq ?_
    refine W_region ?_  -- R3 l1_kin.go:199
    refine WL_ac rfl ?_
    refine WL_nil ?_
    refine Fin_then ?_
    refine W_seq ?_
    refine W_seq ?_
    refine W_region ?_  -- R4 l1_kin.go:200
    refine WL_ac rfl ?_
    refine WL_nil ?_
    refine Fin_then ?_
    refine W_block ?_
    refine W_loopk [0] (T := Nat) (fun k => k ≤ G.length ∧ ∀ j, j < k → (fun i : Nat => decide ((idx G (i : Int)).length ≠ 0) && allN (idx G (i : Int)).length fun k => kform (idx (idx G (i : Int)) (k : Int)) (kbeg G (i : Int) + (k : Int)) (kbeg G (i : Int) + ((idx G (i : Int)).length : Int))) j = true) (fun k => [(3, true, A.int (kbeg G (k : Int))), (4, true, A.int (k : Int))]) (fun k => G.length - k) 0 ⟨Nat.zero_le _, allN_zero⟩ ⟨⟨rfl, _, rfl, (by first | exact Imp.refl | exact Imp.slv | exact Imp.nil | exact Imp.int (by omega) | exact Imp.int (by simp; done) | exact Imp.bool (by simp_all; done))⟩, ⟨rfl, _, rfl, (by first | exact Imp.refl | exact Imp.slv | exact Imp.nil | exact Imp.int (by omega) | exact Imp.int (by simp; done) | exact Imp.bool (by simp_all; done))⟩, trivial⟩ (fun k hx => ?_)
    have hk := hx.1
    have hj := hx.2
    have b1 := kbeg_le G (k : Int)
    have b2 := kbeg_nonneg G (k : Int)
    have b3 := hG.kcnt
    have b4 := hG.idx (k : Int)
    refine W_seq ?_
    refine W_seq ?_
    refine W_region ?_  -- R5 l1_kin.go:200
    refine WL_mv rfl rfl ?_
    refine WL_mv rfl rfl ?_
    refine WL_len ts23 rfl rfl fun hl17 => ?_
    refine WL_step (S_plain O_lss ⟨T1 rfl, T1 rfl, trivial⟩ rfl rfl) ?_
    refine WL_nil ?_
    refine Fin_then ?_
    refine W_cond rfl (fun h1 => ?_) (fun h1 => ?_)
    · skip
      try simp only [bl] at h1
      refine W_skip ?_
      refine Fin_then ?_
      refine W_seq ?_
      refine W_block ?_
      refine W_seq ?_
      refine W_seq ?_
      refine W_region ?_  -- R7 l1_kin.go:201
      refine WL_mv rfl rfl ?_
      refine WL_mv rfl rfl ?_
      refine WL_step (S_plain (O_index ts23 (by omega)) ⟨T1 rfl, T1 rfl, trivial⟩ rfl rfl) ?_
      refine WL_step (S_plain (O_load ta38) ⟨T1 rfl, trivial⟩ rfl rfl) ?_
      refine WL_len ts38 rfl rfl fun hl25 => ?_
      refine WL_step (S_plain O_eql ⟨T1 rfl, C1, trivial⟩ rfl rfl) ?_
      refine WL_nil ?_
      refine Fin_then ?_
      refine W_cond rfl (fun h2 => ?_) (fun h2 => ?_)
      · skip
        try simp only [bl] at h2
        refine W_seq ?_
        refine W_region ?_  -- R8 l1_kin.go:202
        refine WL_ac rfl ?_
        refine WL_nil ?_
        refine Fin_then ?_
        refine W_ret ?_
        refine Fin_then_ret ?_
        refine Fin_block_ret ?_
        refine Fin_then_ret ?_
        refine Fin_then_ret ?_
        refine Fin_block_ret ?_
        refine Fin_then_ret ?_
        exact RetC rfl (Res1 rfl (RV.tmp rfl (Imp.bool (by unfold kparts; rw [allN_false k (by omega) (by grind)]; simp))))
      · skip
        try simp only [bl] at h2
        refine W_skip ?_
        refine Fin_then ?_
        refine W_seq ?_
        refine W_draw 9 mix rfl rfl ?_  -- R9 l1_kin.go:204
        refine Chain_cons (S_plain O_move ⟨T1 rfl, trivial⟩ rfl rfl) ?_
        refine Chain_cons (S_plain O_move ⟨T1 rfl, trivial⟩ rfl rfl) ?_
        refine Chain_cons (S_plain (O_call cf65 (spec_l1Begin _ (by assumption) _ (by omega) (by omega)) rfl) ⟨T1 rfl, T1 rfl, trivial⟩ rfl rfl) ?_
        refine Chain_cons (S_plain O_move ⟨T1 rfl, trivial⟩ rfl rfl) ?_
        refine Chain_cons (S_plain O_move ⟨T1 rfl, trivial⟩ rfl rfl) ?_
        refine Chain_cons (S_plain (O_index ts23 (by omega)) ⟨T1 rfl, T1 rfl, trivial⟩ rfl rfl) ?_
        refine Chain_cons (S_plain (O_load ta38) ⟨T1 rfl, trivial⟩ rfl rfl) ?_
        refine Chain_cons (S_plain (O_len ts38) ⟨T1 rfl, trivial⟩ rfl rfl) ?_
        refine Chain_cons (S_plain (O_add (by omega)) ⟨T1 rfl, T1 rfl, trivial⟩ rfl rfl) ?_
        refine Chain_nil ?_
        refine WL_as rfl rfl ?_
        refine WL_nil ?_
        refine Fin_then ?_
        refine W_seq ?_
        refine W_region ?_  -- R10 l1_kin.go:205
        refine WL_ac rfl ?_
        refine WL_nil ?_
        refine Fin_then ?_
        refine W_block ?_
        refine W_loopk [0, 4, 5] (T := Nat) (fun i => i ≤ (idx G (k : Int)).length ∧ ∀ j, j < i → (fun i : Nat => kform (idx (idx G (k : Int)) (i : Int)) (kbeg G (k : Int) + (i : Int)) (kbeg G (k : Int) + ((idx G (k : Int)).length : Int))) j = true) (fun i => [(3, true, A.int (kbeg G (k : Int) + (i : Int))), (6, true, A.int (i : Int))]) (fun i => (idx G (k : Int)).length - i) 0 ⟨Nat.zero_le _, allN_zero⟩ ⟨⟨rfl, _, rfl, (by first | exact Imp.refl | exact Imp.slv | exact Imp.nil | exact Imp.int (by omega) | exact Imp.int (by simp; done) | exact Imp.bool (by simp_all; done))⟩, ⟨rfl, _, rfl, (by first | exact Imp.refl | exact Imp.slv | exact Imp.nil | exact Imp.int (by omega) | exact Imp.int (by simp; done) | exact Imp.bool (by simp_all; done))⟩, trivial⟩ (fun i hx => ?_)
        have hi1 := hx.1
        have hi2 := hx.2
        refine W_seq ?_
        refine W_seq ?_
        refine W_region ?_  -- R11 l1_kin.go:205
        refine WL_mv rfl rfl ?_
        refine WL_mv rfl rfl ?_
        refine WL_mv rfl rfl ?_
        refine WL_step (S_plain (O_index ts23 (by omega)) ⟨T1 rfl, T1 rfl, trivial⟩ rfl rfl) ?_
        refine WL_step (S_plain (O_load ta38) ⟨T1 rfl, trivial⟩ rfl rfl) ?_
        refine WL_len ts38 rfl rfl fun hl41 => ?_
        refine WL_step (S_plain O_lss ⟨T1 rfl, T1 rfl, trivial⟩ rfl rfl) ?_
        refine WL_nil ?_
        refine Fin_then ?_
        refine W_cond rfl (fun h3 => ?_) (fun h3 => ?_)
        · skip
          try simp only [bl] at h3
          refine W_skip ?_
          refine Fin_then ?_
          refine W_seq ?_
          refine W_block ?_
          refine W_seq ?_
          refine W_seq ?_
          refine W_region ?_  -- R13 l1_kin.go:206
          refine WL_mv rfl rfl ?_
          refine WL_mv rfl rfl ?_
          refine WL_step (S_plain (O_index ts23 (by omega)) ⟨T1 rfl, T1 rfl, trivial⟩ rfl rfl) ?_
          refine WL_step (S_plain (O_load ta38) ⟨T1 rfl, trivial⟩ rfl rfl) ?_
          refine WL_mv rfl rfl ?_
          refine WL_step (S_plain (O_index ts38 (by omega)) ⟨T1 rfl, T1 rfl, trivial⟩ rfl rfl) ?_
          refine WL_step (S_plain (O_loadgw tg29 rfl) ⟨T1 rfl, trivial⟩ rfl rfl) ?_
          refine WL_mv rfl rfl ?_
          refine WL_mv rfl rfl ?_
          refine WL_step (S_plain (O_call cf66 (spec_l1Form _ _ _) rfl) ⟨T1 rfl, T1 rfl, T1 rfl, trivial⟩ rfl rfl) ?_
          refine WL_step (S_plain O_not ⟨T1 rfl, trivial⟩ rfl rfl) ?_
          refine WL_nil ?_
          refine Fin_then ?_
          refine W_cond rfl (fun h4 => ?_) (fun h4 => ?_)
          · skip
            try simp only [bl] at h4
            refine W_seq ?_
            refine W_region ?_  -- R14 l1_kin.go:207
            refine WL_ac rfl ?_
            refine WL_nil ?_
            refine Fin_then ?_
            refine W_ret ?_
            refine Fin_then_ret ?_
            refine Fin_block_ret ?_
            refine Fin_then_ret ?_
            refine Fin_then_ret ?_
            refine Fin_block_ret ?_
            refine Fin_block_ret ?_
            refine Fin_then_ret ?_
            refine Fin_then_ret ?_
            refine Fin_block_ret ?_
            refine Fin_then_ret ?_
            exact RetC rfl (Res1 rfl (RV.tmp rfl (Imp.bool (by unfold kparts; rw [allN_false k (by omega) (by rw [allN_false i (by omega) (by grind)]; simp)]; simp))))
          · skip
            try simp only [bl] at h4
            refine W_skip ?_
            refine Fin_then ?_
            refine W_region ?_  -- R15 l1_kin.go:209
            refine WL_mv rfl rfl ?_
            refine WL_step (S_plain (O_add (by omega)) ⟨T1 rfl, C1, trivial⟩ rfl rfl) ?_
            refine WL_as rfl rfl ?_
            refine WL_nil ?_
            refine Fin_block ?_
            refine Fin_then ?_
            refine W_region ?_  -- R12 l1_kin.go:205
            refine WL_mv rfl rfl ?_
            refine WL_step (S_plain (O_add (by omega)) ⟨T1 rfl, C1, trivial⟩ rfl rfl) ?_
            refine WL_as rfl rfl ?_
            refine WL_nil ?_
            exact Fin_back (i + 1) ⟨by omega, allN_succ hi2 (by grind)⟩ (by omega) ⟨⟨rfl, _, rfl, (by first | exact Imp.refl | exact Imp.slv | exact Imp.nil | exact Imp.int (by omega) | exact Imp.int (by simp; done) | exact Imp.bool (by simp_all; done))⟩, ⟨rfl, _, rfl, (by first | exact Imp.refl | exact Imp.slv | exact Imp.nil | exact Imp.int (by omega) | exact Imp.int (by simp; done) | exact Imp.bool (by simp_all; done))⟩, trivial⟩ ⟨rfl, rfl, rfl, trivial⟩ rfl rfl
        · skip
          try simp only [bl] at h3
          refine W_exit ?_
          refine Fin_then_exit ?_
          refine Fin_then_exit ?_
          refine Fin_block_exit ?_
          refine Fin_block ?_
          refine Fin_then ?_
          refine W_region ?_  -- R6 l1_kin.go:200
          refine WL_mv rfl rfl ?_
          refine WL_step (S_plain (O_add (by omega)) ⟨T1 rfl, C1, trivial⟩ rfl rfl) ?_
          refine WL_as rfl rfl ?_
          refine WL_nil ?_
          exact Fin_back (k + 1) ⟨by omega, allN_succ hj (by rw [allN_true (fun z q => hi2 z (by omega))]; simp; grind)⟩ (by omega) ⟨⟨rfl, _, rfl, (Imp.int (by rw [kbeg_nat, kbeg_nat, kcnt_step G k (by omega), show i = (idx G (k : Int)).length from by omega]))⟩, ⟨rfl, _, rfl, (by first | exact Imp.refl | exact Imp.slv | exact Imp.nil | exact Imp.int (by omega) | exact Imp.int (by simp; done) | exact Imp.bool (by simp_all; done))⟩, trivial⟩ ⟨rfl, trivial⟩ rfl rfl
    · skip
      try simp only [bl] at h1
      refine W_exit ?_
      refine Fin_then_exit ?_
      refine Fin_then_exit ?_
      refine Fin_block_exit ?_
      refine Fin_then ?_
      refine W_seq ?_
      refine W_region ?_  -- R16 l1_kin.go:212
      refine WL_ac rfl ?_
      refine WL_nil ?_
      refine Fin_then ?_
      refine W_ret ?_
      exact RetC rfl (Res1 rfl (RV.tmp rfl (Imp.bool (by unfold kparts; rw [allN_true (fun j q => hj j (by omega))]; simp; omega))))
set_option maxRecDepth 8000 in
theorem spec_KinOk (G : Kin) (hG : Small G) : FnC Try.prog 16 [A.sl 1 cGrp G] (A.bool (kinOk G)) := by
  refine Fn_of_W Try.func16 rfl rfl fun r w => ?_
  refine W_seq ?_
  refine W_region ?_  -- R0 l1_kin.go:216
  refine WL_ac rfl ?_
  refine WL_nil ?_
  refine Fin_then ?_
  refine W_seq ?_
  refine W_seq ?_
  refine W_region ?_  -- R1 l1_kin.go:217
  refine WL_mv rfl rfl ?_
  refine WL_step (S_plain (O_call cf44 (spec_l1Parts _ (by assumption)) rfl) ⟨T1 rfl, trivial⟩ rfl rfl) ?_
  refine WL_step (S_plain O_not ⟨T1 rfl, trivial⟩ rfl rfl) ?_
  refine WL_nil ?_
  refine Fin_then ?_
  refine W_cond rfl (fun h0 => ?_) (fun h0 => ?_)
  · skip
    try simp only [bl] at h0
    refine W_seq ?_
    refine W_region ?_  -- R2 l1_kin.go:218
    refine WL_ac rfl ?_
    refine WL_nil ?_
    refine Fin_then ?_
    refine W_ret ?_
    refine Fin_then_ret ?_
    exact RetC rfl (Res1 rfl (RV.tmp rfl (Imp.bool (by unfold kinOk; grind))))
  · skip
    try simp only [bl] at h0
    have hp := kparts_ok h0
    have hU := hp.ups
    have hkc : kcnt G = (G.flatten.length : Int) := rfl
    refine W_skip ?_
    refine Fin_then ?_
    refine W_seq ?_
    refine W_region ?_  -- R3 l1_kin.go:220
    refine WL_mv rfl rfl ?_
    refine WL_step (S_plain (O_call cf45 (spec_l1Flat _ (by assumption)) rfl) ⟨T1 rfl, trivial⟩ rfl rfl) ?_
    refine WL_as rfl rfl ?_
    refine WL_nil ?_
    refine Fin_then ?_
    refine W_seq ?_
    refine W_seq ?_
    refine W_region ?_  -- R4 l1_kin.go:221
    refine WL_ac rfl ?_
    refine WL_nil ?_
    refine Fin_then ?_
    refine W_block ?_
    refine W_loopk [0, 3] (T := Nat) (fun k => k ≤ G.flatten.length ∧ ∀ j, j < k → (fun i => !decide (0 ≤ (idx G.flatten (i : Int)).up) || kbelow G (idx G.flatten (i : Int)) (idx G.flatten (idx G.flatten (i : Int)).up)) j = true) (fun k => [(4, true, A.int (k : Int))]) (fun k => G.flatten.length - k) 0 ⟨Nat.zero_le _, allN_zero⟩ ⟨⟨rfl, _, rfl, (by first | exact Imp.refl | exact Imp.slv | exact Imp.nil | exact Imp.int (by omega) | exact Imp.int (by simp; done) | exact Imp.bool (by simp_all; done))⟩, trivial⟩ (fun k hx => ?_)
    have hk := hx.1
    have hj := hx.2
    have hui : (k : Int) < G.flatten.length → (idx G.flatten (k : Int)).up < k := fun q => (hU k (by omega) q).2
    refine W_seq ?_
    refine W_seq ?_
    refine W_region ?_  -- R5 l1_kin.go:221
    refine WL_mv rfl rfl ?_
    refine WL_mv rfl rfl ?_
    refine WL_len ts38 rfl rfl fun hl12 => ?_
    refine WL_step (S_plain O_lss ⟨T1 rfl, T1 rfl, trivial⟩ rfl rfl) ?_
    refine WL_nil ?_
    refine Fin_then ?_
    refine W_cond rfl (fun h1 => ?_) (fun h1 => ?_)
    · skip
      try simp only [bl] at h1
      refine W_skip ?_
      refine Fin_then ?_
      refine W_seq ?_
      refine W_block ?_
      refine W_seq ?_
      refine W_draw 23 mix rfl rfl ?_  -- R7 l1_kin.go:222
      refine Chain_cons (S_plain O_move ⟨T1 rfl, trivial⟩ rfl rfl) ?_
      refine Chain_cons (S_plain O_move ⟨T1 rfl, trivial⟩ rfl rfl) ?_
      refine Chain_cons (S_plain (O_index ts38 (by omega)) ⟨T1 rfl, T1 rfl, trivial⟩ rfl rfl) ?_
      refine Chain_cons (S_plain (O_field tf29_1) ⟨T1 rfl, trivial⟩ rfl rfl) ?_
      refine Chain_cons (S_plain (O_load ta3) ⟨T1 rfl, trivial⟩ rfl rfl) ?_
      refine Chain_cons (S_plain O_geq ⟨T1 rfl, C1, trivial⟩ rfl rfl) ?_
      refine Chain_cons (S_plain O_move ⟨T1 rfl, trivial⟩ rfl rfl) ?_
      refine Chain_cons (S_t1 rfl rfl (fun hc => O_move) ⟨⟨_, rfl, (by first | exact fun _ _ => rfl | exact fun h _ => h | exact fun _ h => h | exact fun h k => band h k | exact fun h _ => bandl h | exact fun h _ => bandr h)⟩, trivial⟩ rfl rfl rfl) ?_
      refine Chain_cons (S_t1 rfl rfl (fun hc => O_move) ⟨⟨_, rfl, (by first | exact fun _ _ => rfl | exact fun h _ => h | exact fun _ h => h | exact fun h k => band h k | exact fun h _ => bandl h | exact fun h _ => bandr h)⟩, trivial⟩ rfl rfl rfl) ?_
      refine Chain_cons (S_t1 rfl rfl (fun hc => O_move) ⟨⟨_, rfl, (by first | exact fun _ _ => rfl | exact fun h _ => h | exact fun _ h => h | exact fun h k => band h k | exact fun h _ => bandl h | exact fun h _ => bandr h)⟩, trivial⟩ rfl rfl rfl) ?_
      refine Chain_cons (S_t1 rfl rfl (fun hc => (O_index ts38 (by (try simp only [bl] at hc); omega))) ⟨⟨_, rfl, (by first | exact fun _ _ => rfl | exact fun h _ => h | exact fun _ h => h | exact fun h k => band h k | exact fun h _ => bandl h | exact fun h _ => bandr h)⟩, ⟨_, rfl, (by first | exact fun _ _ => rfl | exact fun h _ => h | exact fun _ h => h | exact fun h k => band h k | exact fun h _ => bandl h | exact fun h _ => bandr h)⟩, trivial⟩ rfl rfl rfl) ?_
      refine Chain_cons (S_t1 rfl rfl (fun hc => (O_loadgw tg29 rfl)) ⟨⟨_, rfl, (by first | exact fun _ _ => rfl | exact fun h _ => h | exact fun _ h => h | exact fun h k => band h k | exact fun h _ => bandl h | exact fun h _ => bandr h)⟩, trivial⟩ rfl rfl rfl) ?_
      refine Chain_cons (S_t1 rfl rfl (fun hc => O_move) ⟨⟨_, rfl, (by first | exact fun _ _ => rfl | exact fun h _ => h | exact fun _ h => h | exact fun h k => band h k | exact fun h _ => bandl h | exact fun h _ => bandr h)⟩, trivial⟩ rfl rfl rfl) ?_
      refine Chain_cons (S_t1 rfl rfl (fun hc => O_move) ⟨⟨_, rfl, (by first | exact fun _ _ => rfl | exact fun h _ => h | exact fun _ h => h | exact fun h k => band h k | exact fun h _ => bandl h | exact fun h _ => bandr h)⟩, trivial⟩ rfl rfl rfl) ?_
      refine Chain_cons (S_t1 rfl rfl (fun hc => O_move) ⟨⟨_, rfl, (by first | exact fun _ _ => rfl | exact fun h _ => h | exact fun _ h => h | exact fun h k => band h k | exact fun h _ => bandl h | exact fun h _ => bandr h)⟩, trivial⟩ rfl rfl rfl) ?_
      refine Chain_cons (S_t1 rfl rfl (fun hc => (O_index ts38 (by (try simp only [bl] at hc); omega))) ⟨⟨_, rfl, (by first | exact fun _ _ => rfl | exact fun h _ => h | exact fun _ h => h | exact fun h k => band h k | exact fun h _ => bandl h | exact fun h _ => bandr h)⟩, ⟨_, rfl, (by first | exact fun _ _ => rfl | exact fun h _ => h | exact fun _ h => h | exact fun h k => band h k | exact fun h _ => bandl h | exact fun h _ => bandr h)⟩, trivial⟩ rfl rfl rfl) ?_
      refine Chain_cons (S_t1 rfl rfl (fun hc => (O_field tf29_1)) ⟨⟨_, rfl, (by first | exact fun _ _ => rfl | exact fun h _ => h | exact fun _ h => h | exact fun h k => band h k | exact fun h _ => bandl h | exact fun h _ => bandr h)⟩, trivial⟩ rfl rfl rfl) ?_
      refine Chain_cons (S_t1 rfl rfl (fun hc => (O_load ta3)) ⟨⟨_, rfl, (by first | exact fun _ _ => rfl | exact fun h _ => h | exact fun _ h => h | exact fun h k => band h k | exact fun h _ => bandl h | exact fun h _ => bandr h)⟩, trivial⟩ rfl rfl rfl) ?_
      refine Chain_cons (S_t1 rfl rfl (fun hc => (O_index ts38 (by (try simp only [bl] at hc); omega))) ⟨⟨_, rfl, (by first | exact fun _ _ => rfl | exact fun h _ => h | exact fun _ h => h | exact fun h k => band h k | exact fun h _ => bandl h | exact fun h _ => bandr h)⟩, ⟨_, rfl, (by first | exact fun _ _ => rfl | exact fun h _ => h | exact fun _ h => h | exact fun h k => band h k | exact fun h _ => bandl h | exact fun h _ => bandr h)⟩, trivial⟩ rfl rfl rfl) ?_
      refine Chain_cons (S_t1 rfl rfl (fun hc => (O_loadgw tg29 rfl)) ⟨⟨_, rfl, (by first | exact fun _ _ => rfl | exact fun h _ => h | exact fun _ h => h | exact fun h k => band h k | exact fun h _ => bandl h | exact fun h _ => bandr h)⟩, trivial⟩ rfl rfl rfl) ?_
      refine Chain_cons (S_t1 rfl rfl (fun hc => (O_call cf46 (spec_l1Below _ (by assumption) hU _ _ (hp.tf _ (by omega) (by omega)) (hp.tf _ (by (try simp only [bl] at hc); omega) (by (try simp only [bl] at hc); omega))) rfl)) ⟨⟨_, rfl, (by first | exact fun _ _ => rfl | exact fun h _ => h | exact fun _ h => h | exact fun h k => band h k | exact fun h _ => bandl h | exact fun h _ => bandr h)⟩, ⟨_, rfl, (by first | exact fun _ _ => rfl | exact fun h _ => h | exact fun _ h => h | exact fun h k => band h k | exact fun h _ => bandl h | exact fun h _ => bandr h)⟩, ⟨_, rfl, (by first | exact fun _ _ => rfl | exact fun h _ => h | exact fun _ h => h | exact fun h k => band h k | exact fun h _ => bandl h | exact fun h _ => bandr h)⟩, trivial⟩ rfl rfl rfl) ?_
      refine Chain_cons (S_t1 rfl rfl (fun hc => O_not) ⟨⟨_, rfl, (by first | exact fun _ _ => rfl | exact fun h _ => h | exact fun _ h => h | exact fun h k => band h k | exact fun h _ => bandl h | exact fun h _ => bandr h)⟩, trivial⟩ rfl rfl rfl) ?_
      refine Chain_cons (S_plain O_and ⟨T1 rfl, ⟨_, rfl, (by first | exact fun _ _ => rfl | exact fun h _ => h | exact fun _ h => h | exact fun h k => band h k | exact fun h _ => bandl h | exact fun h _ => bandr h)⟩, trivial⟩ rfl rfl) ?_
      refine Chain_nil ?_
      refine WL_nil ?_
      refine Fin_then ?_
      refine W_cond rfl (fun h2 => ?_) (fun h2 => ?_)
      · skip
        try simp only [bl] at h2
        refine W_seq ?_
        refine W_region ?_  -- R8 l1_kin.go:223
        refine WL_ac rfl ?_
        refine WL_nil ?_
        refine Fin_then ?_
        refine W_ret ?_
        refine Fin_block_ret ?_
        refine Fin_then_ret ?_
        refine Fin_then_ret ?_
        refine Fin_block_ret ?_
        refine Fin_then_ret ?_
        exact RetC rfl (Res1 rfl (RV.tmp rfl (Imp.bool (by unfold kinOk; rw [allN_false k (by omega) (by grind)]; simp))))
      · skip
        try simp only [bl] at h2
        refine W_skip ?_
        refine Fin_block ?_
        refine Fin_then ?_
        refine W_region ?_  -- R6 l1_kin.go:221
        refine WL_mv rfl rfl ?_
        refine WL_step (S_plain (O_add (by omega)) ⟨T1 rfl, C1, trivial⟩ rfl rfl) ?_
        refine WL_as rfl rfl ?_
        refine WL_nil ?_
        exact Fin_back (k + 1) ⟨by omega, allN_succ hj (by grind)⟩ (by omega) ⟨⟨rfl, _, rfl, (by first | exact Imp.refl | exact Imp.slv | exact Imp.nil | exact Imp.int (by omega) | exact Imp.int (by simp; done) | exact Imp.bool (by simp_all; done))⟩, trivial⟩ ⟨rfl, rfl, trivial⟩ rfl rfl
    · skip
      try simp only [bl] at h1
      refine W_exit ?_
      refine Fin_then_exit ?_
      refine Fin_then_exit ?_
      refine Fin_block_exit ?_
      refine Fin_then ?_
      refine W_seq ?_
      refine W_region ?_  -- R9 l1_kin.go:226
      refine WL_ac rfl ?_
      refine WL_nil ?_
      refine Fin_then ?_
      refine W_ret ?_
      exact RetC rfl (Res1 rfl (RV.tmp rfl (Imp.bool (by unfold kinOk; rw [allN_true (fun j q => hj j (by omega)), h0]; rfl))))
end Go.Proofs.Ytilddfgifjejbaa
