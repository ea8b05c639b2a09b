import Derived.Test.YtilddfgifjejbaaRows
import Derived.Test.YtilddfgifjejbaaCal9
import Derived.Test.YtilddfgifjejbaaPure1
import Derived.Test.YtilddfgifjejbaaPure2
import Derived.Test.YtilddfgifjejbaaPure3
import Derived.Test.YtilddfgifjejbaaPure4
import Derived.Test.YtilddfgifjejbaaA1
import Derived.Test.YtilddfgifjejbaaA5
import Derived.Test.YtilddfgifjejbaaA6
namespace Go.Proofs.Ytilddfgifjejbaa.A7
open Go Go.RowKit Go.L
theorem mix : Try.prog.follows .mixedOrders = true := by kernel_rfl
theorem cf37 : CallF Try.prog 37 := fun w vs => by kernel_rfl
theorem cf43 : CallF Try.prog 43 := fun w vs => by kernel_rfl
theorem cf48 : CallF Try.prog 48 := fun w vs => by kernel_rfl
theorem cf64 : CallF Try.prog 64 := fun w vs => by kernel_rfl
theorem cf69 : CallF Try.prog 69 := fun w vs => by kernel_rfl
theorem sz3 : sizeAt Try.prog 3 = some 1 := by kernel_rfl
theorem sz33 : sizeAt Try.prog 33 = some 3 := by kernel_rfl
theorem sz4 : sizeAt Try.prog 4 = some 1 := by kernel_rfl
theorem ta27 : TA Try.prog 27 := by unfold TA; kernel_rfl
theorem ta3 : TA Try.prog 3 := by unfold TA; kernel_rfl
theorem ta4 : TA Try.prog 4 := by unfold TA; kernel_rfl
theorem ta42 : TA Try.prog 42 := by unfold TA; kernel_rfl
theorem ta55 : TA Try.prog 55 := by unfold TA; kernel_rfl
theorem ta59 : TA Try.prog 59 := by unfold TA; kernel_rfl
theorem tf29_0 : TF Try.prog 29 0 0 := by unfold TF; kernel_rfl
theorem tf29_1 : TF Try.prog 29 1 1 := by unfold TF; kernel_rfl
theorem tf29_2 : TF Try.prog 29 2 2 := by unfold TF; kernel_rfl
theorem tf29_3 : TF Try.prog 29 3 3 := by unfold TF; kernel_rfl
theorem tf33_0 : TF Try.prog 33 0 0 := by unfold TF; kernel_rfl
theorem tf33_1 : TF Try.prog 33 1 1 := by unfold TF; kernel_rfl
theorem tf33_2 : TF Try.prog 33 2 2 := by unfold TF; kernel_rfl
theorem tf62_0 : TF Try.prog 62 0 0 := by unfold TF; kernel_rfl
theorem tf66_0 : TF Try.prog 66 0 0 := by unfold TF; kernel_rfl
theorem tf66_1 : TF Try.prog 66 1 1 := by unfold TF; kernel_rfl
theorem tg33 : TG Try.prog 33 3 := ⟨by kernel_rfl, by kernel_rfl⟩
theorem ts27 : TS Try.prog 27 33 3 := ⟨by kernel_rfl, by kernel_rfl⟩
theorem ts42 : TS Try.prog 42 3 1 := ⟨by kernel_rfl, by kernel_rfl⟩
theorem ts59 : TS Try.prog 59 62 6 := ⟨by kernel_rfl, by kernel_rfl⟩
theorem tz33 : TZ Try.prog 33 [.int .i64 0, .int .i64 0, .bool false] := by unfold TZ; kernel_rfl
theorem tz4 : TZ Try.prog 4 [.bool false] := by unfold TZ; kernel_rfl
theorem ub4 : Try.prog.underlying 4 = some .bool := by kernel_rfl
end Go.Proofs.Ytilddfgifjejbaa.A7
namespace Go.Proofs.Ytilddfgifjejbaa
open Go Go.RowKit Go.L A7
set_option maxRecDepth 8000 in
theorem impl_line (L : List Row) (c : List Int) (a : Int) : FnX Try.prog 48 {} [kP L c, A.int a] (fun b : Nat => A.cl 69 [A.val (.pointer (some ⟨b, 0, none⟩)), A.pt [kP L c]]) (fun b : Nat => { own := [(b, 3, [A.int a])] }) := by
  refine FnX_of_W Try.func48 rfl rfl fun r w => ?_
  refine W_seq ?_
  refine W_region ?_  -- R0 l1_kin.go:178
  refine WL_step (S_plain (O_box1 (by first | exact OneCell.int | exact OneCell.bool | exact OneCell.sl | exact OneCell.pt | exact OneCell.any1)) ⟨T1 rfl, trivial⟩ rfl rfl) ?_
  refine WL_boxo (CellsOf.one OneV.int) (T1 rfl) rfl fun b3 => ?_
  refine WL_ac rfl ?_
  refine WL_nil ?_
  refine Fin_then ?_
  refine W_seq ?_
  refine W_region ?_  -- R1 l1_kin.go:179
  refine WL_step (S_plain (O_makeFunc (caps := [_, _]) rfl) ⟨T1 rfl, T1 rfl, trivial⟩ rfl rfl) ?_
  refine WL_as rfl rfl ?_
  refine WL_nil ?_
  refine Fin_then ?_
  refine W_ret ?_
  exact RetXs [0] b3 rfl (Res1 rfl (RV.tmp rfl (by first | exact Imp.refl | exact Imp.slv | exact Imp.nil | exact Imp.int (by omega) | exact Imp.int (by simp; done) | exact Imp.bool (by simp_all; done)))) (.cons AllImp.refl .nil) rfl (List.Sublist.refl _) (List.Sublist.refl _)
set_option maxRecDepth 8000 in
theorem impl_under (G : Kin) (hK : KG G) (a b : Int) : FnC Try.prog 37 [kP (krows G) (canonL G), A.int a, A.int b] (A.bool (kunderI G a b)) := by
  have hn := krows_cnt G
  have hcl := canonL_len G
  refine Fn_of_W Try.func37 rfl rfl fun r w => ?_
  refine W_seq ?_
  refine W_region ?_  -- R0 l1_kin.go:188
  refine WL_step (S_plain (O_box1 (by first | exact OneCell.int | exact OneCell.bool | exact OneCell.sl | exact OneCell.pt | exact OneCell.any1)) ⟨T1 rfl, trivial⟩ rfl rfl) ?_
  refine WL_step (S_plain (O_box1 (by first | exact OneCell.int | exact OneCell.bool | exact OneCell.sl | exact OneCell.pt | exact OneCell.any1)) ⟨T1 rfl, trivial⟩ rfl rfl) ?_
  refine WL_alloc tz4 rfl fun b6 => ?_
  refine WL_nil ?_
  refine Fin_then ?_
  refine W_seq ?_
  refine W_seq ?_
  refine W_draw 24 mix rfl rfl ?_  -- R1 l1_kin.go:189
  refine Chain_cons (S_plain O_move ⟨T1 rfl, trivial⟩ rfl rfl) ?_
  refine Chain_cons (S_plain O_lss ⟨T1 rfl, C1, trivial⟩ rfl rfl) ?_
  refine Chain_cons (S_plain O_move ⟨T1 rfl, trivial⟩ rfl rfl) ?_
  refine Chain_cons (S_f1 rfl rfl (fun hc => (O_load ta3)) ⟨⟨_, rfl, (by first | exact fun _ _ => rfl | exact fun h _ => h | exact fun _ h => h | exact fun h k => band h k | exact fun h _ => bandl h | exact fun h _ => bandr h)⟩, trivial⟩ rfl rfl rfl) ?_
  refine Chain_cons (S_f1 rfl rfl (fun hc => O_lss) ⟨⟨_, rfl, (by first | exact fun _ _ => rfl | exact fun h _ => h | exact fun _ h => h | exact fun h k => band h k | exact fun h _ => bandl h | exact fun h _ => bandr h)⟩, C1, trivial⟩ rfl rfl rfl) ?_
  refine Chain_cons (S_plain O_or ⟨T1 rfl, ⟨_, rfl, (by first | exact fun _ _ => rfl | exact fun h _ => h | exact fun _ h => h | exact fun h k => band h k | exact fun h _ => bandl h | exact fun h _ => bandr h)⟩, trivial⟩ rfl rfl) ?_
  refine Chain_cons (S_plain O_move ⟨T1 rfl, trivial⟩ rfl rfl) ?_
  refine Chain_cons (S_f1 rfl rfl (fun hc => O_move) ⟨⟨_, rfl, (by first | exact fun _ _ => rfl | exact fun h _ => h | exact fun _ h => h | exact fun h k => band h k | exact fun h _ => bandl h | exact fun h _ => bandr h)⟩, trivial⟩ rfl rfl rfl) ?_
  refine Chain_cons (S_f1 rfl rfl (fun hc => (O_load ta55)) ⟨⟨_, rfl, (by first | exact fun _ _ => rfl | exact fun h _ => h | exact fun _ h => h | exact fun h k => band h k | exact fun h _ => bandl h | exact fun h _ => bandr h)⟩, trivial⟩ rfl rfl rfl) ?_
  refine Chain_cons (S_f1 rfl rfl (fun hc => O_nilCheck) ⟨⟨_, rfl, (by first | exact fun _ _ => rfl | exact fun h _ => h | exact fun _ h => h | exact fun h k => band h k | exact fun h _ => bandl h | exact fun h _ => bandr h)⟩, trivial⟩ rfl rfl rfl) ?_
  refine Chain_cons (S_f1 rfl rfl (fun hc => (O_field tf66_0)) ⟨⟨_, rfl, (by first | exact fun _ _ => rfl | exact fun h _ => h | exact fun _ h => h | exact fun h k => band h k | exact fun h _ => bandl h | exact fun h _ => bandr h)⟩, trivial⟩ rfl rfl rfl) ?_
  refine Chain_cons (S_f1 rfl rfl (fun hc => (O_load ta59)) ⟨⟨_, rfl, (by first | exact fun _ _ => rfl | exact fun h _ => h | exact fun _ h => h | exact fun h k => band h k | exact fun h _ => bandl h | exact fun h _ => bandr h)⟩, trivial⟩ rfl rfl rfl) ?_
  refine Chain_cons (S_f1 rfl rfl (fun hc => (O_len ts59)) ⟨⟨_, rfl, (by first | exact fun _ _ => rfl | exact fun h _ => h | exact fun _ h => h | exact fun h k => band h k | exact fun h _ => bandl h | exact fun h _ => bandr h)⟩, trivial⟩ rfl rfl rfl) ?_
  refine Chain_cons (S_f1 rfl rfl (fun hc => O_geq) ⟨⟨_, rfl, (by first | exact fun _ _ => rfl | exact fun h _ => h | exact fun _ h => h | exact fun h k => band h k | exact fun h _ => bandl h | exact fun h _ => bandr h)⟩, ⟨_, rfl, (by first | exact fun _ _ => rfl | exact fun h _ => h | exact fun _ h => h | exact fun h k => band h k | exact fun h _ => bandl h | exact fun h _ => bandr h)⟩, trivial⟩ rfl rfl rfl) ?_
  refine Chain_cons (S_plain O_or ⟨T1 rfl, ⟨_, rfl, (by first | exact fun _ _ => rfl | exact fun h _ => h | exact fun _ h => h | exact fun h k => band h k | exact fun h _ => bandl h | exact fun h _ => bandr h)⟩, trivial⟩ rfl rfl) ?_
  refine Chain_cons (S_plain O_move ⟨T1 rfl, trivial⟩ rfl rfl) ?_
  refine Chain_cons (S_f1 rfl rfl (fun hc => (O_load ta3)) ⟨⟨_, rfl, (by first | exact fun _ _ => rfl | exact fun h _ => h | exact fun _ h => h | exact fun h k => band h k | exact fun h _ => bandl h | exact fun h _ => bandr h)⟩, trivial⟩ rfl rfl rfl) ?_
  refine Chain_cons (S_f1 rfl rfl (fun hc => (O_load ta55)) ⟨⟨_, rfl, (by first | exact fun _ _ => rfl | exact fun h _ => h | exact fun _ h => h | exact fun h k => band h k | exact fun h _ => bandl h | exact fun h _ => bandr h)⟩, trivial⟩ rfl rfl rfl) ?_
  refine Chain_cons (S_f1 rfl rfl (fun hc => O_nilCheck) ⟨⟨_, rfl, (by first | exact fun _ _ => rfl | exact fun h _ => h | exact fun _ h => h | exact fun h k => band h k | exact fun h _ => bandl h | exact fun h _ => bandr h)⟩, trivial⟩ rfl rfl rfl) ?_
  refine Chain_cons (S_f1 rfl rfl (fun hc => (O_field tf66_0)) ⟨⟨_, rfl, (by first | exact fun _ _ => rfl | exact fun h _ => h | exact fun _ h => h | exact fun h k => band h k | exact fun h _ => bandl h | exact fun h _ => bandr h)⟩, trivial⟩ rfl rfl rfl) ?_
  refine Chain_cons (S_f1 rfl rfl (fun hc => (O_load ta59)) ⟨⟨_, rfl, (by first | exact fun _ _ => rfl | exact fun h _ => h | exact fun _ h => h | exact fun h k => band h k | exact fun h _ => bandl h | exact fun h _ => bandr h)⟩, trivial⟩ rfl rfl rfl) ?_
  refine Chain_cons (S_f1 rfl rfl (fun hc => (O_len ts59)) ⟨⟨_, rfl, (by first | exact fun _ _ => rfl | exact fun h _ => h | exact fun _ h => h | exact fun h k => band h k | exact fun h _ => bandl h | exact fun h _ => bandr h)⟩, trivial⟩ rfl rfl rfl) ?_
  refine Chain_cons (S_f1 rfl rfl (fun hc => O_geq) ⟨⟨_, rfl, (by first | exact fun _ _ => rfl | exact fun h _ => h | exact fun _ h => h | exact fun h k => band h k | exact fun h _ => bandl h | exact fun h _ => bandr h)⟩, ⟨_, rfl, (by first | exact fun _ _ => rfl | exact fun h _ => h | exact fun _ h => h | exact fun h k => band h k | exact fun h _ => bandl h | exact fun h _ => bandr h)⟩, trivial⟩ rfl rfl rfl) ?_
  refine Chain_cons (S_plain O_or ⟨T1 rfl, ⟨_, rfl, (by first | exact fun _ _ => rfl | exact fun h _ => h | exact fun _ h => h | exact fun h k => band h k | exact fun h _ => bandl h | exact fun h _ => bandr h)⟩, trivial⟩ rfl rfl) ?_
  refine Chain_nil ?_
  refine WL_nil ?_
  refine Fin_then ?_
  refine W_cond rfl (fun h0 => ?_) (fun h0 => ?_)
  · skip
    try simp only [bl] at h0
    refine W_seq ?_
    refine W_region ?_  -- R2 l1_kin.go:190
    refine WL_store 0 rfl ⟨T1 rfl, C1, trivial⟩ (CellsOf.one OneV.bool) sz4 (Nat.le_of_ble_eq_true rfl) ?_
    refine WL_nil ?_
    refine Fin_then ?_
    refine W_ret ?_
    refine Fin_then_ret ?_
    exact RetC rfl (Res1 rfl (RV.cell 0 rfl ta4 rfl rfl (Imp.bool (by unfold kunderI; grind))))
  · skip
    try simp only [bl] at h0
    refine W_skip ?_
    refine Fin_then ?_
    refine W_seq ?_
    refine W_seq ?_
    refine W_region ?_  -- R3 l1_kin.go:192
    refine WL_mv rfl rfl ?_
    refine WL_step (S_plain (O_load ta3) ⟨T1 rfl, trivial⟩ rfl rfl) ?_
    refine WL_step (S_plain O_eql ⟨T1 rfl, T1 rfl, trivial⟩ rfl rfl) ?_
    refine WL_mv rfl rfl ?_
    refine WL_step (S_f1 rfl rfl (fun hc => (O_load ta3)) ⟨⟨_, rfl, (by first | exact fun _ _ => rfl | exact fun h _ => h | exact fun _ h => h | exact fun h k => band h k | exact fun h _ => bandl h | exact fun h _ => bandr h)⟩, trivial⟩ rfl rfl rfl) ?_
    refine WL_step (S_f1 rfl rfl (fun hc => O_eql) ⟨⟨_, rfl, (by first | exact fun _ _ => rfl | exact fun h _ => h | exact fun _ h => h | exact fun h k => band h k | exact fun h _ => bandl h | exact fun h _ => bandr h)⟩, C1, trivial⟩ rfl rfl rfl) ?_
    refine WL_step (S_plain O_or ⟨T1 rfl, ⟨_, rfl, (by first | exact fun _ _ => rfl | exact fun h _ => h | exact fun _ h => h | exact fun h k => band h k | exact fun h _ => bandl h | exact fun h _ => bandr h)⟩, trivial⟩ rfl rfl) ?_
    refine WL_nil ?_
    refine Fin_then ?_
    refine W_cond rfl (fun h1 => ?_) (fun h1 => ?_)
    · skip
      try simp only [bl] at h1
      refine W_seq ?_
      refine W_region ?_  -- R4 l1_kin.go:193
      refine WL_store 0 rfl ⟨T1 rfl, C1, trivial⟩ (CellsOf.one OneV.bool) sz4 (Nat.le_of_ble_eq_true rfl) ?_
      refine WL_nil ?_
      refine Fin_then ?_
      refine W_ret ?_
      refine Fin_then_ret ?_
      exact RetC rfl (Res1 rfl (RV.cell 0 rfl ta4 rfl rfl (Imp.bool (by unfold kunderI kunder; grind))))
    · skip
      try simp only [bl] at h1
      refine W_skip ?_
      refine Fin_then ?_
      refine W_seq ?_
      refine W_seq ?_
      refine W_region ?_  -- R5 l1_kin.go:195
      refine WL_mv rfl rfl ?_
      refine WL_step (S_plain O_lss ⟨T1 rfl, C1, trivial⟩ rfl rfl) ?_
      refine WL_mv rfl rfl ?_
      refine WL_step (S_f1 rfl rfl (fun hc => (O_load ta3)) ⟨⟨_, rfl, (by first | exact fun _ _ => rfl | exact fun h _ => h | exact fun _ h => h | exact fun h k => band h k | exact fun h _ => bandl h | exact fun h _ => bandr h)⟩, trivial⟩ rfl rfl rfl) ?_
      refine WL_step (S_f1 rfl rfl (fun hc => O_lss) ⟨⟨_, rfl, (by first | exact fun _ _ => rfl | exact fun h _ => h | exact fun _ h => h | exact fun h k => band h k | exact fun h _ => bandl h | exact fun h _ => bandr h)⟩, C1, trivial⟩ rfl rfl rfl) ?_
      refine WL_step (S_plain O_or ⟨T1 rfl, ⟨_, rfl, (by first | exact fun _ _ => rfl | exact fun h _ => h | exact fun _ h => h | exact fun h k => band h k | exact fun h _ => bandl h | exact fun h _ => bandr h)⟩, trivial⟩ rfl rfl) ?_
      refine WL_nil ?_
      refine Fin_then ?_
      refine W_cond rfl (fun h2 => ?_) (fun h2 => ?_)
      · skip
        try simp only [bl] at h2
        refine W_seq ?_
        refine W_region ?_  -- R6 l1_kin.go:196
        refine WL_store 0 rfl ⟨T1 rfl, C1, trivial⟩ (CellsOf.one OneV.bool) sz4 (Nat.le_of_ble_eq_true rfl) ?_
        refine WL_nil ?_
        refine Fin_then ?_
        refine W_ret ?_
        refine Fin_then_ret ?_
        exact RetC rfl (Res1 rfl (RV.cell 0 rfl ta4 rfl rfl (Imp.bool (by unfold kunderI kunder; grind))))
      · skip
        try simp only [bl] at h2
        refine W_skip ?_
        refine Fin_then ?_
        refine W_seq ?_
        refine W_seq ?_
        refine W_region ?_  -- R7 l1_kin.go:198
        refine WL_step (S_plain (O_load ta55) ⟨T1 rfl, trivial⟩ rfl rfl) ?_
        refine WL_mv rfl rfl ?_
        refine WL_callX [] [] [] cf48 (impl_line _ _ _) rfl ⟨T1 rfl, T1 rfl, trivial⟩ OSub.nil rfl rfl rfl rfl fun x47 => ?_
        refine WL_nil ?_
        refine Fin_then ?_
        refine W_block ?_
        refine W_rangeFunc rfl rfl rfl rfl rfl rfl cf69 rfl fun S_1 => ?_
        refine W_block ?_
        refine W_loopp [0, 1, 2] [0] [] [] (T := Int) (fun y => -1 ≤ y ∧ y < kcnt G ∧ (kline G.flatten a).any (fun c => ksame G c b) = (kline G.flatten y).any (fun c => ksame G c b)) (fun y => []) (fun y => { own := [(x47, 3, [A.int y])], rooms := [], maps := [] }) (fun y => (y + 1).toNat) a ⟨by omega, by omega, rfl⟩ trivial (.cons AllImp.refl OSub.nil) rfl rfl rfl (fun y hx => ?_)
        obtain ⟨y1, y2, y3⟩ := hx
        refine W_seq ?_
        refine W_seq ?_
        refine W_region ?_  -- R0 l1_kin.go:180
        refine WL_step (S_plain (O_loado 0 ta3 rfl rfl) ⟨T1 rfl, trivial⟩ rfl rfl) ?_
        refine WL_step (S_plain O_geq ⟨T1 rfl, C1, trivial⟩ rfl rfl) ?_
        refine WL_nil ?_
        refine Fin_then ?_
        refine W_cond rfl (fun h0 => ?_) (fun h0 => ?_)
        · skip
          try simp only [bl] at h0
          refine W_skip ?_
          refine Fin_then ?_
          refine W_seq ?_
          refine W_block ?_
          refine W_seq ?_
          refine W_draw 8 mix rfl rfl ?_  -- R2 l1_kin.go:181
          refine Chain_cons (S_plain O_move ⟨T1 rfl, trivial⟩ rfl rfl) ?_
          refine Chain_cons (S_plain (O_load ta55) ⟨T1 rfl, trivial⟩ rfl rfl) ?_
          refine Chain_cons (S_plain O_nilCheck ⟨T1 rfl, trivial⟩ rfl rfl) ?_
          refine Chain_cons (S_plain (O_field tf66_1) ⟨T1 rfl, trivial⟩ rfl rfl) ?_
          refine Chain_cons (S_plain (O_load ta42) ⟨T1 rfl, trivial⟩ rfl rfl) ?_
          refine Chain_cons (S_plain (O_loado 0 ta3 rfl rfl) ⟨T1 rfl, trivial⟩ rfl rfl) ?_
          refine Chain_cons (S_plain (O_index ts42 (by omega)) ⟨T1 rfl, T1 rfl, trivial⟩ rfl rfl) ?_
          refine Chain_cons (S_plain (O_load ta3) ⟨T1 rfl, trivial⟩ rfl rfl) ?_
          refine Chain_nil ?_
          refine WL_yield rfl rfl rfl (List.Mem.head _) ⟨T1 rfl, T1 rfl, trivial⟩ fun a1 r1 hat => ?_
          refine W_region ?_  -- R8 l1_kin.go:198
          refine WL_as rfl rfl ?_
          refine WL_nil ?_
          refine Fin_begin (r1 := r1) rfl ?_
          refine W_block ?_
          refine W_seq ?_
          refine W_draw 9 mix rfl rfl ?_  -- R9 l1_kin.go:199
          refine Chain_cons (S_plain O_move ⟨T1 rfl, trivial⟩ rfl rfl) ?_
          refine Chain_cons (S_plain (O_load ta55) ⟨T1 rfl, trivial⟩ rfl rfl) ?_
          refine Chain_cons (S_plain O_nilCheck ⟨T1 rfl, trivial⟩ rfl rfl) ?_
          refine Chain_cons (S_plain (O_field tf66_1) ⟨T1 rfl, trivial⟩ rfl rfl) ?_
          refine Chain_cons (S_plain (O_load ta42) ⟨T1 rfl, trivial⟩ rfl rfl) ?_
          refine Chain_cons (S_plain (O_load ta3) ⟨T1 rfl, trivial⟩ rfl rfl) ?_
          refine Chain_cons (S_plain (O_index ts42 (by omega)) ⟨T1 rfl, T1 rfl, trivial⟩ rfl rfl) ?_
          refine Chain_cons (S_plain (O_load ta3) ⟨T1 rfl, trivial⟩ rfl rfl) ?_
          refine Chain_cons (S_plain O_eql ⟨T1 rfl, T1 rfl, trivial⟩ rfl rfl) ?_
          refine Chain_nil ?_
          refine WL_nil ?_
          refine Fin_then ?_
          refine W_cond rfl (fun h3 => ?_) (fun h3 => ?_)
          · skip
            try simp only [bl] at h3
            refine W_seq ?_
            refine W_region ?_  -- R10 l1_kin.go:200
            refine WL_store 1 rfl ⟨T1 rfl, C1, trivial⟩ (CellsOf.one OneV.bool) sz4 (Nat.le_of_ble_eq_true rfl) ?_
            refine WL_nil ?_
            refine Fin_then ?_
            refine W_ret ?_
            refine Fin_block_ret ?_
            refine Fin_roundR hat rfl [S_1.r, r] (fun c h => by simpa using h) ?_ rfl
            refine WL_step (S_plain O_not ⟨T1 rfl, trivial⟩ rfl rfl) ?_
            refine WL_nil ?_
            refine Fin_then ?_
            refine W_cond rfl (fun h1 => ?_) (fun h1 => ?_)
            · skip
              refine W_ret ?_
              refine Fin_block_ret ?_
              refine Fin_then_ret ?_
              refine Fin_then_ret ?_
              refine Fin_block_ret ?_
              refine Fin_iterR rfl rfl rfl (Or.inr rfl) (fun c h => by simpa using h) ?_
              refine Fin_block_ret ?_
              refine Fin_then_ret ?_
              exact RetC rfl (Res1 rfl (RV.cell 1 rfl ta4 rfl rfl (Imp.bool (by have y5 := any_step hK (fun c => ksame G c b) (a := y) (by omega) (by omega); have y6 := canon_same hK (a := y) (b := b) (by omega) (by omega) (by omega) (by omega); unfold kunderI kunder; grind))))
            · skip
              simp at h1
          · skip
            try simp only [bl] at h3
            refine W_skip ?_
            refine Fin_block ?_
            refine Fin_roundN hat rfl [S_1.r, r] (fun c h => by simpa using h) ?_ rfl
            refine WL_step (S_plain O_not ⟨T1 rfl, trivial⟩ rfl rfl) ?_
            refine WL_nil ?_
            refine Fin_then ?_
            refine W_cond rfl (fun h1 => ?_) (fun h1 => ?_)
            · skip
              simp at h1
            · skip
              refine W_skip ?_
              refine Fin_block ?_
              refine Fin_then ?_
              refine W_draw 9 mix rfl rfl ?_  -- R1 l1_kin.go:180
              refine Chain_cons (S_plain (O_load ta55) ⟨T1 rfl, trivial⟩ rfl rfl) ?_
              refine Chain_cons (S_plain O_nilCheck ⟨T1 rfl, trivial⟩ rfl rfl) ?_
              refine Chain_cons (S_plain (O_field tf66_0) ⟨T1 rfl, trivial⟩ rfl rfl) ?_
              refine Chain_cons (S_plain (O_load ta59) ⟨T1 rfl, trivial⟩ rfl rfl) ?_
              refine Chain_cons (S_plain (O_loado 0 ta3 rfl rfl) ⟨T1 rfl, trivial⟩ rfl rfl) ?_
              refine Chain_cons (S_plain (O_index ts59 (by omega)) ⟨T1 rfl, T1 rfl, trivial⟩ rfl rfl) ?_
              refine Chain_cons (S_plain (O_field tf62_0) ⟨T1 rfl, trivial⟩ rfl rfl) ?_
              refine Chain_cons (S_plain (O_field tf29_1) ⟨T1 rfl, trivial⟩ rfl rfl) ?_
              refine Chain_cons (S_plain (O_load ta3) ⟨T1 rfl, trivial⟩ rfl rfl) ?_
              refine Chain_nil ?_
              refine WL_store 0 rfl ⟨T1 rfl, T1 rfl, trivial⟩ (CellsOf.one OneV.int) sz3 (Nat.le_of_ble_eq_true rfl) ?_
              refine WL_nil ?_
              have y4 := hK.up (a := y) (by omega) (by omega)
              have y5 := any_step hK (fun c => ksame G c b) (a := y) (by omega) (by omega)
              have y6 := canon_same hK (a := y) (b := b) (by omega) (by omega) (by omega) (by omega)
              exact Fin_backp [0, 1] ((idx (krows G) y).t.up) ⟨by omega, by omega, by grind⟩ (by omega) trivial ⟨rfl, rfl, rfl, trivial⟩ (.cons AllImp.refl (.cons AllImp.refl OSub.nil)) rfl (List.Sublist.refl _) rfl
        · skip
          try simp only [bl] at h0
          refine W_exit ?_
          refine Fin_then_exit ?_
          refine Fin_then_exit ?_
          refine Fin_block_exit ?_
          refine Fin_iterN rfl rfl (Or.inl rfl) (fun c h => by simpa using h) ?_
          refine Fin_block ?_
          refine Fin_then ?_
          refine W_seq ?_
          refine W_region ?_  -- R11 l1_kin.go:203
          refine WL_store 1 rfl ⟨T1 rfl, C1, trivial⟩ (CellsOf.one OneV.bool) sz4 (Nat.le_of_ble_eq_true rfl) ?_
          refine WL_nil ?_
          refine Fin_then ?_
          refine W_ret ?_
          exact RetC rfl (Res1 rfl (RV.cell 1 rfl ta4 rfl rfl (Imp.bool (by rw [kline_neg (a := y) (by omega)] at y3; unfold kunderI kunder; grind))))
set_option maxRecDepth 8000 in
theorem impl_fieldUnder (G : Kin) (hK : KG G) (f h : Fld) : FnC Try.prog 43 [kP (krows G) (canonL G), A.agg (cFld f), A.agg (cFld h)] (A.bool (fieldOk f (kcnt G) && fieldOk h (kcnt G) && ksort G f h)) := by
  have hn := krows_cnt G
  have hcl := canonL_len G
  have e1 := fieldOk_rng (f := f) (n := kcnt G)
  have e2 := fieldOk_rng (f := h) (n := kcnt G)
  refine Fn_of_W Try.func43 rfl rfl fun r w => ?_
  refine W_seq ?_
  refine W_region ?_  -- R0 l1_kin.go:206
  refine WL_step (S_plain O_boxg ⟨T1 rfl, trivial⟩ rfl rfl) ?_
  refine WL_step (S_plain O_boxg ⟨T1 rfl, trivial⟩ rfl rfl) ?_
  refine WL_ac rfl ?_
  refine WL_nil ?_
  refine Fin_then ?_
  refine W_seq ?_
  refine W_region ?_  -- R1 l1_kin.go:207
  refine WL_mv rfl rfl ?_
  refine WL_step (S_plain O_nilCheck ⟨T1 rfl, trivial⟩ rfl rfl) ?_
  refine WL_step (S_plain (O_field tf66_0) ⟨T1 rfl, trivial⟩ rfl rfl) ?_
  refine WL_step (S_plain (O_load ta59) ⟨T1 rfl, trivial⟩ rfl rfl) ?_
  refine WL_len ts59 rfl rfl fun hl12 => ?_
  refine WL_as rfl rfl ?_
  refine WL_nil ?_
  refine Fin_then ?_
  refine W_seq ?_
  refine W_seq ?_
  refine W_region ?_  -- R2 l1_kin.go:208
  refine WL_step (S_plain (O_loadgw tg33 rfl) ⟨T1 rfl, trivial⟩ rfl rfl) ?_
  refine WL_mv rfl rfl ?_
  refine WL_step (S_plain (O_call cf64 (impl_fieldOk _ _) rfl) ⟨T1 rfl, T1 rfl, trivial⟩ rfl rfl) ?_
  refine WL_step (S_plain O_not ⟨T1 rfl, trivial⟩ rfl rfl) ?_
  refine WL_mv rfl rfl ?_
  refine WL_step (S_f1 rfl rfl (fun hc => (O_loadgw tg33 rfl)) ⟨⟨_, rfl, (by first | exact fun _ _ => rfl | exact fun h _ => h | exact fun _ h => h | exact fun h k => band h k | exact fun h _ => bandl h | exact fun h _ => bandr h)⟩, trivial⟩ rfl rfl rfl) ?_
  refine WL_step (S_f1 rfl rfl (fun hc => O_move) ⟨⟨_, rfl, (by first | exact fun _ _ => rfl | exact fun h _ => h | exact fun _ h => h | exact fun h k => band h k | exact fun h _ => bandl h | exact fun h _ => bandr h)⟩, trivial⟩ rfl rfl rfl) ?_
  refine WL_step (S_f1 rfl rfl (fun hc => (O_call cf64 (impl_fieldOk _ _) rfl)) ⟨⟨_, rfl, (by first | exact fun _ _ => rfl | exact fun h _ => h | exact fun _ h => h | exact fun h k => band h k | exact fun h _ => bandl h | exact fun h _ => bandr h)⟩, ⟨_, rfl, (by first | exact fun _ _ => rfl | exact fun h _ => h | exact fun _ h => h | exact fun h k => band h k | exact fun h _ => bandl h | exact fun h _ => bandr h)⟩, trivial⟩ rfl rfl rfl) ?_
  refine WL_step (S_f1 rfl rfl (fun hc => O_not) ⟨⟨_, rfl, (by first | exact fun _ _ => rfl | exact fun h _ => h | exact fun _ h => h | exact fun h k => band h k | exact fun h _ => bandl h | exact fun h _ => bandr h)⟩, trivial⟩ rfl rfl rfl) ?_
  refine WL_step (S_plain O_or ⟨T1 rfl, ⟨_, rfl, (by first | exact fun _ _ => rfl | exact fun h _ => h | exact fun _ h => h | exact fun h k => band h k | exact fun h _ => bandl h | exact fun h _ => bandr h)⟩, trivial⟩ rfl rfl) ?_
  refine WL_nil ?_
  refine Fin_then ?_
  refine W_cond rfl (fun h0 => ?_) (fun h0 => ?_)
  · skip
    (try rw [hn] at h0); (try simp at h0)
    refine W_seq ?_
    refine W_region ?_  -- R3 l1_kin.go:209
    refine WL_ac rfl ?_
    refine WL_nil ?_
    refine Fin_then ?_
    refine W_ret ?_
    refine Fin_then_ret ?_
    exact RetC rfl (Res1 rfl (RV.tmp rfl (Imp.bool (by grind))))
  · skip
    (try rw [hn] at h0); (try simp at h0)
    refine W_skip ?_
    refine Fin_then ?_
    refine W_seq ?_
    refine W_seq ?_
    refine W_region ?_  -- R4 l1_kin.go:211
    refine WL_step (S_plain (O_field tf33_0) ⟨T1 rfl, trivial⟩ rfl rfl) ?_
    refine WL_step (S_plain (O_load ta3) ⟨T1 rfl, trivial⟩ rfl rfl) ?_
    refine WL_step (S_plain O_eql ⟨T1 rfl, C1, trivial⟩ rfl rfl) ?_
    refine WL_mv rfl rfl ?_
    refine WL_step (S_f1 rfl rfl (fun hc => (O_field tf33_0)) ⟨⟨_, rfl, (by first | exact fun _ _ => rfl | exact fun h _ => h | exact fun _ h => h | exact fun h k => band h k | exact fun h _ => bandl h | exact fun h _ => bandr h)⟩, trivial⟩ rfl rfl rfl) ?_
    refine WL_step (S_f1 rfl rfl (fun hc => (O_load ta3)) ⟨⟨_, rfl, (by first | exact fun _ _ => rfl | exact fun h _ => h | exact fun _ h => h | exact fun h k => band h k | exact fun h _ => bandl h | exact fun h _ => bandr h)⟩, trivial⟩ rfl rfl rfl) ?_
    refine WL_step (S_f1 rfl rfl (fun hc => O_eql) ⟨⟨_, rfl, (by first | exact fun _ _ => rfl | exact fun h _ => h | exact fun _ h => h | exact fun h k => band h k | exact fun h _ => bandl h | exact fun h _ => bandr h)⟩, C1, trivial⟩ rfl rfl rfl) ?_
    refine WL_step (S_plain O_or ⟨T1 rfl, ⟨_, rfl, (by first | exact fun _ _ => rfl | exact fun h _ => h | exact fun _ h => h | exact fun h k => band h k | exact fun h _ => bandl h | exact fun h _ => bandr h)⟩, trivial⟩ rfl rfl) ?_
    refine WL_nil ?_
    refine Fin_then ?_
    refine W_cond rfl (fun h1 => ?_) (fun h1 => ?_)
    · skip
      (try rw [hn] at h1); (try simp at h1)
      refine W_seq ?_
      refine W_region ?_  -- R5 l1_kin.go:212
      refine WL_step (S_plain (O_field tf33_0) ⟨T1 rfl, trivial⟩ rfl rfl) ?_
      refine WL_step (S_plain (O_load ta3) ⟨T1 rfl, trivial⟩ rfl rfl) ?_
      refine WL_step (S_plain (O_field tf33_0) ⟨T1 rfl, trivial⟩ rfl rfl) ?_
      refine WL_step (S_plain (O_load ta3) ⟨T1 rfl, trivial⟩ rfl rfl) ?_
      refine WL_step (S_plain O_eql ⟨T1 rfl, T1 rfl, trivial⟩ rfl rfl) ?_
      refine WL_as rfl rfl ?_
      refine WL_nil ?_
      refine Fin_then ?_
      refine W_ret ?_
      refine Fin_then_ret ?_
      exact RetC rfl (Res1 rfl (RV.tmp rfl (Imp.bool (by unfold ksort; grind))))
    · skip
      (try rw [hn] at h1); (try simp at h1)
      refine W_skip ?_
      refine Fin_then ?_
      refine W_seq ?_
      refine W_region ?_  -- R6 l1_kin.go:214
      refine WL_mv rfl rfl ?_
      refine WL_step (S_plain (O_field tf33_1) ⟨T1 rfl, trivial⟩ rfl rfl) ?_
      refine WL_step (S_plain (O_load ta3) ⟨T1 rfl, trivial⟩ rfl rfl) ?_
      refine WL_step (S_plain (O_field tf33_1) ⟨T1 rfl, trivial⟩ rfl rfl) ?_
      refine WL_step (S_plain (O_load ta3) ⟨T1 rfl, trivial⟩ rfl rfl) ?_
      refine WL_step (S_plain (O_call cf37 (impl_under _ (by assumption) _ _) rfl) ⟨T1 rfl, T1 rfl, T1 rfl, trivial⟩ rfl rfl) ?_
      refine WL_mv rfl rfl ?_
      refine WL_step (S_t1 rfl rfl (fun hc => (O_field tf33_0)) ⟨⟨_, rfl, (by first | exact fun _ _ => rfl | exact fun h _ => h | exact fun _ h => h | exact fun h k => band h k | exact fun h _ => bandl h | exact fun h _ => bandr h)⟩, trivial⟩ rfl rfl rfl) ?_
      refine WL_step (S_t1 rfl rfl (fun hc => (O_load ta3)) ⟨⟨_, rfl, (by first | exact fun _ _ => rfl | exact fun h _ => h | exact fun _ h => h | exact fun h k => band h k | exact fun h _ => bandl h | exact fun h _ => bandr h)⟩, trivial⟩ rfl rfl rfl) ?_
      refine WL_step (S_t1 rfl rfl (fun hc => O_eql) ⟨⟨_, rfl, (by first | exact fun _ _ => rfl | exact fun h _ => h | exact fun _ h => h | exact fun h k => band h k | exact fun h _ => bandl h | exact fun h _ => bandr h)⟩, C1, trivial⟩ rfl rfl rfl) ?_
      refine WL_step (S_t1 rfl rfl (fun hc => O_move) ⟨⟨_, rfl, (by first | exact fun _ _ => rfl | exact fun h _ => h | exact fun _ h => h | exact fun h k => band h k | exact fun h _ => bandl h | exact fun h _ => bandr h)⟩, trivial⟩ rfl rfl rfl) ?_
      refine WL_step (S_f rfl rfl (fun hc => (O_field tf33_0)) ⟨⟨_, rfl, (by first | exact fun _ _ => rfl | exact fun h _ => h | exact fun _ h => h | exact fun h k => band h k | exact fun h _ => bandl h | exact fun h _ => bandr h)⟩, trivial⟩ rfl rfl rfl) ?_
      refine WL_step (S_f rfl rfl (fun hc => (O_load ta3)) ⟨⟨_, rfl, (by first | exact fun _ _ => rfl | exact fun h _ => h | exact fun _ h => h | exact fun h k => band h k | exact fun h _ => bandl h | exact fun h _ => bandr h)⟩, trivial⟩ rfl rfl rfl) ?_
      refine WL_step (S_f rfl rfl (fun hc => O_eql) ⟨⟨_, rfl, (by first | exact fun _ _ => rfl | exact fun h _ => h | exact fun _ h => h | exact fun h k => band h k | exact fun h _ => bandl h | exact fun h _ => bandr h)⟩, C1, trivial⟩ rfl rfl rfl) ?_
      refine WL_step (S_t1 rfl rfl (fun hc => O_or) ⟨⟨_, rfl, (by first | exact fun _ _ => rfl | exact fun h _ => h | exact fun _ h => h | exact fun h k => band h k | exact fun h _ => bandl h | exact fun h _ => bandr h)⟩, ⟨_, rfl, (by first | exact fun _ _ => rfl | exact fun h _ => h | exact fun _ h => h | exact fun h k => band h k | exact fun h _ => bandl h | exact fun h _ => bandr h)⟩, trivial⟩ rfl rfl rfl) ?_
      refine WL_step (S_plain O_and ⟨T1 rfl, ⟨_, rfl, (by first | exact fun _ _ => rfl | exact fun h _ => h | exact fun _ h => h | exact fun h k => band h k | exact fun h _ => bandl h | exact fun h _ => bandr h)⟩, trivial⟩ rfl rfl) ?_
      refine WL_as rfl rfl ?_
      refine WL_nil ?_
      refine Fin_then ?_
      refine W_ret ?_
      exact RetC rfl (Res1 rfl (RV.tmp rfl (Imp.bool (by unfold ksort kunderI; grind))))
set_option maxRecDepth 8000 in
theorem impl_extends (G : Kin) (hK : KG G) (t u : Ty) (ht : FldsOk G t) (hu : FldsOk G u) : FnC Try.prog 62 [kP (krows G) (canonL G), A.agg (cTy t), A.agg (cTy u)] (A.bool (kbelow G t u)) := by
  refine Fn_of_W Try.func62 rfl rfl fun r w => ?_
  refine W_seq ?_
  refine W_region ?_  -- R0 l1_kin.go:162
  refine WL_step (S_plain O_boxg ⟨T1 rfl, trivial⟩ rfl rfl) ?_
  refine WL_step (S_plain O_boxg ⟨T1 rfl, trivial⟩ rfl rfl) ?_
  refine WL_ac rfl ?_
  refine WL_nil ?_
  refine Fin_then ?_
  refine W_seq ?_
  refine W_seq ?_
  refine W_region ?_  -- R1 l1_kin.go:163
  refine WL_step (S_plain (O_field tf29_0) ⟨T1 rfl, trivial⟩ rfl rfl) ?_
  refine WL_step (S_plain (O_load ta3) ⟨T1 rfl, trivial⟩ rfl rfl) ?_
  refine WL_step (S_plain (O_field tf29_0) ⟨T1 rfl, trivial⟩ rfl rfl) ?_
  refine WL_step (S_plain (O_load ta3) ⟨T1 rfl, trivial⟩ rfl rfl) ?_
  refine WL_step (S_plain O_neq ⟨T1 rfl, T1 rfl, trivial⟩ rfl rfl) ?_
  refine WL_mv rfl rfl ?_
  refine WL_step (S_f1 rfl rfl (fun hc => (O_field tf29_2)) ⟨⟨_, rfl, (by first | exact fun _ _ => rfl | exact fun h _ => h | exact fun _ h => h | exact fun h k => band h k | exact fun h _ => bandl h | exact fun h _ => bandr h)⟩, trivial⟩ rfl rfl rfl) ?_
  refine WL_step (S_f1 rfl rfl (fun hc => (O_load ta4)) ⟨⟨_, rfl, (by first | exact fun _ _ => rfl | exact fun h _ => h | exact fun _ h => h | exact fun h k => band h k | exact fun h _ => bandl h | exact fun h _ => bandr h)⟩, trivial⟩ rfl rfl rfl) ?_
  refine WL_step (S_plain O_or ⟨T1 rfl, ⟨_, rfl, (by first | exact fun _ _ => rfl | exact fun h _ => h | exact fun _ h => h | exact fun h k => band h k | exact fun h _ => bandl h | exact fun h _ => bandr h)⟩, trivial⟩ rfl rfl) ?_
  refine WL_mv rfl rfl ?_
  refine WL_step (S_f1 rfl rfl (fun hc => (O_field tf29_3)) ⟨⟨_, rfl, (by first | exact fun _ _ => rfl | exact fun h _ => h | exact fun _ h => h | exact fun h k => band h k | exact fun h _ => bandl h | exact fun h _ => bandr h)⟩, trivial⟩ rfl rfl rfl) ?_
  refine WL_step (S_f1 rfl rfl (fun hc => (O_load ta27)) ⟨⟨_, rfl, (by first | exact fun _ _ => rfl | exact fun h _ => h | exact fun _ h => h | exact fun h k => band h k | exact fun h _ => bandl h | exact fun h _ => bandr h)⟩, trivial⟩ rfl rfl rfl) ?_
  refine WL_step (S_f1 rfl rfl (fun hc => (O_len ts27)) ⟨⟨_, rfl, (by first | exact fun _ _ => rfl | exact fun h _ => h | exact fun _ h => h | exact fun h k => band h k | exact fun h _ => bandl h | exact fun h _ => bandr h)⟩, trivial⟩ rfl rfl rfl) ?_
  refine WL_step (S_f1 rfl rfl (fun hc => (O_field tf29_3)) ⟨⟨_, rfl, (by first | exact fun _ _ => rfl | exact fun h _ => h | exact fun _ h => h | exact fun h k => band h k | exact fun h _ => bandl h | exact fun h _ => bandr h)⟩, trivial⟩ rfl rfl rfl) ?_
  refine WL_step (S_f1 rfl rfl (fun hc => (O_load ta27)) ⟨⟨_, rfl, (by first | exact fun _ _ => rfl | exact fun h _ => h | exact fun _ h => h | exact fun h k => band h k | exact fun h _ => bandl h | exact fun h _ => bandr h)⟩, trivial⟩ rfl rfl rfl) ?_
  refine WL_step (S_f1 rfl rfl (fun hc => (O_len ts27)) ⟨⟨_, rfl, (by first | exact fun _ _ => rfl | exact fun h _ => h | exact fun _ h => h | exact fun h k => band h k | exact fun h _ => bandl h | exact fun h _ => bandr h)⟩, trivial⟩ rfl rfl rfl) ?_
  refine WL_step (S_f1 rfl rfl (fun hc => O_gtr) ⟨⟨_, rfl, (by first | exact fun _ _ => rfl | exact fun h _ => h | exact fun _ h => h | exact fun h k => band h k | exact fun h _ => bandl h | exact fun h _ => bandr h)⟩, ⟨_, rfl, (by first | exact fun _ _ => rfl | exact fun h _ => h | exact fun _ h => h | exact fun h k => band h k | exact fun h _ => bandl h | exact fun h _ => bandr h)⟩, trivial⟩ rfl rfl rfl) ?_
  refine WL_step (S_plain O_or ⟨T1 rfl, ⟨_, rfl, (by first | exact fun _ _ => rfl | exact fun h _ => h | exact fun _ h => h | exact fun h k => band h k | exact fun h _ => bandl h | exact fun h _ => bandr h)⟩, trivial⟩ rfl rfl) ?_
  refine WL_nil ?_
  refine Fin_then ?_
  refine W_cond rfl (fun h0 => ?_) (fun h0 => ?_)
  · skip
    try simp only [bl] at h0
    refine W_seq ?_
    refine W_region ?_  -- R2 l1_kin.go:164
    refine WL_ac rfl ?_
    refine WL_nil ?_
    refine Fin_then ?_
    refine W_ret ?_
    refine Fin_then_ret ?_
    exact RetC rfl (Res1 rfl (RV.tmp rfl (Imp.bool (by unfold kbelow; grind))))
  · skip
    try simp only [bl] at h0
    refine W_skip ?_
    refine Fin_then ?_
    refine W_seq ?_
    refine W_seq ?_
    refine W_region ?_  -- R3 l1_kin.go:166
    refine WL_step (S_plain (O_field tf29_3) ⟨T1 rfl, trivial⟩ rfl rfl) ?_
    refine WL_step (S_plain (O_load ta27) ⟨T1 rfl, trivial⟩ rfl rfl) ?_
    refine WL_len ts27 rfl rfl fun hl30 => ?_
    refine WL_mc rfl ?_
    refine WL_nil ?_
    refine Fin_then ?_
    refine W_block ?_
    refine W_loopp [0, 4, 29, 30] [] [] [] (T := Nat) (fun k => k ≤ u.fields.length ∧ ∀ j, j < k → (fun i : Nat => kfits G (idx t.fields (i : Int)) (idx u.fields (i : Int))) j = true) (fun k => [(31, true, A.int (k : Int))]) (fun k => { own := [], rooms := [], maps := [] }) (fun k => u.fields.length - k) 0 ⟨Nat.zero_le _, allN_zero⟩ ⟨⟨rfl, _, rfl, (by first | exact Imp.refl | exact Imp.slv | exact Imp.nil | exact Imp.int (by omega) | exact Imp.int (by simp; done) | exact Imp.bool (by simp_all; done))⟩, trivial⟩ OSub.nil rfl rfl rfl (fun k hx => ?_)
    have hj := hx.2
    have hk := hx.1
    refine W_seq ?_
    refine W_region ?_  -- R4 l1_kin.go:166
    refine WL_step (S_plain O_lss ⟨T1 rfl, T1 rfl, trivial⟩ rfl rfl) ?_
    refine WL_nil ?_
    refine Fin_then ?_
    refine W_seq ?_
    refine W_cond rfl (fun h1 => ?_) (fun h1 => ?_)
    · skip
      try simp only [bl] at h1
      refine W_skip ?_
      refine Fin_then ?_
      refine W_seq ?_
      refine W_block ?_
      refine W_seq ?_
      refine W_region ?_  -- R5 l1_kin.go:166
      refine WL_mv rfl rfl ?_
      refine WL_step (S_plain (O_index ts27 (by omega)) ⟨T1 rfl, T1 rfl, trivial⟩ rfl rfl) ?_
      refine WL_step (S_plain (O_loadgw tg33 rfl) ⟨T1 rfl, trivial⟩ rfl rfl) ?_
      refine WL_alloc tz33 rfl fun b8 => ?_
      refine WL_as rfl rfl ?_
      refine WL_store 0 rfl ⟨T1 rfl, T1 rfl, trivial⟩ (CellsOf.agg (by exact ⟨OneV.int, OneV.int, OneV.bool, trivial⟩)) sz33 (Nat.le_of_ble_eq_true rfl) ?_
      refine WL_nil ?_
      refine Fin_then ?_
      refine W_seq ?_
      refine W_region ?_  -- R6 l1_kin.go:167
      refine WL_step (S_plain (O_field tf29_3) ⟨T1 rfl, trivial⟩ rfl rfl) ?_
      refine WL_step (S_plain (O_load ta27) ⟨T1 rfl, trivial⟩ rfl rfl) ?_
      refine WL_mv rfl rfl ?_
      refine WL_step (S_plain (O_index ts27 (by omega)) ⟨T1 rfl, T1 rfl, trivial⟩ rfl rfl) ?_
      refine WL_step (S_plain (O_loadgw tg33 rfl) ⟨T1 rfl, trivial⟩ rfl rfl) ?_
      refine WL_alloc tz33 rfl fun b9 => ?_
      refine WL_store 0 rfl ⟨T1 rfl, T1 rfl, trivial⟩ (CellsOf.agg (by exact ⟨OneV.int, OneV.int, OneV.bool, trivial⟩)) sz33 (Nat.le_of_ble_eq_true rfl) ?_
      refine WL_nil ?_
      refine Fin_then ?_
      refine W_seq ?_
      refine W_region ?_  -- R7 l1_kin.go:168
      refine WL_step (S_plain (O_fieldv tf33_2) ⟨T1 rfl, trivial⟩ rfl rfl) ?_
      refine WL_step (S_plain (O_loado 0 ta4 rfl rfl) ⟨T1 rfl, trivial⟩ rfl rfl) ?_
      refine WL_step (S_plain (O_fieldv tf33_2) ⟨T1 rfl, trivial⟩ rfl rfl) ?_
      refine WL_step (S_plain (O_loado 1 ta4 rfl rfl) ⟨T1 rfl, trivial⟩ rfl rfl) ?_
      refine WL_step (S_plain (O_neb ub4) ⟨T1 rfl, T1 rfl, trivial⟩ rfl rfl) ?_
      refine WL_mv rfl rfl ?_
      refine WL_step (S_f1 rfl rfl (fun hc => O_move) ⟨⟨_, rfl, (by first | exact fun _ _ => rfl | exact fun h _ => h | exact fun _ h => h | exact fun h k => band h k | exact fun h _ => bandl h | exact fun h _ => bandr h)⟩, trivial⟩ rfl rfl rfl) ?_
      refine WL_step (S_f1 rfl rfl (fun hc => (O_loadog 0 tg33 rfl (Nat.le_of_ble_eq_true rfl))) ⟨⟨_, rfl, (by first | exact fun _ _ => rfl | exact fun h _ => h | exact fun _ h => h | exact fun h k => band h k | exact fun h _ => bandl h | exact fun h _ => bandr h)⟩, trivial⟩ rfl rfl rfl) ?_
      refine WL_step (S_f1 rfl rfl (fun hc => (O_loadog 1 tg33 rfl (Nat.le_of_ble_eq_true rfl))) ⟨⟨_, rfl, (by first | exact fun _ _ => rfl | exact fun h _ => h | exact fun _ h => h | exact fun h k => band h k | exact fun h _ => bandl h | exact fun h _ => bandr h)⟩, trivial⟩ rfl rfl rfl) ?_
      refine WL_step (S_f1 rfl rfl (fun hc => (O_call cf43 (impl_fieldUnder _ (by assumption) _ _) rfl)) ⟨⟨_, rfl, (by first | exact fun _ _ => rfl | exact fun h _ => h | exact fun _ h => h | exact fun h k => band h k | exact fun h _ => bandl h | exact fun h _ => bandr h)⟩, ⟨_, rfl, (by first | exact fun _ _ => rfl | exact fun h _ => h | exact fun _ h => h | exact fun h k => band h k | exact fun h _ => bandl h | exact fun h _ => bandr h)⟩, ⟨_, rfl, (by first | exact fun _ _ => rfl | exact fun h _ => h | exact fun _ h => h | exact fun h k => band h k | exact fun h _ => bandl h | exact fun h _ => bandr h)⟩, trivial⟩ rfl rfl rfl) ?_
      refine WL_step (S_f1 rfl rfl (fun hc => O_not) ⟨⟨_, rfl, (by first | exact fun _ _ => rfl | exact fun h _ => h | exact fun _ h => h | exact fun h k => band h k | exact fun h _ => bandl h | exact fun h _ => bandr h)⟩, trivial⟩ rfl rfl rfl) ?_
      refine WL_step (S_plain O_or ⟨T1 rfl, ⟨_, rfl, (by first | exact fun _ _ => rfl | exact fun h _ => h | exact fun _ h => h | exact fun h k => band h k | exact fun h _ => bandl h | exact fun h _ => bandr h)⟩, trivial⟩ rfl rfl) ?_
      refine WL_mv rfl rfl ?_
      refine WL_step (S_f1 rfl rfl (fun hc => (O_fieldv tf33_2)) ⟨⟨_, rfl, (by first | exact fun _ _ => rfl | exact fun h _ => h | exact fun _ h => h | exact fun h k => band h k | exact fun h _ => bandl h | exact fun h _ => bandr h)⟩, trivial⟩ rfl rfl rfl) ?_
      refine WL_step (S_f1 rfl rfl (fun hc => (O_loado 1 ta4 rfl rfl)) ⟨⟨_, rfl, (by first | exact fun _ _ => rfl | exact fun h _ => h | exact fun _ h => h | exact fun h k => band h k | exact fun h _ => bandl h | exact fun h _ => bandr h)⟩, trivial⟩ rfl rfl rfl) ?_
      refine WL_step (S_f1 rfl rfl (fun hc => O_move) ⟨⟨_, rfl, (by first | exact fun _ _ => rfl | exact fun h _ => h | exact fun _ h => h | exact fun h k => band h k | exact fun h _ => bandl h | exact fun h _ => bandr h)⟩, trivial⟩ rfl rfl rfl) ?_
      refine WL_step (S_t rfl rfl (fun hc => O_move) ⟨⟨_, rfl, (by first | exact fun _ _ => rfl | exact fun h _ => h | exact fun _ h => h | exact fun h k => band h k | exact fun h _ => bandl h | exact fun h _ => bandr h)⟩, trivial⟩ rfl rfl rfl) ?_
      refine WL_step (S_t rfl rfl (fun hc => (O_loadog 1 tg33 rfl (Nat.le_of_ble_eq_true rfl))) ⟨⟨_, rfl, (by first | exact fun _ _ => rfl | exact fun h _ => h | exact fun _ h => h | exact fun h k => band h k | exact fun h _ => bandl h | exact fun h _ => bandr h)⟩, trivial⟩ rfl rfl rfl) ?_
      refine WL_step (S_t rfl rfl (fun hc => (O_loadog 0 tg33 rfl (Nat.le_of_ble_eq_true rfl))) ⟨⟨_, rfl, (by first | exact fun _ _ => rfl | exact fun h _ => h | exact fun _ h => h | exact fun h k => band h k | exact fun h _ => bandl h | exact fun h _ => bandr h)⟩, trivial⟩ rfl rfl rfl) ?_
      refine WL_step (S_t rfl rfl (fun hc => (O_call cf43 (impl_fieldUnder _ (by assumption) _ _) rfl)) ⟨⟨_, rfl, (by first | exact fun _ _ => rfl | exact fun h _ => h | exact fun _ h => h | exact fun h k => band h k | exact fun h _ => bandl h | exact fun h _ => bandr h)⟩, ⟨_, rfl, (by first | exact fun _ _ => rfl | exact fun h _ => h | exact fun _ h => h | exact fun h k => band h k | exact fun h _ => bandl h | exact fun h _ => bandr h)⟩, ⟨_, rfl, (by first | exact fun _ _ => rfl | exact fun h _ => h | exact fun _ h => h | exact fun h k => band h k | exact fun h _ => bandl h | exact fun h _ => bandr h)⟩, trivial⟩ rfl rfl rfl) ?_
      refine WL_step (S_t rfl rfl (fun hc => O_not) ⟨⟨_, rfl, (by first | exact fun _ _ => rfl | exact fun h _ => h | exact fun _ h => h | exact fun h k => band h k | exact fun h _ => bandl h | exact fun h _ => bandr h)⟩, trivial⟩ rfl rfl rfl) ?_
      refine WL_step (S_f1 rfl rfl (fun hc => O_and) ⟨⟨_, rfl, (by first | exact fun _ _ => rfl | exact fun h _ => h | exact fun _ h => h | exact fun h k => band h k | exact fun h _ => bandl h | exact fun h _ => bandr h)⟩, ⟨_, rfl, (by first | exact fun _ _ => rfl | exact fun h _ => h | exact fun _ h => h | exact fun h k => band h k | exact fun h _ => bandl h | exact fun h _ => bandr h)⟩, trivial⟩ rfl rfl rfl) ?_
      refine WL_step (S_plain O_or ⟨T1 rfl, ⟨_, rfl, (by first | exact fun _ _ => rfl | exact fun h _ => h | exact fun _ h => h | exact fun h k => band h k | exact fun h _ => bandl h | exact fun h _ => bandr h)⟩, trivial⟩ rfl rfl) ?_
      refine WL_nil ?_
      refine Fin_then ?_
      refine W_cond rfl (fun h2 => ?_) (fun h2 => ?_)
      · skip
        try simp only [bl] at h2
        refine W_seq ?_
        refine W_region ?_  -- R8 l1_kin.go:169
        refine WL_ac rfl ?_
        refine WL_nil ?_
        refine Fin_then ?_
        refine W_ret ?_
        refine Fin_block_ret ?_
        refine Fin_then_ret ?_
        refine Fin_then_ret ?_
        refine Fin_block_ret ?_
        refine Fin_then_ret ?_
        have f1 := ht (idx t.fields (k : Int)) (idx_mem (by omega) (by omega))
        have f2 := hu (idx u.fields (k : Int)) (idx_mem (by omega) (by omega))
        have f3 : allN u.fields.length (fun i : Nat => kfits G (idx t.fields (i : Int)) (idx u.fields (i : Int))) = false := allN_false k (by omega) (by unfold kfits; grind)
        exact RetC rfl (Res1 rfl (RV.tmp rfl (Imp.bool (by unfold kbelow; grind))))
      · skip
        try simp only [bl] at h2
        refine W_skip ?_
        refine Fin_block ?_
        refine Fin_then ?_
        refine W_region ?_  -- R9 l1_kin.go:166
        refine WL_step (S_plain (O_add (by omega)) ⟨T1 rfl, C1, trivial⟩ rfl rfl) ?_
        refine WL_mv rfl rfl ?_
        refine WL_nil ?_
        have f1 := ht (idx t.fields (k : Int)) (idx_mem (by omega) (by omega))
        have f2 := hu (idx u.fields (k : Int)) (idx_mem (by omega) (by omega))
        exact Fin_backp [] (k + 1) ⟨by omega, allN_succ hj (by unfold kfits; grind)⟩ (by omega) ⟨⟨rfl, _, rfl, (by first | exact Imp.refl | exact Imp.slv | exact Imp.nil | exact Imp.int (by omega) | exact Imp.int (by simp; done) | exact Imp.bool (by simp_all; done))⟩, trivial⟩ ⟨rfl, rfl, rfl, rfl, trivial⟩ OSub.nil rfl (List.Sublist.refl _) rfl
    · skip
      try simp only [bl] at h1
      refine W_exit ?_
      refine Fin_then_exit ?_
      refine Fin_then_exit ?_
      refine Fin_block_exit ?_
      refine Fin_then ?_
      refine W_seq ?_
      refine W_region ?_  -- R10 l1_kin.go:172
      refine WL_ac rfl ?_
      refine WL_nil ?_
      refine Fin_then ?_
      refine W_ret ?_
      have f3 : allN u.fields.length (fun i : Nat => kfits G (idx t.fields (i : Int)) (idx u.fields (i : Int))) = true := allN_true (fun i q => hj i (by omega))
      exact RetC rfl (Res1 rfl (RV.tmp rfl (Imp.bool (by unfold kbelow; grind))))
end Go.Proofs.Ytilddfgifjejbaa
