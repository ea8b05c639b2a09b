import Derived.Test.YtfjggobjijeniaaRows
import Derived.Test.YtfjggobjijeniaaWalk3
import Derived.Test.YtfjggobjijeniaaWalk2
import Derived.Test.YtfjggobjijeniaaPure1
import Derived.Test.YtfjggobjijeniaaPure2
import Derived.Test.YtfjggobjijeniaaPure3
import Derived.Test.YtfjggobjijeniaaPure4
import Derived.Test.YtfjggobjijeniaaA1
import Derived.Test.YtfjggobjijeniaaA5
import Derived.Test.YtfjggobjijeniaaA6
namespace Go.Proofs.Ytfjggobjijeniaa.A7
open Go Go.RowKit Go.L
theorem mix : Try.prog.follows .mixedOrders = true := by kernel_rfl
theorem cf102 : CallF Try.prog 102 := fun w vs => by kernel_rfl
theorem cf144 : CallF Try.prog 144 := fun w vs => by kernel_rfl
theorem cf146 : CallF Try.prog 146 := fun w vs => by kernel_rfl
theorem cf173 : CallF Try.prog 173 := fun w vs => by kernel_rfl
theorem cf99 : CallF Try.prog 99 := fun w vs => by kernel_rfl
theorem sz3 : sizeAt Try.prog 3 = some 1 := by kernel_rfl
theorem sz37 : sizeAt Try.prog 37 = some 3 := by kernel_rfl
theorem sz4 : sizeAt Try.prog 4 = some 1 := by kernel_rfl
theorem ta108 : TA Try.prog 108 := by unfold TA; kernel_rfl
theorem ta3 : TA Try.prog 3 := by unfold TA; kernel_rfl
theorem ta4 : TA Try.prog 4 := by unfold TA; kernel_rfl
theorem ta50 : TA Try.prog 50 := by unfold TA; kernel_rfl
theorem ta62 : TA Try.prog 62 := by unfold TA; kernel_rfl
theorem ta88 : TA Try.prog 88 := by unfold TA; kernel_rfl
theorem tf110_0 : TF Try.prog 110 0 0 := by unfold TF; kernel_rfl
theorem tf110_1 : TF Try.prog 110 1 1 := by unfold TF; kernel_rfl
theorem tf145_0 : TF Try.prog 145 0 0 := by unfold TF; kernel_rfl
theorem tf145_1 : TF Try.prog 145 1 1 := by unfold TF; kernel_rfl
theorem tf145_2 : TF Try.prog 145 2 2 := by unfold TF; kernel_rfl
theorem tf145_3 : TF Try.prog 145 3 3 := by unfold TF; kernel_rfl
theorem tf156_0 : TF Try.prog 156 0 0 := by unfold TF; kernel_rfl
theorem tf37_0 : TF Try.prog 37 0 0 := by unfold TF; kernel_rfl
theorem tf37_1 : TF Try.prog 37 1 1 := by unfold TF; kernel_rfl
theorem tf37_2 : TF Try.prog 37 2 2 := by unfold TF; kernel_rfl
theorem tg37 : TG Try.prog 37 3 := ⟨by kernel_rfl, by kernel_rfl⟩
theorem ts108 : TS Try.prog 108 156 6 := ⟨by kernel_rfl, by kernel_rfl⟩
theorem ts50 : TS Try.prog 50 37 3 := ⟨by kernel_rfl, by kernel_rfl⟩
theorem ts62 : TS Try.prog 62 3 1 := ⟨by kernel_rfl, by kernel_rfl⟩
theorem tz37 : TZ Try.prog 37 [.int .i64 0, .int .i64 0, .bool false] := by unfold TZ; kernel_rfl
theorem tz4 : TZ Try.prog 4 [.bool false] := by unfold TZ; kernel_rfl
theorem ub4 : Try.prog.underlying 4 = some .bool := by kernel_rfl
end Go.Proofs.Ytfjggobjijeniaa.A7
namespace Go.Proofs.Ytfjggobjijeniaa
open Go Go.RowKit Go.L A7
set_option maxRecDepth 8000 in
theorem impl_line (L : List Row) (c : List Int) (a : Int) : FnX Try.prog 146 {} [kP L c, A.int a] (fun b : Nat => A.cl 173 [A.val (.pointer (some ⟨b, 0, none⟩)), A.pt [kP L c]]) (fun b : Nat => { own := [(b, 3, [A.int a])] }) := by
  refine FnX_of_W Try.func146 rfl rfl fun r w => ?_
  refine W_seq (W_region (ws (O_box1 (by first | exact OneCell.int | exact OneCell.bool | exact OneCell.sl | exact OneCell.pt | exact OneCell.any1)) ⟨T1 rfl, trivial⟩ ?_))
  refine WL_boxo (CellsOf.one OneV.int) (T1 rfl) rfl fun b3 => ?_
  refine WL_ac rfl ?_
  refine WL_nil (Fin_then (W_seq (W_region (ws (O_makeFunc (caps := [_, _]) rfl) ⟨T1 rfl, T1 rfl, trivial⟩ ?_))))
  refine WL_as rfl rfl ?_
  exact WL_nil (Fin_then (W_ret (RetXs [0] b3 rfl (Res1 rfl (RV.tmp rfl (by first | exact Imp.refl | exact Imp.slv | exact Imp.nil | exact Imp.int (by omega) | exact Imp.int (by simp; done) | exact Imp.bool (by simp_all; done)))) (.cons AllImp.refl .nil) rfl (List.Sublist.refl _) (List.Sublist.refl _))))
set_option maxRecDepth 8000 in
theorem impl_under (G : Kin) (hK : KG G) (a b : Int) : FnC Try.prog 102 [kP (krows G) (canonL G), A.int a, A.int b] (A.bool (kunderI G a b)) := by
  have hn := krows_cnt G
  have hcl := canonL_len G
  refine Fn_of_W Try.func102 rfl rfl fun r w => ?_
  refine W_seq (W_region (ws (O_box1 (by first | exact OneCell.int | exact OneCell.bool | exact OneCell.sl | exact OneCell.pt | exact OneCell.any1)) ⟨T1 rfl, trivial⟩ ?_))
  refine ws (O_box1 (by first | exact OneCell.int | exact OneCell.bool | exact OneCell.sl | exact OneCell.pt | exact OneCell.any1)) ⟨T1 rfl, trivial⟩ ?_
  refine WL_alloc tz4 rfl fun b6 => ?_
  refine WL_nil (Fin_then (W_seq (W_seq (W_draw 24 mix rfl rfl ?_))))
  refine cs O_move ⟨T1 rfl, trivial⟩ ?_
  refine cs O_lss ⟨T1 rfl, C1, trivial⟩ ?_
  refine cs O_move ⟨T1 rfl, trivial⟩ ?_
  refine cf1 rfl rfl (fun hc => (O_load ta3)) ⟨tg rfl, trivial⟩ ?_
  refine cf1 rfl rfl (fun hc => O_lss) ⟨tg rfl, C1, trivial⟩ ?_
  refine cs O_or ⟨T1 rfl, tg rfl, trivial⟩ ?_
  refine cs O_move ⟨T1 rfl, trivial⟩ ?_
  refine cf1 rfl rfl (fun hc => O_move) ⟨tg rfl, trivial⟩ ?_
  refine cf1 rfl rfl (fun hc => (O_load ta88)) ⟨tg rfl, trivial⟩ ?_
  refine cf1 rfl rfl (fun hc => O_nilCheck) ⟨tg rfl, trivial⟩ ?_
  refine cf1 rfl rfl (fun hc => (O_field tf110_0)) ⟨tg rfl, trivial⟩ ?_
  refine cf1 rfl rfl (fun hc => (O_load ta108)) ⟨tg rfl, trivial⟩ ?_
  refine cf1 rfl rfl (fun hc => (O_len ts108)) ⟨tg rfl, trivial⟩ ?_
  refine cf1 rfl rfl (fun hc => O_geq) ⟨tg rfl, tg rfl, trivial⟩ ?_
  refine cs O_or ⟨T1 rfl, tg rfl, trivial⟩ ?_
  refine cs O_move ⟨T1 rfl, trivial⟩ ?_
  refine cf1 rfl rfl (fun hc => (O_load ta3)) ⟨tg rfl, trivial⟩ ?_
  refine cf1 rfl rfl (fun hc => (O_load ta88)) ⟨tg rfl, trivial⟩ ?_
  refine cf1 rfl rfl (fun hc => O_nilCheck) ⟨tg rfl, trivial⟩ ?_
  refine cf1 rfl rfl (fun hc => (O_field tf110_0)) ⟨tg rfl, trivial⟩ ?_
  refine cf1 rfl rfl (fun hc => (O_load ta108)) ⟨tg rfl, trivial⟩ ?_
  refine cf1 rfl rfl (fun hc => (O_len ts108)) ⟨tg rfl, trivial⟩ ?_
  refine cf1 rfl rfl (fun hc => O_geq) ⟨tg rfl, tg rfl, trivial⟩ ?_
  refine cs O_or ⟨T1 rfl, tg rfl, trivial⟩ ?_
  refine Chain_nil ?_
  refine WL_nil (Fin_then (W_cond rfl (fun h0 => ?_) (fun h0 => ?_)))
  · skip
    try simp only [bl] at h0
    refine W_seq (W_region (WL_store 0 rfl ⟨T1 rfl, C1, trivial⟩ (CellsOf.one OneV.bool) sz4 (Nat.le_of_ble_eq_true rfl) ?_))
    exact WL_nil (Fin_then (W_ret (Fin_then_ret (RetC rfl (Res1 rfl (RV.cell 0 rfl ta4 rfl rfl (Imp.bool (by unfold kunderI; grind))))))))
  try simp only [bl] at h0
  refine W_skip (Fin_then (W_seq (W_seq (W_region (WL_mv rfl rfl ?_)))))
  refine ws (O_load ta3) ⟨T1 rfl, trivial⟩ ?_
  refine ws O_eql ⟨T1 rfl, T1 rfl, trivial⟩ ?_
  refine WL_mv rfl rfl ?_
  refine wf1 rfl rfl (fun hc => (O_load ta3)) ⟨tg rfl, trivial⟩ ?_
  refine wf1 rfl rfl (fun hc => O_eql) ⟨tg rfl, C1, trivial⟩ ?_
  refine ws O_or ⟨T1 rfl, tg rfl, trivial⟩ ?_
  refine WL_nil (Fin_then (W_cond rfl (fun h1 => ?_) (fun h1 => ?_)))
  · skip
    try simp only [bl] at h1
    refine W_seq (W_region (WL_store 0 rfl ⟨T1 rfl, C1, trivial⟩ (CellsOf.one OneV.bool) sz4 (Nat.le_of_ble_eq_true rfl) ?_))
    exact WL_nil (Fin_then (W_ret (Fin_then_ret (RetC rfl (Res1 rfl (RV.cell 0 rfl ta4 rfl rfl (Imp.bool (by unfold kunderI kunder; grind))))))))
  try simp only [bl] at h1
  refine W_skip (Fin_then (W_seq (W_seq (W_region (WL_mv rfl rfl ?_)))))
  refine ws O_lss ⟨T1 rfl, C1, trivial⟩ ?_
  refine WL_mv rfl rfl ?_
  refine wf1 rfl rfl (fun hc => (O_load ta3)) ⟨tg rfl, trivial⟩ ?_
  refine wf1 rfl rfl (fun hc => O_lss) ⟨tg rfl, C1, trivial⟩ ?_
  refine ws O_or ⟨T1 rfl, tg rfl, trivial⟩ ?_
  refine WL_nil (Fin_then (W_cond rfl (fun h2 => ?_) (fun h2 => ?_)))
  · skip
    try simp only [bl] at h2
    refine W_seq (W_region (WL_store 0 rfl ⟨T1 rfl, C1, trivial⟩ (CellsOf.one OneV.bool) sz4 (Nat.le_of_ble_eq_true rfl) ?_))
    exact WL_nil (Fin_then (W_ret (Fin_then_ret (RetC rfl (Res1 rfl (RV.cell 0 rfl ta4 rfl rfl (Imp.bool (by unfold kunderI kunder; grind))))))))
  try simp only [bl] at h2
  refine W_skip (Fin_then (W_seq (W_seq (W_region (ws (O_load ta88) ⟨T1 rfl, trivial⟩ ?_)))))
  refine WL_mv rfl rfl ?_
  refine WL_callX [] [] [] cf146 (impl_line _ _ _) rfl ⟨T1 rfl, T1 rfl, trivial⟩ OSub.nil rfl rfl rfl rfl fun x47 => ?_
  refine WL_nil (Fin_then (W_block (W_rangeFunc rfl rfl rfl rfl rfl rfl cf173 rfl fun S_1 => ?_)))
  refine W_block (W_loopp [0, 1, 2] [0] [] [] (T := Int) (fun y => -1 ≤ y ∧ y < kcnt G ∧ (kline G.flatten a).any (fun c => ksame G c b) = (kline G.flatten y).any (fun c => ksame G c b)) (fun y => []) (fun y => { own := [(x47, 3, [A.int y])], rooms := [], maps := [] }) (fun y => (y + 1).toNat) a ⟨by omega, by omega, rfl⟩ trivial (.cons AllImp.refl OSub.nil) rfl rfl rfl (fun y hx => ?_))
  obtain ⟨y1, y2, y3⟩ := hx
  refine W_seq (W_seq (W_region (ws (O_loado 0 ta3 rfl rfl) ⟨T1 rfl, trivial⟩ ?_)))
  refine ws O_geq ⟨T1 rfl, C1, trivial⟩ ?_
  refine WL_nil (Fin_then (W_cond rfl (fun h0 => ?_) (fun h0 => ?_)))
  · skip
    try simp only [bl] at h0
    refine W_skip (Fin_then (W_seq (W_block (W_seq (W_draw 8 mix rfl rfl ?_)))))
    refine cs O_move ⟨T1 rfl, trivial⟩ ?_
    refine cs (O_load ta88) ⟨T1 rfl, trivial⟩ ?_
    refine cs O_nilCheck ⟨T1 rfl, trivial⟩ ?_
    refine cs (O_field tf110_1) ⟨T1 rfl, trivial⟩ ?_
    refine cs (O_load ta62) ⟨T1 rfl, trivial⟩ ?_
    refine cs (O_loado 0 ta3 rfl rfl) ⟨T1 rfl, trivial⟩ ?_
    refine cs (O_index ts62 (by omega)) ⟨T1 rfl, T1 rfl, trivial⟩ ?_
    refine cs (O_load ta3) ⟨T1 rfl, trivial⟩ ?_
    refine Chain_nil ?_
    refine WL_yield rfl rfl rfl (List.Mem.head _) ⟨T1 rfl, T1 rfl, trivial⟩ fun a1 r1 hat => ?_
    refine W_region (WL_as rfl rfl ?_)
    refine WL_nil (Fin_begin (r1 := r1) rfl ?_)
    refine W_block (W_seq (W_draw 9 mix rfl rfl ?_))
    refine cs O_move ⟨T1 rfl, trivial⟩ ?_
    refine cs (O_load ta88) ⟨T1 rfl, trivial⟩ ?_
    refine cs O_nilCheck ⟨T1 rfl, trivial⟩ ?_
    refine cs (O_field tf110_1) ⟨T1 rfl, trivial⟩ ?_
    refine cs (O_load ta62) ⟨T1 rfl, trivial⟩ ?_
    refine cs (O_load ta3) ⟨T1 rfl, trivial⟩ ?_
    refine cs (O_index ts62 (by omega)) ⟨T1 rfl, T1 rfl, trivial⟩ ?_
    refine cs (O_load ta3) ⟨T1 rfl, trivial⟩ ?_
    refine cs O_eql ⟨T1 rfl, T1 rfl, trivial⟩ ?_
    refine Chain_nil ?_
    refine WL_nil (Fin_then (W_cond rfl (fun h3 => ?_) (fun h3 => ?_)))
    · skip
      try simp only [bl] at h3
      refine W_seq (W_region (WL_store 1 rfl ⟨T1 rfl, C1, trivial⟩ (CellsOf.one OneV.bool) sz4 (Nat.le_of_ble_eq_true rfl) ?_))
      refine WL_nil (Fin_then (W_ret (Fin_block_ret (Fin_roundR hat rfl [S_1.r, r] (fun c h => by simpa using h) ?_ rfl))))
      refine ws O_not ⟨T1 rfl, trivial⟩ ?_
      refine WL_nil (Fin_then (W_cond rfl (fun h1 => ?_) (fun h1 => ?_)))
      · skip
        refine W_ret (Fin_block_ret (Fin_then_ret (Fin_then_ret (Fin_block_ret (Fin_iterR rfl rfl rfl (Or.inr rfl) (fun c h => by simpa using h) ?_)))))
        exact Fin_block_ret (Fin_then_ret (RetC rfl (Res1 rfl (RV.cell 1 rfl ta4 rfl rfl (Imp.bool (by have y5 := any_step hK (fun c => ksame G c b) (a := y) (by omega) (by omega); have y6 := canon_same hK (a := y) (b := b) (by omega) (by omega) (by omega) (by omega); unfold kunderI kunder; grind))))))
      simp at h1
    try simp only [bl] at h3
    refine W_skip (Fin_block (Fin_roundN hat rfl [S_1.r, r] (fun c h => by simpa using h) ?_ rfl))
    refine ws O_not ⟨T1 rfl, trivial⟩ ?_
    refine WL_nil (Fin_then (W_cond rfl (fun h1 => ?_) (fun h1 => ?_)))
    · skip
      simp at h1
    refine W_skip (Fin_block (Fin_then (W_draw 9 mix rfl rfl ?_)))
    refine cs (O_load ta88) ⟨T1 rfl, trivial⟩ ?_
    refine cs O_nilCheck ⟨T1 rfl, trivial⟩ ?_
    refine cs (O_field tf110_0) ⟨T1 rfl, trivial⟩ ?_
    refine cs (O_load ta108) ⟨T1 rfl, trivial⟩ ?_
    refine cs (O_loado 0 ta3 rfl rfl) ⟨T1 rfl, trivial⟩ ?_
    refine cs (O_index ts108 (by omega)) ⟨T1 rfl, T1 rfl, trivial⟩ ?_
    refine cs (O_field tf156_0) ⟨T1 rfl, trivial⟩ ?_
    refine cs (O_field tf145_1) ⟨T1 rfl, trivial⟩ ?_
    refine cs (O_load ta3) ⟨T1 rfl, trivial⟩ ?_
    refine Chain_nil ?_
    refine WL_store 0 rfl ⟨T1 rfl, T1 rfl, trivial⟩ (CellsOf.one OneV.int) sz3 (Nat.le_of_ble_eq_true rfl) ?_
    refine WL_nil ?_
    have y4 := hK.up (a := y) (by omega) (by omega)
    have y5 := any_step hK (fun c => ksame G c b) (a := y) (by omega) (by omega)
    have y6 := canon_same hK (a := y) (b := b) (by omega) (by omega) (by omega) (by omega)
    exact Fin_backp [0, 1] ((idx (krows G) y).t.up) ⟨by omega, by omega, by grind⟩ (by omega) trivial ⟨rfl, rfl, rfl, trivial⟩ (.cons AllImp.refl (.cons AllImp.refl OSub.nil)) rfl (List.Sublist.refl _) rfl
  try simp only [bl] at h0
  refine W_exit (Fin_then_exit (Fin_then_exit (Fin_block_exit (Fin_iterN rfl rfl (Or.inl rfl) (fun c h => by simpa using h) ?_))))
  refine Fin_block (Fin_then (W_seq (W_region (WL_store 1 rfl ⟨T1 rfl, C1, trivial⟩ (CellsOf.one OneV.bool) sz4 (Nat.le_of_ble_eq_true rfl) ?_))))
  exact WL_nil (Fin_then (W_ret (RetC rfl (Res1 rfl (RV.cell 1 rfl ta4 rfl rfl (Imp.bool (by rw [kline_neg (a := y) (by omega)] at y3; unfold kunderI kunder; grind)))))))
set_option maxRecDepth 8000 in
theorem impl_fieldUnder (G : Kin) (hK : KG G) (f h : Fld) : FnC Try.prog 144 [kP (krows G) (canonL G), A.agg (cFld f), A.agg (cFld h)] (A.bool (fieldOk f (kcnt G) && fieldOk h (kcnt G) && ksort G f h)) := by
  have hn := krows_cnt G
  have hcl := canonL_len G
  have e1 := fieldOk_rng (f := f) (n := kcnt G)
  have e2 := fieldOk_rng (f := h) (n := kcnt G)
  refine Fn_of_W Try.func144 rfl rfl fun r w => ?_
  refine W_seq (W_region (ws O_boxg ⟨T1 rfl, trivial⟩ ?_))
  refine ws O_boxg ⟨T1 rfl, trivial⟩ ?_
  refine WL_ac rfl ?_
  refine WL_nil (Fin_then (W_seq (W_region (WL_mv rfl rfl ?_))))
  refine ws O_nilCheck ⟨T1 rfl, trivial⟩ ?_
  refine ws (O_field tf110_0) ⟨T1 rfl, trivial⟩ ?_
  refine ws (O_load ta108) ⟨T1 rfl, trivial⟩ ?_
  refine WL_len ts108 rfl rfl fun hl12 => ?_
  refine WL_as rfl rfl ?_
  refine WL_nil (Fin_then (W_seq (W_seq (W_region (ws (O_loadgw tg37 rfl) ⟨T1 rfl, trivial⟩ ?_)))))
  refine WL_mv rfl rfl ?_
  refine ws (O_call cf99 (impl_fieldOk _ _) rfl) ⟨T1 rfl, T1 rfl, trivial⟩ ?_
  refine ws O_not ⟨T1 rfl, trivial⟩ ?_
  refine WL_mv rfl rfl ?_
  refine wf1 rfl rfl (fun hc => (O_loadgw tg37 rfl)) ⟨tg rfl, trivial⟩ ?_
  refine wf1 rfl rfl (fun hc => O_move) ⟨tg rfl, trivial⟩ ?_
  refine wf1 rfl rfl (fun hc => (O_call cf99 (impl_fieldOk _ _) rfl)) ⟨tg rfl, tg rfl, trivial⟩ ?_
  refine wf1 rfl rfl (fun hc => O_not) ⟨tg rfl, trivial⟩ ?_
  refine ws O_or ⟨T1 rfl, tg rfl, trivial⟩ ?_
  refine WL_nil (Fin_then (W_cond rfl (fun h0 => ?_) (fun h0 => ?_)))
  · skip
    (try rw [hn] at h0); (try simp at h0)
    refine W_seq (W_region (WL_ac rfl ?_))
    exact WL_nil (Fin_then (W_ret (Fin_then_ret (RetC rfl (Res1 rfl (RV.tmp rfl (Imp.bool (by grind))))))))
  (try rw [hn] at h0); (try simp at h0)
  refine W_skip (Fin_then (W_seq (W_seq (W_region (ws (O_field tf37_0) ⟨T1 rfl, trivial⟩ ?_)))))
  refine ws (O_load ta3) ⟨T1 rfl, trivial⟩ ?_
  refine ws O_eql ⟨T1 rfl, C1, trivial⟩ ?_
  refine WL_mv rfl rfl ?_
  refine wf1 rfl rfl (fun hc => (O_field tf37_0)) ⟨tg rfl, trivial⟩ ?_
  refine wf1 rfl rfl (fun hc => (O_load ta3)) ⟨tg rfl, trivial⟩ ?_
  refine wf1 rfl rfl (fun hc => O_eql) ⟨tg rfl, C1, trivial⟩ ?_
  refine ws O_or ⟨T1 rfl, tg rfl, trivial⟩ ?_
  refine WL_nil (Fin_then (W_cond rfl (fun h1 => ?_) (fun h1 => ?_)))
  · skip
    (try rw [hn] at h1); (try simp at h1)
    refine W_seq (W_region (ws (O_field tf37_0) ⟨T1 rfl, trivial⟩ ?_))
    refine ws (O_load ta3) ⟨T1 rfl, trivial⟩ ?_
    refine ws (O_field tf37_0) ⟨T1 rfl, trivial⟩ ?_
    refine ws (O_load ta3) ⟨T1 rfl, trivial⟩ ?_
    refine ws O_eql ⟨T1 rfl, T1 rfl, trivial⟩ ?_
    refine WL_as rfl rfl ?_
    exact WL_nil (Fin_then (W_ret (Fin_then_ret (RetC rfl (Res1 rfl (RV.tmp rfl (Imp.bool (by unfold ksort; grind))))))))
  (try rw [hn] at h1); (try simp at h1)
  refine W_skip (Fin_then (W_seq (W_region (WL_mv rfl rfl ?_))))
  refine ws (O_field tf37_1) ⟨T1 rfl, trivial⟩ ?_
  refine ws (O_load ta3) ⟨T1 rfl, trivial⟩ ?_
  refine ws (O_field tf37_1) ⟨T1 rfl, trivial⟩ ?_
  refine ws (O_load ta3) ⟨T1 rfl, trivial⟩ ?_
  refine ws (O_call cf102 (impl_under _ (by assumption) _ _) rfl) ⟨T1 rfl, T1 rfl, T1 rfl, trivial⟩ ?_
  refine WL_mv rfl rfl ?_
  refine wt1 rfl rfl (fun hc => (O_field tf37_0)) ⟨tg rfl, trivial⟩ ?_
  refine wt1 rfl rfl (fun hc => (O_load ta3)) ⟨tg rfl, trivial⟩ ?_
  refine wt1 rfl rfl (fun hc => O_eql) ⟨tg rfl, C1, trivial⟩ ?_
  refine wt1 rfl rfl (fun hc => O_move) ⟨tg rfl, trivial⟩ ?_
  refine wf rfl rfl (fun hc => (O_field tf37_0)) ⟨tg rfl, trivial⟩ ?_
  refine wf rfl rfl (fun hc => (O_load ta3)) ⟨tg rfl, trivial⟩ ?_
  refine wf rfl rfl (fun hc => O_eql) ⟨tg rfl, C1, trivial⟩ ?_
  refine wt1 rfl rfl (fun hc => O_or) ⟨tg rfl, tg rfl, trivial⟩ ?_
  refine ws O_and ⟨T1 rfl, tg rfl, trivial⟩ ?_
  refine WL_as rfl rfl ?_
  exact WL_nil (Fin_then (W_ret (RetC rfl (Res1 rfl (RV.tmp rfl (Imp.bool (by unfold ksort kunderI; grind)))))))
set_option maxRecDepth 8000 in
theorem impl_extends (G : Kin) (hK : KG G) (t u : Ty) (ht : FldsOk G t) (hu : FldsOk G u) : FnC Try.prog 98 [kP (krows G) (canonL G), A.agg (cTy t), A.agg (cTy u)] (A.bool (kbelow G t u)) := by
  refine Fn_of_W Try.func98 rfl rfl fun r w => ?_
  refine W_seq (W_region (ws O_boxg ⟨T1 rfl, trivial⟩ ?_))
  refine ws O_boxg ⟨T1 rfl, trivial⟩ ?_
  refine WL_ac rfl ?_
  refine WL_nil (Fin_then (W_seq (W_seq (W_region (ws (O_field tf145_0) ⟨T1 rfl, trivial⟩ ?_)))))
  refine ws (O_load ta3) ⟨T1 rfl, trivial⟩ ?_
  refine ws (O_field tf145_0) ⟨T1 rfl, trivial⟩ ?_
  refine ws (O_load ta3) ⟨T1 rfl, trivial⟩ ?_
  refine ws O_neq ⟨T1 rfl, T1 rfl, trivial⟩ ?_
  refine WL_mv rfl rfl ?_
  refine wf1 rfl rfl (fun hc => (O_field tf145_2)) ⟨tg rfl, trivial⟩ ?_
  refine wf1 rfl rfl (fun hc => (O_load ta4)) ⟨tg rfl, trivial⟩ ?_
  refine ws O_or ⟨T1 rfl, tg rfl, trivial⟩ ?_
  refine WL_mv rfl rfl ?_
  refine wf1 rfl rfl (fun hc => (O_field tf145_3)) ⟨tg rfl, trivial⟩ ?_
  refine wf1 rfl rfl (fun hc => (O_load ta50)) ⟨tg rfl, trivial⟩ ?_
  refine wf1 rfl rfl (fun hc => (O_len ts50)) ⟨tg rfl, trivial⟩ ?_
  refine wf1 rfl rfl (fun hc => (O_field tf145_3)) ⟨tg rfl, trivial⟩ ?_
  refine wf1 rfl rfl (fun hc => (O_load ta50)) ⟨tg rfl, trivial⟩ ?_
  refine wf1 rfl rfl (fun hc => (O_len ts50)) ⟨tg rfl, trivial⟩ ?_
  refine wf1 rfl rfl (fun hc => O_gtr) ⟨tg rfl, tg rfl, trivial⟩ ?_
  refine ws O_or ⟨T1 rfl, tg rfl, trivial⟩ ?_
  refine WL_nil (Fin_then (W_cond rfl (fun h0 => ?_) (fun h0 => ?_)))
  · skip
    try simp only [bl] at h0
    refine W_seq (W_region (WL_ac rfl ?_))
    exact WL_nil (Fin_then (W_ret (Fin_then_ret (RetC rfl (Res1 rfl (RV.tmp rfl (Imp.bool (by unfold kbelow; grind))))))))
  try simp only [bl] at h0
  refine W_skip (Fin_then (W_seq (W_seq (W_region (ws (O_field tf145_3) ⟨T1 rfl, trivial⟩ ?_)))))
  refine ws (O_load ta50) ⟨T1 rfl, trivial⟩ ?_
  refine WL_len ts50 rfl rfl fun hl30 => ?_
  refine WL_mc rfl ?_
  refine WL_nil (Fin_then (W_block (W_loopp [0, 4, 29, 30] [] [] [] (T := Nat) (fun k => k ≤ u.fields.length ∧ ∀ j, j < k → (fun i : Nat => kfits G (idx t.fields (i : Int)) (idx u.fields (i : Int))) j = true) (fun k => [(31, true, A.int (k : Int))]) (fun k => { own := [], rooms := [], maps := [] }) (fun k => u.fields.length - k) 0 ⟨Nat.zero_le _, allN_zero⟩ ⟨⟨rfl, _, rfl, (by first | exact Imp.refl | exact Imp.slv | exact Imp.nil | exact Imp.int (by omega) | exact Imp.int (by simp; done) | exact Imp.bool (by simp_all; done))⟩, trivial⟩ OSub.nil rfl rfl rfl (fun k hx => ?_))))
  have hj := hx.2
  have hk := hx.1
  refine W_seq (W_region (ws O_lss ⟨T1 rfl, T1 rfl, trivial⟩ ?_))
  refine WL_nil (Fin_then (W_seq (W_cond rfl (fun h1 => ?_) (fun h1 => ?_))))
  · skip
    try simp only [bl] at h1
    refine W_skip (Fin_then (W_seq (W_block (W_seq (W_region (WL_mv rfl rfl ?_))))))
    refine ws (O_index ts50 (by omega)) ⟨T1 rfl, T1 rfl, trivial⟩ ?_
    refine ws (O_loadgw tg37 rfl) ⟨T1 rfl, trivial⟩ ?_
    refine WL_alloc tz37 rfl fun b8 => ?_
    refine WL_as rfl rfl ?_
    refine WL_store 0 rfl ⟨T1 rfl, T1 rfl, trivial⟩ (CellsOf.agg (by exact ⟨OneV.int, OneV.int, OneV.bool, trivial⟩)) sz37 (Nat.le_of_ble_eq_true rfl) ?_
    refine WL_nil (Fin_then (W_seq (W_region (ws (O_field tf145_3) ⟨T1 rfl, trivial⟩ ?_))))
    refine ws (O_load ta50) ⟨T1 rfl, trivial⟩ ?_
    refine WL_mv rfl rfl ?_
    refine ws (O_index ts50 (by omega)) ⟨T1 rfl, T1 rfl, trivial⟩ ?_
    refine ws (O_loadgw tg37 rfl) ⟨T1 rfl, trivial⟩ ?_
    refine WL_alloc tz37 rfl fun b9 => ?_
    refine WL_store 0 rfl ⟨T1 rfl, T1 rfl, trivial⟩ (CellsOf.agg (by exact ⟨OneV.int, OneV.int, OneV.bool, trivial⟩)) sz37 (Nat.le_of_ble_eq_true rfl) ?_
    refine WL_nil (Fin_then (W_seq (W_region (ws (O_fieldv tf37_2) ⟨T1 rfl, trivial⟩ ?_))))
    refine ws (O_loado 0 ta4 rfl rfl) ⟨T1 rfl, trivial⟩ ?_
    refine ws (O_fieldv tf37_2) ⟨T1 rfl, trivial⟩ ?_
    refine ws (O_loado 1 ta4 rfl rfl) ⟨T1 rfl, trivial⟩ ?_
    refine ws (O_neb ub4) ⟨T1 rfl, T1 rfl, trivial⟩ ?_
    refine WL_mv rfl rfl ?_
    refine wf1 rfl rfl (fun hc => O_move) ⟨tg rfl, trivial⟩ ?_
    refine wf1 rfl rfl (fun hc => (O_loadog 0 tg37 rfl (Nat.le_of_ble_eq_true rfl))) ⟨tg rfl, trivial⟩ ?_
    refine wf1 rfl rfl (fun hc => (O_loadog 1 tg37 rfl (Nat.le_of_ble_eq_true rfl))) ⟨tg rfl, trivial⟩ ?_
    refine wf1 rfl rfl (fun hc => (O_call cf144 (impl_fieldUnder _ (by assumption) _ _) rfl)) ⟨tg rfl, tg rfl, tg rfl, trivial⟩ ?_
    refine wf1 rfl rfl (fun hc => O_not) ⟨tg rfl, trivial⟩ ?_
    refine ws O_or ⟨T1 rfl, tg rfl, trivial⟩ ?_
    refine WL_mv rfl rfl ?_
    refine wf1 rfl rfl (fun hc => (O_fieldv tf37_2)) ⟨tg rfl, trivial⟩ ?_
    refine wf1 rfl rfl (fun hc => (O_loado 1 ta4 rfl rfl)) ⟨tg rfl, trivial⟩ ?_
    refine wf1 rfl rfl (fun hc => O_move) ⟨tg rfl, trivial⟩ ?_
    refine wt rfl rfl (fun hc => O_move) ⟨tg rfl, trivial⟩ ?_
    refine wt rfl rfl (fun hc => (O_loadog 1 tg37 rfl (Nat.le_of_ble_eq_true rfl))) ⟨tg rfl, trivial⟩ ?_
    refine wt rfl rfl (fun hc => (O_loadog 0 tg37 rfl (Nat.le_of_ble_eq_true rfl))) ⟨tg rfl, trivial⟩ ?_
    refine wt rfl rfl (fun hc => (O_call cf144 (impl_fieldUnder _ (by assumption) _ _) rfl)) ⟨tg rfl, tg rfl, tg rfl, trivial⟩ ?_
    refine wt rfl rfl (fun hc => O_not) ⟨tg rfl, trivial⟩ ?_
    refine wf1 rfl rfl (fun hc => O_and) ⟨tg rfl, tg rfl, trivial⟩ ?_
    refine ws O_or ⟨T1 rfl, tg rfl, trivial⟩ ?_
    refine WL_nil (Fin_then (W_cond rfl (fun h2 => ?_) (fun h2 => ?_)))
    · skip
      try simp only [bl] at h2
      refine W_seq (W_region (WL_ac rfl ?_))
      refine WL_nil (Fin_then (W_ret (Fin_block_ret (Fin_then_ret (Fin_then_ret (Fin_block_ret (Fin_then_ret ?_)))))))
      have f1 := ht (idx t.fields (k : Int)) (idx_mem (by omega) (by omega))
      have f2 := hu (idx u.fields (k : Int)) (idx_mem (by omega) (by omega))
      have f3 : allN u.fields.length (fun i : Nat => kfits G (idx t.fields (i : Int)) (idx u.fields (i : Int))) = false := allN_false k (by omega) (by unfold kfits; grind)
      exact RetC rfl (Res1 rfl (RV.tmp rfl (Imp.bool (by unfold kbelow; grind))))
    try simp only [bl] at h2
    refine W_skip (Fin_block (Fin_then (W_region (ws (O_add (by omega)) ⟨T1 rfl, C1, trivial⟩ ?_))))
    refine WL_mv rfl rfl ?_
    refine WL_nil ?_
    have f1 := ht (idx t.fields (k : Int)) (idx_mem (by omega) (by omega))
    have f2 := hu (idx u.fields (k : Int)) (idx_mem (by omega) (by omega))
    exact Fin_backp [] (k + 1) ⟨by omega, allN_succ hj (by unfold kfits; grind)⟩ (by omega) ⟨⟨rfl, _, rfl, (by first | exact Imp.refl | exact Imp.slv | exact Imp.nil | exact Imp.int (by omega) | exact Imp.int (by simp; done) | exact Imp.bool (by simp_all; done))⟩, trivial⟩ ⟨rfl, rfl, rfl, rfl, trivial⟩ OSub.nil rfl (List.Sublist.refl _) rfl
  try simp only [bl] at h1
  refine W_exit (Fin_then_exit (Fin_then_exit (Fin_block_exit (Fin_then (W_seq (W_region (WL_ac rfl ?_)))))))
  refine WL_nil (Fin_then (W_ret ?_))
  have f3 : allN u.fields.length (fun i : Nat => kfits G (idx t.fields (i : Int)) (idx u.fields (i : Int))) = true := allN_true (fun i q => hj i (by omega))
  exact RetC rfl (Res1 rfl (RV.tmp rfl (Imp.bool (by unfold kbelow; grind))))
end Go.Proofs.Ytfjggobjijeniaa
