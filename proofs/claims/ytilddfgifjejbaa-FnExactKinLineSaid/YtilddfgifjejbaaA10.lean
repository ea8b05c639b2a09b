import Derived.Test.YtilddfgifjejbaaRows
import Derived.Test.YtilddfgifjejbaaCal10
import Derived.Test.YtilddfgifjejbaaPure1
import Derived.Test.YtilddfgifjejbaaPure2
import Derived.Test.YtilddfgifjejbaaPure3
import Derived.Test.YtilddfgifjejbaaPure4
import Derived.Test.YtilddfgifjejbaaA1
import Derived.Test.YtilddfgifjejbaaA5
import Derived.Test.YtilddfgifjejbaaA6
import Derived.Test.YtilddfgifjejbaaA7
import Derived.Test.YtilddfgifjejbaaA8
import Derived.Test.YtilddfgifjejbaaA9
namespace Go.Proofs.Ytilddfgifjejbaa.A10
open Go Go.RowKit Go.L
theorem mix : Try.prog.follows .mixedOrders = true := by kernel_rfl
theorem cf68 : CallF Try.prog 68 := fun w vs => by kernel_rfl
theorem cf69 : CallF Try.prog 69 := fun w vs => by kernel_rfl
theorem sz3 : sizeAt Try.prog 3 = some 1 := by kernel_rfl
theorem sz42 : sizeAt Try.prog 42 = some 1 := by kernel_rfl
theorem ta3 : TA Try.prog 3 := by unfold TA; kernel_rfl
theorem ta42 : TA Try.prog 42 := by unfold TA; kernel_rfl
theorem ta55 : TA Try.prog 55 := by unfold TA; kernel_rfl
theorem ta59 : TA Try.prog 59 := by unfold TA; kernel_rfl
theorem tez42 : TEZ Try.prog 42 3 1 8 [.int .i64 0] := ⟨by kernel_rfl, by kernel_rfl⟩
theorem te42 : TE Try.prog 42 3 1 8 := tez42.te rfl
theorem tf29_1 : TF Try.prog 29 1 1 := by unfold TF; kernel_rfl
theorem tf62_0 : TF Try.prog 62 0 0 := by unfold TF; kernel_rfl
theorem tf66_0 : TF Try.prog 66 0 0 := by unfold TF; kernel_rfl
theorem tf66_1 : TF Try.prog 66 1 1 := by unfold TF; kernel_rfl
theorem ts42 : TS Try.prog 42 3 1 := ⟨by kernel_rfl, by kernel_rfl⟩
theorem ts59 : TS Try.prog 59 62 6 := ⟨by kernel_rfl, by kernel_rfl⟩
end Go.Proofs.Ytilddfgifjejbaa.A10
namespace Go.Proofs.Ytilddfgifjejbaa
open Go Go.RowKit Go.L A10
set_option maxRecDepth 8000 in
theorem appendSeq_line (b : Nat) (G : Kin) (hK : KG G) (a : Int) (h0 : 0 ≤ a) (ha : a < kcnt G) : FnX Try.prog 68 { own := [(b, 3, [A.int a])] } [A.val (.slice none 0 0), A.cl 69 [A.val (.pointer (some ⟨b, 0, none⟩)), A.pt [kP (krows G) (canonL G)]]] (fun x : Nat × Nat × Nat => A.st ((cline G a).length ≤ x.2.1 ∧ x.2.1 ≤ maxLen) (A.os x.1 (cline G a).length x.2.1)) (fun x : Nat × Nat × Nat => { own := [(x.1, 3, (cline G a).map A.int ++ List.replicate x.2.2 A.any)] }) := by
  have hn := krows_cnt G
  have hcl := canonL_len G
  have hc8 := hK.ok.cnt
  refine FnX_of_W' Try.func68 rfl rfl fun r w hok => ?_
  refine W_seq ?_
  refine W_region ?_  -- R0 iter.go:50
  refine WL_boxo (CellsOf.one OneV.slv) (T1 rfl) rfl fun b2 => ?_
  refine WL_roomNil0 3 1 ?_
  refine WL_ac rfl ?_
  refine WL_nil ?_
  refine Fin_then ?_
  refine W_seq ?_
  refine W_seq ?_
  refine W_region ?_  -- R1 iter.go:51
  refine WL_mv rfl rfl ?_
  refine WL_nil ?_
  refine Fin_then ?_
  refine W_block ?_
  refine W_rangeFunc rfl rfl rfl rfl rfl rfl cf69 rfl fun S_1 => ?_
  refine W_block ?_
  refine W_loopp [0, 1, 2] [1, 0] [0] [] (T := Int × List Int × Value) (fun y => -1 ≤ y.1 ∧ y.1 < kcnt G ∧ cline G a = y.2.1 ++ cline G y.1) (fun y => []) (fun y => { own := [(b, 3, [A.int y.1]), (b2, 42, [A.slv y.2.2 1 cInt y.2.1])], rooms := [(y.2.2, 3, 1)], maps := [] }) (fun y => (y.1 + 1).toNat) (a, [], .slice none 0 0) ⟨by simp only; omega, by simp only; omega, rfl⟩ trivial (.cons AllImp.refl (.cons ⟨slv_nil, trivial⟩ OSub.nil)) rfl rfl rfl (fun y hx => ?_)
  obtain ⟨y1, y2, y3⟩ := hx
  have hy3 := congrArg List.length y3
  have hy4 := cline_len G a
  simp only [List.length_append] at hy3
  refine W_seq ?_
  refine W_seq ?_
  refine W_region ?_  -- R0 l1_kin.go:180
  refine WL_step (S_plain (O_loado 0 ta3 rfl rfl) ⟨T1 rfl, trivial⟩ rfl rfl) ?_
  refine WL_step (S_plain O_geq ⟨T1 rfl, C1, trivial⟩ rfl rfl) ?_
  refine WL_nil ?_
  refine Fin_then ?_
  refine W_cond rfl (fun h0 => ?_) (fun h0 => ?_)
  · skip
    try simp only [bl] at h0
    refine W_skip ?_
    refine Fin_then ?_
    refine W_seq ?_
    refine W_block ?_
    refine W_seq ?_
    refine W_draw 8 mix rfl rfl ?_  -- R2 l1_kin.go:181
    refine Chain_cons (S_plain O_move ⟨T1 rfl, trivial⟩ rfl rfl) ?_
    refine Chain_cons (S_plain (O_load ta55) ⟨T1 rfl, trivial⟩ rfl rfl) ?_
    refine Chain_cons (S_plain O_nilCheck ⟨T1 rfl, trivial⟩ rfl rfl) ?_
    refine Chain_cons (S_plain (O_field tf66_1) ⟨T1 rfl, trivial⟩ rfl rfl) ?_
    refine Chain_cons (S_plain (O_load ta42) ⟨T1 rfl, trivial⟩ rfl rfl) ?_
    refine Chain_cons (S_plain (O_loado 0 ta3 rfl rfl) ⟨T1 rfl, trivial⟩ rfl rfl) ?_
    refine Chain_cons (S_plain (O_index ts42 (by omega)) ⟨T1 rfl, T1 rfl, trivial⟩ rfl rfl) ?_
    refine Chain_cons (S_plain (O_load ta3) ⟨T1 rfl, trivial⟩ rfl rfl) ?_
    refine Chain_nil ?_
    refine WL_yield rfl rfl rfl (List.Mem.head _) ⟨T1 rfl, T1 rfl, trivial⟩ fun a1 r1 hat => ?_
    refine W_region ?_  -- R2 iter.go:51
    refine WL_as rfl rfl ?_
    refine WL_nil ?_
    refine Fin_begin (r1 := r1) rfl ?_
    refine W_block ?_
    refine W_region ?_  -- R3 iter.go:52
    refine WL_step (S_plain (O_loado 1 ta42 rfl rfl) ⟨T1 rfl, trivial⟩ rfl rfl) ?_
    refine WL_mv rfl rfl ?_
    refine WL_step (S_plain (O_slice1 (f := cInt) _ te42 rfl rfl (CellsOf.one OneV.int) AllImp.refl) ⟨T1 rfl, trivial⟩ rfl rfl) ?_
    refine WL_append 0 _ te42 ⟨T1 rfl, T1 rfl, trivial⟩ rfl (by decide) (fun _ => rfl) (fun _ => rfl) (fun _ => ⟨OneV.int, trivial⟩) rfl (by try simp only [List.length_cons, List.length_nil]; (first | done | omega)) (by simp only [maxLen, List.length_cons, List.length_nil]; omega) rfl fun v11 => ?_
    refine WL_store 1 rfl ⟨T1 rfl, T1 rfl, trivial⟩ (CellsOf.one OneV.slvv) sz42 (Nat.le_of_ble_eq_true rfl) ?_
    refine WL_nil ?_
    refine Fin_block ?_
    refine Fin_roundN hat rfl [S_1.r, r] (fun c h => by simpa using h) ?_ rfl
    refine WL_step (S_plain O_not ⟨T1 rfl, trivial⟩ rfl rfl) ?_
    refine WL_nil ?_
    refine Fin_then ?_
    refine W_cond rfl (fun h1 => ?_) (fun h1 => ?_)
    · skip
      simp at h1
    · skip
      refine W_skip ?_
      refine Fin_block ?_
      refine Fin_then ?_
      refine W_draw 9 mix rfl rfl ?_  -- R1 l1_kin.go:180
      refine Chain_cons (S_plain (O_load ta55) ⟨T1 rfl, trivial⟩ rfl rfl) ?_
      refine Chain_cons (S_plain O_nilCheck ⟨T1 rfl, trivial⟩ rfl rfl) ?_
      refine Chain_cons (S_plain (O_field tf66_0) ⟨T1 rfl, trivial⟩ rfl rfl) ?_
      refine Chain_cons (S_plain (O_load ta59) ⟨T1 rfl, trivial⟩ rfl rfl) ?_
      refine Chain_cons (S_plain (O_loado 0 ta3 rfl rfl) ⟨T1 rfl, trivial⟩ rfl rfl) ?_
      refine Chain_cons (S_plain (O_index ts59 (by omega)) ⟨T1 rfl, T1 rfl, trivial⟩ rfl rfl) ?_
      refine Chain_cons (S_plain (O_field tf62_0) ⟨T1 rfl, trivial⟩ rfl rfl) ?_
      refine Chain_cons (S_plain (O_field tf29_1) ⟨T1 rfl, trivial⟩ rfl rfl) ?_
      refine Chain_cons (S_plain (O_load ta3) ⟨T1 rfl, trivial⟩ rfl rfl) ?_
      refine Chain_nil ?_
      refine WL_store 0 rfl ⟨T1 rfl, T1 rfl, trivial⟩ (CellsOf.one OneV.int) sz3 (Nat.le_of_ble_eq_true rfl) ?_
      refine WL_nil ?_
      have y4 := hK.up (a := y.1) (by omega) (by omega)
      have y5 := cline_step hK (a := y.1) (by omega) (by omega)
      exact Fin_backp [0, 1] ((idx (krows G) y.1).t.up, y.2.1 ++ [idx (canonL G) y.1], v11) ⟨by simp only; omega, by simp only; omega, by simp only; rw [List.append_assoc, y3, y5]; rfl⟩ (by simp only; omega) trivial ⟨rfl, rfl, rfl, trivial⟩ (.cons AllImp.refl (.cons AllImp.refl OSub.nil)) rfl (List.Sublist.refl _) rfl
  · skip
    try simp only [bl] at h0
    refine W_exit ?_
    refine Fin_then_exit ?_
    refine Fin_then_exit ?_
    refine Fin_block_exit ?_
    refine Fin_iterN rfl rfl (Or.inl rfl) (fun c h => by simpa using h) ?_
    refine Fin_block ?_
    refine Fin_then ?_
    refine W_seq ?_
    refine W_region ?_  -- R4 iter.go:54
    refine WL_step (S_plain (O_loado 1 ta42 rfl rfl) ⟨T1 rfl, trivial⟩ rfl rfl) ?_
    refine WL_drop 1 rfl ?_
    have hL : y.2.1 = cline G a := by rw [y3, cline_neg (a := y.1) (by omega), List.append_nil]
    refine WL_roomOwn r 0 12 [] (List.Mem.head _) (fun x v e r' h => Eq.trans (show r x = some v from e) (h x v e).symm) (fun x v e => Rho.ok_lt hok e) (fun b' h => by rcases h with h | h | h; (rw [show b' = b from by simpa using h]; exact List.mem_cons_self ..); (cases h); (cases h)) rfl rfl (fun _ => rfl) (fun _ => ⟨Pure.val, trivial⟩) trivial (fun x hx => by rcases List.mem_cons.1 hx with rfl | hx; (exact ⟨Pure.val, trivial⟩); (cases hx)) rfl (fun _ e => absurd (hL.symm.trans e) (by rw [cline_step hK (by omega) (by omega)]; simp)) fun b12 cap12 sp12 hv12 hc12 hm12 hl12 => ?_
    refine WL_as rfl rfl ?_
    refine WL_nil ?_
    refine Fin_then ?_
    refine W_ret ?_
    have hlen := congrArg List.length hL
    exact RetXs [0] (b12, cap12, sp12) rfl (Res1 rfl (RV.tmp rfl (Imp.trans (Imp.eq (by rw [hL])) (Imp.st ⟨by simp only; omega, hm12⟩)))) (.cons (AllImp.eq (by rw [← hL]; exact congrArg (fun z => z ++ _) (flat_ints _).symm)) .nil) rfl (List.nil_sublist _) (List.Sublist.refl _)
set_option maxRecDepth 8000 in
theorem collect_line (b : Nat) (G : Kin) (hK : KG G) (a : Int) (h0 : 0 ≤ a) (ha : a < kcnt G) : FnX Try.prog 47 { own := [(b, 3, [A.int a])] } [A.cl 69 [A.val (.pointer (some ⟨b, 0, none⟩)), A.pt [kP (krows G) (canonL G)]]] (fun x : Nat × Nat × Nat => A.st ((cline G a).length ≤ x.2.1 ∧ x.2.1 ≤ maxLen) (A.os x.1 (cline G a).length x.2.1)) (fun x : Nat × Nat × Nat => { own := [(x.1, 3, (cline G a).map A.int ++ List.replicate x.2.2 A.any)] }) := by
  refine FnX_of_W Try.func47 rfl rfl fun r w => ?_
  refine W_seq ?_
  refine W_region ?_  -- R0 iter.go:59
  refine WL_ac rfl ?_
  refine WL_nil ?_
  refine Fin_then ?_
  refine W_seq ?_
  refine W_region ?_  -- R1 iter.go:60
  refine WL_mv rfl rfl ?_
  refine WL_callX [0] [] [] cf68 (appendSeq_line _ _ (by assumption) _ (by omega) (by omega)) rfl ⟨C1, T1 rfl, trivial⟩ (.cons AllImp.refl .nil) rfl rfl rfl rfl fun x4 => ?_
  refine WL_st 4 rfl fun hq4 => ?_
  refine WL_as rfl rfl ?_
  refine WL_nil ?_
  refine Fin_then ?_
  refine W_ret ?_
  exact RetXs [0] x4 rfl (Res1 rfl (RV.tmp rfl (Imp.st hq4))) (.cons AllImp.refl .nil) rfl (List.Sublist.refl _) (List.Sublist.refl _)
end Go.Proofs.Ytilddfgifjejbaa
