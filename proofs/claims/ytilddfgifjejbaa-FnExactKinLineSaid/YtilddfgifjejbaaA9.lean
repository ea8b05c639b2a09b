import Derived.Test.YtilddfgifjejbaaRows
import Derived.Test.YtilddfgifjejbaaDrawL
import Derived.Test.YtilddfgifjejbaaPure1
import Derived.Test.YtilddfgifjejbaaPure2
import Derived.Test.YtilddfgifjejbaaPure3
import Derived.Test.YtilddfgifjejbaaPure4
import Derived.Test.YtilddfgifjejbaaA1
import Derived.Test.YtilddfgifjejbaaA5
import Derived.Test.YtilddfgifjejbaaA6
import Derived.Test.YtilddfgifjejbaaA7
import Derived.Test.YtilddfgifjejbaaA8
namespace Go.Proofs.Ytilddfgifjejbaa.A9
open Go Go.RowKit Go.L
theorem mix : Try.prog.follows .mixedOrders = true := by kernel_rfl
theorem sz3 : sizeAt Try.prog 3 = some 1 := by kernel_rfl
theorem ta3 : TA Try.prog 3 := by unfold TA; kernel_rfl
theorem ts42 : TS Try.prog 42 3 1 := ⟨by kernel_rfl, by kernel_rfl⟩
end Go.Proofs.Ytilddfgifjejbaa.A9
namespace Go.Proofs.Ytilddfgifjejbaa
open Go Go.RowKit Go.L A9
set_option maxRecDepth 8000 in
theorem reverse_int (b n cap : Nat) (sp : List A) (L : List Int) (hn : n = L.length) (hc : L.length ≤ 4611686018427387903) : FnX Try.prog 49 { own := [(b, 3, L.map A.int ++ sp)] } [A.os b n cap] (fun _ : Unit => A.any) (fun _ : Unit => { own := [(b, 3, L.reverse.map A.int ++ sp)] }) := by
  refine FnX_of_W Try.func49 rfl rfl fun r w => ?_
  refine W_seq ?_
  refine W_region ?_  -- R0 slices.go:484
  refine WL_mv rfl rfl ?_
  refine WL_step (S_plain (O_lenv ts42) ⟨T1 rfl, trivial⟩ rfl rfl) ?_
  refine WL_step (S_plain (O_sub (by omega)) ⟨T1 rfl, C1, trivial⟩ rfl rfl) ?_
  refine WL_ac rfl ?_
  refine WL_as rfl rfl ?_
  refine WL_nil ?_
  refine Fin_then ?_
  refine W_block ?_
  refine W_loopp [0] [0] [] [] (T := Nat) (fun k => (k : Int) ≤ L.length) (fun k => [(2, true, A.int (k : Int)), (3, true, A.int ((L.length : Int) - 1 - (k : Int)))]) (fun k => { own := [(b, 3, (sw L k).map A.int ++ sp)], rooms := [], maps := [] }) (fun k => L.length - k) 0 (by omega) ⟨⟨rfl, _, rfl, (by first | exact Imp.refl | exact Imp.slv | exact Imp.nil | exact Imp.int (by omega) | exact Imp.int (by simp; done) | exact Imp.bool (by simp_all; done))⟩, ⟨rfl, _, rfl, (Imp.int (by omega))⟩, trivial⟩ (.cons (AllImp.eq (by rw [sw_zero])) OSub.nil) rfl rfl rfl (fun k hx => ?_)
  refine W_seq ?_
  refine W_seq ?_
  refine W_region ?_  -- R1 slices.go:484
  refine WL_mv rfl rfl ?_
  refine WL_mv rfl rfl ?_
  refine WL_step (S_plain O_lss ⟨T1 rfl, T1 rfl, trivial⟩ rfl rfl) ?_
  refine WL_nil ?_
  refine Fin_then ?_
  refine W_cond rfl (fun h0 => ?_) (fun h0 => ?_)
  · skip
    try simp only [bl] at h0
    refine W_skip ?_
    refine Fin_then ?_
    refine W_seq ?_
    refine W_block ?_
    refine W_drawL 13 [2, 3] mix rfl rfl (by kernel_rfl) rfl ?_  -- R3 slices.go:485
    refine Chain_cons (S_plain O_move ⟨T1 rfl, trivial⟩ rfl rfl) ?_
    refine Chain_cons (S_plain O_move ⟨T1 rfl, trivial⟩ rfl rfl) ?_
    refine Chain_cons (S_plain O_move ⟨T1 rfl, trivial⟩ rfl rfl) ?_
    refine Chain_cons (S_plain O_move ⟨T1 rfl, trivial⟩ rfl rfl) ?_
    refine Chain_cons (S_plain O_move ⟨T1 rfl, trivial⟩ rfl rfl) ?_
    refine Chain_cons (S_plain O_move ⟨T1 rfl, trivial⟩ rfl rfl) ?_
    refine Chain_cons (S_plain (O_indexo ts42 (by omega)) ⟨T1 rfl, T1 rfl, trivial⟩ rfl rfl) ?_
    refine Chain_cons (S_plain (O_loado 0 ta3 rfl (sw_at L k _ sp (idx L ((L.length : Int) - 1 - (k : Int))) (by omega) (by omega) (by omega) (by congr 1; omega))) ⟨T1 rfl, trivial⟩ rfl rfl) ?_
    refine Chain_cons (S_plain O_move ⟨T1 rfl, trivial⟩ rfl rfl) ?_
    refine Chain_cons (S_plain O_move ⟨T1 rfl, trivial⟩ rfl rfl) ?_
    refine Chain_cons (S_plain (O_indexo ts42 (by omega)) ⟨T1 rfl, T1 rfl, trivial⟩ rfl rfl) ?_
    refine Chain_cons (S_plain (O_loado 0 ta3 rfl (sw_at L k _ sp (idx L (k : Int)) (by omega) (by omega) (by omega) (by congr 1; omega))) ⟨T1 rfl, trivial⟩ rfl rfl) ?_
    refine Chain_cons (S_plain (O_indexo ts42 (by omega)) ⟨T1 rfl, T1 rfl, trivial⟩ rfl rfl) ?_
    refine Chain_nil ?_
    refine WL_store 0 rfl ⟨T1 rfl, T1 rfl, trivial⟩ (CellsOf.one OneV.int) sz3 (by (try rw [sw_len L k _ _ _ (by omega)]); (try simp [sw_length]); (try omega)) ?_
    refine WL_step (S_plain (O_indexo ts42 (by omega)) ⟨T1 rfl, T1 rfl, trivial⟩ rfl rfl) ?_
    refine WL_store 0 rfl ⟨T1 rfl, T1 rfl, trivial⟩ (CellsOf.one OneV.int) sz3 (by (try rw [sw_len L k _ _ _ (by omega)]); (try simp [sw_length]); (try omega)) ?_
    refine WL_nil ?_
    refine Fin_nop ?_
    refine Fin_block ?_
    refine Fin_then ?_
    refine W_region ?_  -- R2 slices.go:484
    refine WL_mv rfl rfl ?_
    refine WL_step (S_plain (O_add (by omega)) ⟨T1 rfl, C1, trivial⟩ rfl rfl) ?_
    refine WL_mv rfl rfl ?_
    refine WL_step (S_plain (O_sub (by omega)) ⟨T1 rfl, C1, trivial⟩ rfl rfl) ?_
    refine WL_as rfl rfl ?_
    refine WL_as rfl rfl ?_
    refine WL_nil ?_
    exact Fin_backp [0] (k + 1) (by omega) (by omega) ⟨⟨rfl, _, rfl, (Imp.int (by omega))⟩, ⟨rfl, _, rfl, (Imp.int (by omega))⟩, trivial⟩ ⟨rfl, trivial⟩ (.cons (AllImp.eq (sw_step' L k (by omega) sp)) OSub.nil) rfl (List.Sublist.refl _) rfl
  · skip
    try simp only [bl] at h0
    refine W_exit ?_
    refine Fin_then_exit ?_
    refine Fin_then_exit ?_
    refine Fin_block_exit ?_
    exact RetXs [0] () rfl (Res0 rfl) (.cons (AllImp.eq (by rw [sw_all L k (by omega)])) .nil) rfl (List.Sublist.refl _) (List.Sublist.refl _)
end Go.Proofs.Ytilddfgifjejbaa
