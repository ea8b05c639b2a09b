import Derived.Test.YtfjggobjijeniaaRows
import Derived.Test.YtfjggobjijeniaaWalk3
import Derived.Test.YtfjggobjijeniaaWalk2
import Derived.Test.YtfjggobjijeniaaPure6
import Derived.Test.YtfjggobjijeniaaPure7
import Derived.Test.YtfjggobjijeniaaPure8
import Derived.Test.YtfjggobjijeniaaPure9
import Derived.Test.YtfjggobjijeniaaPure10
import Derived.Test.YtfjggobjijeniaaPure11
import Derived.Test.YtfjggobjijeniaaA1
import Derived.Test.YtfjggobjijeniaaA2
import Derived.Test.YtfjggobjijeniaaA4
import Derived.Test.YtfjggobjijeniaaA5
import Derived.Test.YtfjggobjijeniaaA7
import Derived.Test.YtfjggobjijeniaaA8
import Derived.Test.YtfjggobjijeniaaA13
import Derived.Test.YtfjggobjijeniaaA17
import Derived.Test.YtfjggobjijeniaaA20
namespace Go.Proofs.Ytfjggobjijeniaa.A21
open Go Go.RowKit Go.L
theorem mix : Try.prog.follows .mixedOrders = true := by kernel_rfl
theorem cf145 : CallF Try.prog 145 := fun w vs => by kernel_rfl
theorem cf163 : CallF Try.prog 163 := fun w vs => by kernel_rfl
theorem cf178 : CallF Try.prog 178 := fun w vs => by kernel_rfl
theorem cf48 : CallF Try.prog 48 := fun w vs => by kernel_rfl
theorem sz35 : sizeAt Try.prog 35 = some 2 := by kernel_rfl
theorem sz86 : sizeAt Try.prog 86 = some 2 := by kernel_rfl
theorem ta108 : TA Try.prog 108 := by unfold TA; kernel_rfl
theorem ta137 : TA Try.prog 137 := by unfold TA; kernel_rfl
theorem ta3 : TA Try.prog 3 := by unfold TA; kernel_rfl
theorem ta50 : TA Try.prog 50 := by unfold TA; kernel_rfl
theorem ta84 : TA Try.prog 84 := by unfold TA; kernel_rfl
theorem ta88 : TA Try.prog 88 := by unfold TA; kernel_rfl
theorem tf110_0 : TF Try.prog 110 0 0 := by unfold TF; kernel_rfl
theorem tf139_0 : TF Try.prog 139 0 0 := by unfold TF; kernel_rfl
theorem tf139_3 : TF Try.prog 139 3 7 := by unfold TF; kernel_rfl
theorem tf145_0 : TF Try.prog 145 0 0 := by unfold TF; kernel_rfl
theorem tf145_3 : TF Try.prog 145 3 3 := by unfold TF; kernel_rfl
theorem tf156_0 : TF Try.prog 156 0 0 := by unfold TF; kernel_rfl
theorem tf86_0 : TF Try.prog 86 0 0 := by unfold TF; kernel_rfl
theorem tf86_1 : TF Try.prog 86 1 1 := by unfold TF; kernel_rfl
theorem tg35 : TG Try.prog 35 2 := ⟨by kernel_rfl, by kernel_rfl⟩
theorem tg37 : TG Try.prog 37 3 := ⟨by kernel_rfl, by kernel_rfl⟩
theorem tg86 : TG Try.prog 86 2 := ⟨by kernel_rfl, by kernel_rfl⟩
theorem ts108 : TS Try.prog 108 156 6 := ⟨by kernel_rfl, by kernel_rfl⟩
theorem ts50 : TS Try.prog 50 37 3 := ⟨by kernel_rfl, by kernel_rfl⟩
theorem ts84 : TS Try.prog 84 35 2 := ⟨by kernel_rfl, by kernel_rfl⟩
theorem tz35 : TZ Try.prog 35 [.int .i64 0, .int .i64 0] := by unfold TZ; kernel_rfl
theorem tz86 : TZ Try.prog 86 [.int .i64 0, .slice none 0 0] := by unfold TZ; kernel_rfl
theorem ui3 : Try.prog.underlying 3 = some (.int .i64) := by kernel_rfl
end Go.Proofs.Ytfjggobjijeniaa.A21
namespace Go.Proofs.Ytfjggobjijeniaa
open Go Go.RowKit Go.L A21
theorem hzThg (w : World) : (zeroValue 86).run Try.prog w = .ok zThg w := by
  have hi : (Try.prog.info? 86).bind (·.zero) = some zThg := by kernel_rfl
  cases h : Try.prog.info? 86 with
  | none => rw [h] at hi; cases hi
  | some i => rw [h] at hi; simp at hi; simp [zeroValue, typeInfo, h, hi]
theorem mtThg : MapT Try.prog 137 3 86 := ⟨by kernel_rfl, Go.Maps.int_keyed (q := .i64) (by kernel_rfl)⟩
theorem kokInt {n : Int} (h : inI n) : KeyOk Try.prog 3 (kInt n) := ⟨.int .i64 n, by unfold keyOf kInt; rw [ui3]; simp only [mapKey]; rw [ui3]; simp [Lit.wf]; exact h⟩
theorem thE_ok {T : List Ty} {W S : List Int} (h : ∀ s ∈ S, inI s) : ∀ y ∈ thE T W S, KeyOk Try.prog 3 y.1 := fun y hy => by
  obtain ⟨a, ha, rfl⟩ := List.mem_map.1 hy; exact kokInt (h a ha)
/-- The program's heap with its objects. -/
noncomputable abbrev hP (G : Kin) (h : Hp) (S : List Int) : A := A.pt [kP (krows G) (canonL G), A.sl 1 cInt h.words, A.int h.old, A.int h.oldAt, A.int h.youngAt, A.sl 1 cInt h.log, A.sl 1 cInt S, A.mpf (thE G.flatten h.words S)]
set_option maxRecDepth 8000 in
theorem impl_fieldsOf (G : Kin) (hK : KG G) (t many : Int) (hm : 0 ≤ many) : FnC Try.prog 163 [kP (krows G) (canonL G), A.int t, A.int many] (A.tup [A.sl 3 cFld (hfields G t many).1, A.bool (hfields G t many).2]) := by
  have hn := krows_cnt G
  have hc : kcnt G = (G.flatten.length : Int) := rfl
  refine Fn_of_W Try.func163 rfl rfl fun r w => ?_
  refine W_seq (W_region (WL_ac rfl ?_))
  refine WL_ac rfl ?_
  refine WL_nil (Fin_then (W_seq (W_seq (W_region (WL_mv rfl rfl ?_)))))
  refine WL_mv rfl rfl ?_
  refine ws (O_call cf145 (impl_isType _ _ _) rfl) ⟨T1 rfl, T1 rfl, trivial⟩ ?_
  refine ws O_not ⟨T1 rfl, trivial⟩ ?_
  refine WL_nil (Fin_then (W_cond rfl (fun h0 => ?_) (fun h0 => ?_)))
  · skip
    (try simp only [bl] at h0); rw [hn] at h0
    refine W_seq (W_region (WL_ac rfl ?_))
    refine WL_ac rfl ?_
    refine WL_nil (Fin_then (W_ret (Fin_then_ret ?_)))
    have hff : hfields G t many = ([], false) := by unfold hfields; rw [if_pos (by omega)]
    exact RetC rfl (Res2 rfl (RV.tmp rfl (Imp.trans Imp.nil (Imp.eq (by rw [hff])))) (RV.tmp rfl (Imp.bool (by rw [hff]))))
  (try simp only [bl] at h0); rw [hn] at h0
  have hkt := krows_t (G := G) (a := t) (by omega) (by omega)
  have ty1 := (hK.tyAt (t := t) (by omega) (by omega)).1
  have ty2 := (hK.tyAt (t := t) (by omega) (by omega)).2.1
  refine W_skip (Fin_then (W_seq (W_region (WL_mv rfl rfl ?_))))
  refine ws O_nilCheck ⟨T1 rfl, trivial⟩ ?_
  refine ws (O_field tf110_0) ⟨T1 rfl, trivial⟩ ?_
  refine ws (O_load ta108) ⟨T1 rfl, trivial⟩ ?_
  refine WL_mv rfl rfl ?_
  refine ws (O_index ts108 (by omega)) ⟨T1 rfl, T1 rfl, trivial⟩ ?_
  refine ws (O_field tf156_0) ⟨T1 rfl, trivial⟩ ?_
  refine ws (O_field tf145_3) ⟨T1 rfl, trivial⟩ ?_
  refine ws (OpN.post (O_load ta50) (show Imp _ (A.sl 3 cFld (idx G.flatten t).fields) from Imp.eq (by rw [hkt]))) ⟨T1 rfl, trivial⟩ ?_
  refine WL_as rfl rfl ?_
  refine WL_nil (Fin_then (W_seq (W_seq (W_region (WL_mv rfl rfl ?_)))))
  refine ws O_nilCheck ⟨T1 rfl, trivial⟩ ?_
  refine ws (O_field tf110_0) ⟨T1 rfl, trivial⟩ ?_
  refine ws (O_load ta108) ⟨T1 rfl, trivial⟩ ?_
  refine WL_mv rfl rfl ?_
  refine ws (O_index ts108 (by omega)) ⟨T1 rfl, T1 rfl, trivial⟩ ?_
  refine ws (O_field tf156_0) ⟨T1 rfl, trivial⟩ ?_
  refine ws (O_field tf145_0) ⟨T1 rfl, trivial⟩ ?_
  refine ws (O_load ta3) ⟨T1 rfl, trivial⟩ ?_
  refine ws O_eql ⟨T1 rfl, C1, trivial⟩ ?_
  refine WL_nil (Fin_then (W_cond rfl (fun h1 => ?_) (fun h1 => ?_)))
  · skip
    try simp only [bl] at h1
    rw [hkt] at h1
    have h1l := ty2 h1
    refine W_seq (W_region (WL_mv rfl rfl ?_))
    refine WL_imp 32 rfl (show Imp _ (A.sl 3 cFld [idx (idx G.flatten t).fields 0]) from Imp.eq (congrArg _ (one_list h1l))) ?_
    refine WL_mv rfl rfl ?_
    refine ws O_min ⟨T1 rfl, C1, trivial⟩ ?_
    refine ws O_max ⟨C1, T1 rfl, trivial⟩ ?_
    refine ws (O_call cf178 (FnN.fnC (repeat_Field (idx (idx G.flatten t).fields 0) _ (by split <;> (try split) <;> omega) (by split <;> (try split) <;> omega) _ rfl)) rfl) ⟨T1 rfl, T1 rfl, trivial⟩ ?_
    refine WL_mv rfl rfl ?_
    refine ws O_leq ⟨T1 rfl, C1, trivial⟩ ?_
    refine WL_as rfl rfl ?_
    refine WL_as rfl rfl ?_
    refine WL_nil (Fin_then (W_ret (Fin_then_ret ?_)))
    have hff : hfields G t many = (List.replicate (if 7 < many then 7 else many).toNat (idx (idx G.flatten t).fields 0), decide (many ≤ 6)) := by unfold hfields; rw [if_neg (by omega), if_pos h1]
    exact RetC rfl (Res2 rfl (RV.tmp rfl (Imp.eq (by rw [hff]; congr 2; split <;> (try split) <;> omega))) (RV.tmp rfl (Imp.bool (by rw [hff]))))
  try simp only [bl] at h1
  rw [hkt] at h1
  refine W_skip (Fin_then (W_seq (W_region (WL_mv rfl rfl ?_))))
  refine WL_mv rfl rfl ?_
  refine WL_mv rfl rfl ?_
  refine WL_len ts50 rfl rfl fun hl42 => ?_
  refine ws O_eql ⟨T1 rfl, T1 rfl, trivial⟩ ?_
  refine WL_as rfl rfl ?_
  refine WL_as rfl rfl ?_
  refine WL_nil (Fin_then (W_ret ?_))
  have hff : hfields G t many = ((idx G.flatten t).fields, decide (many = (idx G.flatten t).fields.length)) := by unfold hfields; rw [if_neg (by omega), if_neg h1]
  exact RetC rfl (Res2 rfl (RV.tmp rfl (Imp.eq (by rw [hff]))) (RV.tmp rfl (Imp.bool (by rw [hff]))))
set_option maxRecDepth 8000 in
theorem impl_fitAll (G : Kin) (hK : KG G) (V : List Vl) (L : List Fld) (hV : ∀ v ∈ V, inI v.n) (fd : Int → Thg × Bool) (f0 : FuncId) (bs : List A) (hf : CallF Try.prog f0) (hp : ∀ n, inI n → FnC Try.prog f0 (bs ++ [A.int n]) (A.tup [A.agg (cThing (fd n).1), A.bool (fd n).2])) : FnC Try.prog 133 [kP (krows G) (canonL G), A.sl 2 cVal V, A.sl 3 cFld L, A.mc f0 bs] (A.bool (decide (V.length = L.length) && allN V.length fun i => fitsF G fd (idx V (i : Int)) (idx L (i : Int)))) := by
  refine Fn_of_W Try.func133 rfl rfl fun r w => ?_
  refine W_seq (W_region (WL_ac rfl ?_))
  refine WL_nil (Fin_then (W_seq (W_seq (W_region (WL_mv rfl rfl ?_)))))
  refine WL_len ts84 rfl rfl fun hl12 => ?_
  refine WL_mv rfl rfl ?_
  refine WL_len ts50 rfl rfl fun hl14 => ?_
  refine ws O_neq ⟨T1 rfl, T1 rfl, trivial⟩ ?_
  refine WL_nil (Fin_then (W_cond rfl (fun h0 => ?_) (fun h0 => ?_)))
  · skip
    try simp only [bl] at h0
    refine W_seq (W_region (WL_ac rfl ?_))
    exact WL_nil (Fin_then (W_ret (Fin_then_ret (RetC rfl (Res1 rfl (RV.tmp rfl (Imp.bool (by grind))))))))
  try simp only [bl] at h0
  refine W_skip (Fin_then (W_seq (W_seq (W_region (WL_mv rfl rfl ?_)))))
  refine WL_len ts84 rfl rfl fun hl17 => ?_
  refine WL_mc rfl ?_
  refine WL_nil (Fin_then (W_block (W_loopp [0, 2, 3, 16, 17] [] [] [] (T := Nat) (fun k => k ≤ V.length ∧ ∀ j, j < k → (fun i => fitsF G fd (idx V (i : Int)) (idx L (i : Int))) j = true) (fun k => [(18, true, A.int (k : Int))]) (fun k => { own := [], rooms := [], maps := [] }) (fun k => V.length - k) 0 ⟨Nat.zero_le _, allN_zero⟩ ⟨⟨rfl, _, rfl, (by first | exact Imp.refl | exact Imp.slv | exact Imp.nil | exact Imp.int (by omega) | exact Imp.int (by simp; done) | exact Imp.bool (by simp_all; done))⟩, trivial⟩ OSub.nil rfl rfl rfl (fun k hx => ?_))))
  have hk := hx.1
  have hj := hx.2
  refine W_seq (W_region (ws O_lss ⟨T1 rfl, T1 rfl, trivial⟩ ?_))
  refine WL_nil (Fin_then (W_seq (W_cond rfl (fun h1 => ?_) (fun h1 => ?_))))
  · skip
    try simp only [bl] at h1
    refine W_skip (Fin_then (W_seq (W_block (W_seq (W_region (WL_mv rfl rfl ?_))))))
    refine ws (O_index ts84 (by omega)) ⟨T1 rfl, T1 rfl, trivial⟩ ?_
    refine ws (O_loadgw tg35 rfl) ⟨T1 rfl, trivial⟩ ?_
    refine WL_alloc tz35 rfl fun b10 => ?_
    refine WL_as rfl rfl ?_
    refine WL_store 0 rfl ⟨T1 rfl, T1 rfl, trivial⟩ (CellsOf.agg (by exact ⟨OneV.int, OneV.int, trivial⟩)) sz35 (Nat.le_of_ble_eq_true rfl) ?_
    refine WL_nil (Fin_then (W_seq (W_draw 9 mix rfl rfl ?_)))
    refine cs O_move ⟨T1 rfl, trivial⟩ ?_
    refine cs (O_loadog 0 tg35 rfl (Nat.le_of_ble_eq_true rfl)) ⟨T1 rfl, trivial⟩ ?_
    refine cs O_move ⟨T1 rfl, trivial⟩ ?_
    refine cs O_move ⟨T1 rfl, trivial⟩ ?_
    refine cs (O_index ts50 (by omega)) ⟨T1 rfl, T1 rfl, trivial⟩ ?_
    refine cs (O_loadgw tg37 rfl) ⟨T1 rfl, trivial⟩ ?_
    refine cs O_move ⟨T1 rfl, trivial⟩ ?_
    refine cs (O_call cf48 (impl_fits _ hK _ _ fd _ _ hf (hV _ (idx_mem (by omega) (by omega))) hp) rfl) ⟨T1 rfl, T1 rfl, T1 rfl, T1 rfl, trivial⟩ ?_
    refine cs O_not ⟨T1 rfl, trivial⟩ ?_
    refine Chain_nil ?_
    refine WL_nil (Fin_then (W_cond rfl (fun h2 => ?_) (fun h2 => ?_)))
    · skip
      try simp only [bl] at h2
      refine W_seq (W_region (WL_ac rfl ?_))
      exact WL_nil (Fin_then (W_ret (Fin_block_ret (Fin_then_ret (Fin_then_ret (Fin_block_ret (Fin_then_ret (RetC rfl (Res1 rfl (RV.tmp rfl (Imp.bool (by rw [allN_false k (by omega) (by grind)]; simp))))))))))))
    try simp only [bl] at h2
    refine W_skip (Fin_block (Fin_then (W_region (ws (O_add (by omega)) ⟨T1 rfl, C1, trivial⟩ ?_))))
    refine WL_mv rfl rfl ?_
    exact WL_nil (Fin_backp [] (k + 1) ⟨by omega, allN_succ hj (by grind)⟩ (by omega) ⟨⟨rfl, _, rfl, (by first | exact Imp.refl | exact Imp.slv | exact Imp.nil | exact Imp.int (by omega) | exact Imp.int (by simp; done) | exact Imp.bool (by simp_all; done))⟩, trivial⟩ ⟨rfl, rfl, rfl, rfl, rfl, trivial⟩ OSub.nil rfl (List.Sublist.refl _) rfl)
  try simp only [bl] at h1
  refine W_exit (Fin_then_exit (Fin_then_exit (Fin_block_exit (Fin_then (W_seq (W_region (WL_ac rfl ?_)))))))
  exact WL_nil (Fin_then (W_ret (RetC rfl (Res1 rfl (RV.tmp rfl (Imp.bool (by rw [allN_true (fun j q => hj j (by omega))]; grind)))))))
set_option maxRecDepth 8000 in
theorem impl_find (G : Kin) (h : Hp) (S : List Int) (hn : S.Nodup) (hSi : ∀ s ∈ S, inI s) (n : Int) (hi : inI n) : FnC Try.prog 83 [hP G h S, A.int n] (A.tup [A.agg (cThing (hfd G.flatten h.words S n).1), A.bool (hfd G.flatten h.words S n).2]) := by
  refine Fn_of_W Try.func83 rfl rfl fun r w => ?_
  refine W_seq (W_region (WL_alloc tz86 rfl fun b4 => ?_))
  refine WL_ac rfl ?_
  refine WL_nil (Fin_then (W_seq (W_region (WL_mv rfl rfl ?_))))
  refine ws O_nilCheck ⟨T1 rfl, trivial⟩ ?_
  refine ws (O_field tf139_3) ⟨T1 rfl, trivial⟩ ?_
  refine ws (O_load ta137) ⟨T1 rfl, trivial⟩ ?_
  refine WL_mv rfl rfl ?_
  refine ws (OpN.post (O_lookupf mtThg hzThg (thE_ok hSi) (thE_nodup hn) (kokInt hi)) (thE_look hn n)) ⟨T1 rfl, T1 rfl, trivial⟩ ?_
  refine WL_mv rfl rfl ?_
  refine ws (O_extract rfl) ⟨T1 rfl, trivial⟩ ?_
  refine ws (O_extract rfl) ⟨T1 rfl, trivial⟩ ?_
  refine WL_alloc tz86 rfl fun b6 => ?_
  refine WL_store 0 rfl ⟨T1 rfl, T1 rfl, trivial⟩ (CellsOf.agg (by exact ⟨OneV.int, OneV.sl, trivial⟩)) sz86 (Nat.le_of_ble_eq_true rfl) ?_
  refine WL_as rfl rfl ?_
  refine WL_nil (Fin_then (W_seq (W_region (ws (O_loadog 0 tg86 rfl (Nat.le_of_ble_eq_true rfl)) ⟨T1 rfl, trivial⟩ ?_))))
  refine WL_mv rfl rfl ?_
  refine WL_store 1 rfl ⟨T1 rfl, T1 rfl, trivial⟩ (CellsOf.agg (by exact ⟨OneV.int, OneV.sl, trivial⟩)) sz86 (Nat.le_of_ble_eq_true rfl) ?_
  refine WL_as rfl rfl ?_
  exact WL_nil (Fin_then (W_ret (RetC rfl (Res2 rfl (RV.cellg 1 rfl tg86 rfl rfl (by first | exact Imp.refl | exact Imp.slv | exact Imp.nil | exact Imp.int (by omega) | exact Imp.int (by simp; done) | exact Imp.bool (by simp_all; done))) (RV.tmp rfl (by first | exact Imp.refl | exact Imp.slv | exact Imp.nil | exact Imp.int (by omega) | exact Imp.int (by simp; done) | exact Imp.bool (by simp_all; done)))))))
set_option maxRecDepth 8000 in
theorem impl_objects (G : Kin) (h : Hp) (S : List Int) : FnC Try.prog 132 [hP G h S] (A.cl 166 [A.pt [hP G h S]]) := by
  refine Fn_of_W Try.func132 rfl rfl fun r w => ?_
  refine W_seq (W_region (ws (O_box1 (by first | exact OneCell.int | exact OneCell.bool | exact OneCell.sl | exact OneCell.pt | exact OneCell.any1)) ⟨T1 rfl, trivial⟩ ?_))
  refine WL_ac rfl ?_
  refine WL_nil (Fin_then (W_seq (W_region (ws (O_makeFunc (caps := [_]) rfl) ⟨T1 rfl, trivial⟩ ?_))))
  refine WL_as rfl rfl ?_
  exact WL_nil (Fin_then (W_ret (RetC rfl (Res1 rfl (RV.tmp rfl (by first | exact Imp.refl | exact Imp.slv | exact Imp.nil | exact Imp.int (by omega) | exact Imp.int (by simp; done) | exact Imp.bool (by simp_all; done)))))))
set_option maxRecDepth 8000 in
theorem impl_hfields (G : Kin) (hK : KG G) (h : Hp) (S : List Int) (t : Thg) : FnC Try.prog 134 [hP G h S, A.agg (cThing t)] (A.sl 3 cFld (hfields G t.ty t.vals.length).1) := by
  refine Fn_of_W Try.func134 rfl rfl fun r w => ?_
  refine W_seq (W_region (ws O_boxg ⟨T1 rfl, trivial⟩ ?_))
  refine WL_ac rfl ?_
  refine WL_nil (Fin_then (W_seq (W_draw 15 mix rfl rfl ?_)))
  refine cs O_move ⟨T1 rfl, trivial⟩ ?_
  refine cs O_nilCheck ⟨T1 rfl, trivial⟩ ?_
  refine cs (O_field tf139_0) ⟨T1 rfl, trivial⟩ ?_
  refine cs (O_load ta88) ⟨T1 rfl, trivial⟩ ?_
  refine cs (O_field tf86_0) ⟨T1 rfl, trivial⟩ ?_
  refine cs (O_load ta3) ⟨T1 rfl, trivial⟩ ?_
  refine cs (O_field tf86_1) ⟨T1 rfl, trivial⟩ ?_
  refine cs (O_load ta84) ⟨T1 rfl, trivial⟩ ?_
  refine cs (O_len ts84) ⟨T1 rfl, trivial⟩ ?_
  refine cs (O_call cf163 (impl_fieldsOf _ (by assumption) _ _ (by omega)) rfl) ⟨T1 rfl, T1 rfl, T1 rfl, trivial⟩ ?_
  refine cs O_move ⟨T1 rfl, trivial⟩ ?_
  refine cs (O_extract rfl) ⟨T1 rfl, trivial⟩ ?_
  refine cs (O_extract rfl) ⟨T1 rfl, trivial⟩ ?_
  refine cs O_assign ⟨T1 rfl, trivial⟩ ?_
  refine cs O_assign ⟨T1 rfl, trivial⟩ ?_
  refine Chain_nil ?_
  refine WL_nil (Fin_then (W_seq (W_region (WL_mv rfl rfl ?_))))
  refine WL_as rfl rfl ?_
  exact WL_nil (Fin_then (W_ret (RetC rfl (Res1 rfl (RV.tmp rfl (by first | exact Imp.refl | exact Imp.slv | exact Imp.nil | exact Imp.int (by omega) | exact Imp.int (by simp; done) | exact Imp.bool (by simp_all; done)))))))
end Go.Proofs.Ytfjggobjijeniaa
