import Derived.Test.YtfjggobjijeniaaWalk3
import Derived.Test.YtfjggobjijeniaaPure7
/-! The table of the forms of instructions. -/
namespace Go.L
open Go
def hasTab : List (List Opd) := [[], [⟨9973, false⟩], [⟨6, false⟩], [⟨6, false⟩], [⟨3, false⟩], [⟨3, false⟩], [], [], [], [], [], [], [⟨8, true⟩], [⟨8, false⟩], [⟨8, false⟩, ⟨4, false⟩], [⟨8, false⟩, ⟨4, false⟩],
  [⟨8, false⟩], [⟨8, false⟩], [⟨8, false⟩], [⟨8, false⟩], [], [], [⟨8, true⟩], [⟨8, true⟩], [], [⟨30, false⟩], [⟨30, false⟩], [⟨5, false⟩], [⟨5, false⟩], [], [], [], [], [⟨2, false⟩]]
def wordTab : List ByteArray := [⟨#[]⟩, ⟨#[110, 117, 109]⟩, ⟨#[103, 101, 116]⟩, ⟨#[115, 101, 116]⟩, ⟨#[116, 97, 107, 101]⟩, ⟨#[107, 101, 101, 112]⟩, ⟨#[100, 114, 111, 112]⟩, ⟨#[97, 100, 100]⟩, ⟨#[109, 117, 108]⟩, ⟨#[108, 101, 115, 115]⟩, ⟨#[99, 104, 105, 112]⟩, ⟨#[98, 97, 99, 107]⟩,
  ⟨#[110, 117, 108, 108]⟩, ⟨#[110, 101, 119]⟩, ⟨#[108, 111, 111, 107]⟩, ⟨#[112, 117, 116]⟩, ⟨#[114, 111, 119]⟩, ⟨#[97, 116]⟩, ⟨#[108, 97, 121]⟩, ⟨#[108, 101, 110]⟩, ⟨#[115, 97, 109, 101]⟩, ⟨#[110, 111, 110, 101]⟩, ⟨#[116, 101, 115, 116]⟩, ⟨#[99, 97, 115, 116]⟩, ⟨#[115, 117, 114, 101]⟩,
  ⟨#[106, 117, 109, 112]⟩, ⟨#[105, 102]⟩, ⟨#[99, 97, 108, 108]⟩, ⟨#[112, 97, 115, 115]⟩, ⟨#[114, 101, 116]⟩, ⟨#[115, 97, 121]⟩, ⟨#[115, 104, 111, 119]⟩, ⟨#[97, 115, 107]⟩, ⟨#[115, 119, 101, 101, 112]⟩]
structure Frm where
  word : ByteArray
  has : List Opd
def cForm (f : Frm) : List A := [A.str f.word, A.sl 2 cOpd f.has]
def formTab : List Frm := List.zipWith Frm.mk wordTab hasTab
def formsC : List A := formTab.flatMap cForm
theorem hasTab_eq : ∀ k : _root_.Fin 34, hasTab[k.1]? = some (hasL (k.1 : Int)) := by decide
theorem formTab_at (k : Nat) (h : k < 34) : ∃ f, formTab[k]? = some f ∧ f.has = hasL (k : Int) := by
  have := hasTab_eq ⟨k, h⟩
  have hw : k < wordTab.length := h
  have hh : k < hasTab.length := h
  refine ⟨⟨wordTab[k], hasTab[k]⟩, ?_, ?_⟩
  · unfold formTab; rw [List.getElem?_zipWith, List.getElem?_eq_getElem hw, List.getElem?_eq_getElem hh]; rfl
  · rw [List.getElem?_eq_getElem hh] at this; exact Option.some.inj this
theorem forms_has {n : Int} (h0 : 0 ≤ n) (h : n < 34) : ((formsC.drop (n.toNat * 2)).take 2)[1]? = some (A.sl 2 cOpd (hasL n)) := by
  obtain ⟨f, hf, hh⟩ := formTab_at n.toNat (by omega)
  rw [List.getElem?_take, if_pos (by omega), List.getElem?_drop, show n.toNat * 2 + 1 = n.toNat * 2 + 1 from rfl]
  unfold formsC
  rw [flat_get (k := 2) (fun _ => rfl) hf (by omega)]
  show some (A.sl 2 cOpd f.has) = _
  rw [hh, show ((n.toNat : Nat) : Int) = n from by omega]
theorem hasL_len (n : Int) : (hasL n).length ≤ 2 := by unfold hasL; split <;> simp; split <;> simp
end Go.L
namespace Go.L
open Go
theorem sortsOk_any (L : List Fld) (n : Int) (bare : Bool) : sortsOk L n bare = !(L.any fun f => !(sortOk f n) || (bare && decide (f.kind = 3))) := by
  unfold sortsOk
  rw [List.not_any_eq_all_not]
  congr 1; funext f; cases sortOk f n <;> cases bare <;> simp
theorem all_any {T : Type} (L : List T) (p : T → Bool) : L.all p = !(L.any fun y => !(p y)) := by
  rw [List.not_any_eq_all_not]; congr 1; funext f; simp
theorem kOpt_imp {ok : Bool} {L : List Row} {c : List Int} (h : ok = true) : Imp (kOpt ok L c) (kP L c) := by
  unfold kOpt; rw [if_pos h]; exact Imp.refl
theorem OneV.kOpt {ok : Bool} {L : List Row} {c : List Int} : OneV (kOpt ok L c) := by
  unfold Go.L.kOpt; split
  · exact OneV.pt
  · exact OneV.ptr
theorem funOk_eq (f : Fnc) (n : Int) : funOk f n = (decide (f.takes.length ≤ 3) && sortsOk f.takes n false && (decide (f.own.length ≤ 3) && sortsOk f.own n true) && sortOk f.gives n && (decide (1 ≤ f.body.length) && decide (f.body.length ≤ 30) && f.body.all insOk)) := by
  unfold funOk; grind
end Go.L
namespace Go.L
open Go
def cFlds (L : List Fld) : List A := [A.sl 3 cFld L]
def cInts (L : List Int) : List A := [A.sl 1 cInt L]
theorem flat_take_step {T : Type} (L : List (List T)) (k : Nat) (h : k < L.length) : (L.take (k + 1)).flatten.length = (L.take k).flatten.length + (idx L (k : Int)).length := by
  rw [take_snoc h, List.flatten_append]; simp
theorem flat_take_le {T : Type} (L : List (List T)) (k : Nat) : (L.take k).flatten.length ≤ L.flatten.length := by
  conv => rhs; rw [← List.take_append_drop k L, List.flatten_append, List.length_append]
  omega
end Go.L
