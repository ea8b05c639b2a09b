import Derived.Test.YtfjggobjijeniaaPure6
/-! Instructions, functions, programs, in plain terms. -/
namespace Go.L
open Go
structure Isn where
  op : Int
  a : Int
  b : Int
deriving Inhabited, DecidableEq
structure Fnc where
  takes : List Fld
  gives : Fld
  own : List Fld
  body : List Isn
deriving Inhabited, DecidableEq
structure Prg where
  types : Kin
  glob : List Fld
  funs : List Fnc
deriving Inhabited, DecidableEq
theorem Isn.eqs {f g : Isn} : f = g ↔ f.op = g.op ∧ f.a = g.a ∧ f.b = g.b := by cases f; cases g; simp
theorem Fnc.eqs {f g : Fnc} : f = g ↔ f.takes = g.takes ∧ f.gives = g.gives ∧ f.own = g.own ∧ f.body = g.body := by cases f; cases g; simp
theorem Prg.eqs {f g : Prg} : f = g ↔ f.types = g.types ∧ f.glob = g.glob ∧ f.funs = g.funs := by cases f; cases g; simp
def cIns (i : Isn) : List A := [A.int i.op, A.int i.a, A.int i.b]
def cFun (f : Fnc) : List A := [A.sl 3 cFld f.takes, A.int f.gives.kind, A.int f.gives.of, A.bool f.gives.mu, A.sl 3 cFld f.own, A.sl 3 cIns f.body]
def cProg (p : Prg) : List A := [A.sl 1 cGrp p.types, A.sl 3 cFld p.glob, A.sl 6 cFun p.funs]
def bFun (f : Fnc) : Nat := f.takes.length + f.own.length + f.body.length
def bFuns (L : List Fnc) : Nat := bulkL bFun L
def bProg (p : Prg) : Nat := bKin p.types + p.glob.length + bFuns p.funs
structure Opd where
  lim : Int
  of : Bool
deriving Inhabited, DecidableEq
def cOpd (o : Opd) : List A := [A.int o.lim, A.bool o.of]
def insHas (op : Int) : Int :=
  if op = 14 ∨ op = 15 then 2
  else if op = 1 ∨ op = 2 ∨ op = 3 ∨ op = 4 ∨ op = 5 ∨ op = 12 ∨ op = 13 ∨ op = 16 ∨ op = 17 ∨ op = 18 ∨ op = 19 ∨ op = 22 ∨ op = 23 ∨ op = 25 ∨ op = 26 ∨ op = 27 ∨ op = 28 ∨ op = 33 then 1 else 0
def insMost (op : Int) : Int :=
  if op = 1 then 9973 else if op = 2 ∨ op = 3 then 6 else if op = 4 ∨ op = 5 then 3 else if op = 25 ∨ op = 26 then 30 else if op = 27 ∨ op = 28 then 5 else if op = 33 then 2 else 8
def insIsOf (op : Int) : Bool := decide (op = 12) || decide (op = 22) || decide (op = 23)
def insOk (i : Isn) : Bool :=
  if i.op < 1 ∨ 33 < i.op then false
  else if (insHas i.op < 2 ∧ i.b ≠ 0) ∨ (insHas i.op = 2 ∧ (i.b < 0 ∨ 4 ≤ i.b)) then false
  else if insHas i.op = 0 then decide (i.a = 0)
  else if insIsOf i.op = true then decide (-2 ≤ i.a) && decide (i.a < 8)
  else decide (0 ≤ i.a) && decide (i.a < insMost i.op)
def hasL (op : Int) : List Opd :=
  if insHas op = 0 then [] else (if insIsOf op = true then ⟨8, true⟩ else ⟨insMost op, false⟩) :: (if insHas op = 2 then [⟨4, false⟩] else [])
def opdOk (o : Opd) (n : Int) : Bool := decide ((if o.of = true then -2 else 0) ≤ n) && decide (n < o.lim)
/-- One operand: in the form, or absent and 0. -/
def opndOk (op : Int) (k : Nat) (n : Int) : Bool := if k < (hasL op).length then opdOk (idx (hasL op) (k : Int)) n else decide (n = 0)
def insOkI (i : Isn) : Bool := decide (1 ≤ i.op) && decide (i.op ≤ 33) && (opndOk i.op 0 i.a && opndOk i.op 1 i.b)
theorem insHas_cases (op : Int) : insHas op = 0 ∨ insHas op = 1 ∨ insHas op = 2 := by unfold insHas; grind
theorem insOk_eq (i : Isn) : insOkI i = insOk i := by
  obtain ⟨op, a, b⟩ := i
  unfold insOkI insOk
  by_cases h : op < 1 ∨ 33 < op
  · simp only [h, if_true]; grind
  · have h1 : 1 ≤ op := by omega
    have h2 : op ≤ 33 := by omega
    simp only [h, if_false, h1, h2, decide_true, Bool.true_and]
    unfold opndOk hasL
    rcases insHas_cases op with q | q | q
    · simp [q]; grind
    · have e0 : insHas op ≠ 0 := by omega
      simp only [q, if_false, show ¬ ((1 : Int) = 0) from by decide, show ¬ ((1 : Int) = 2) from by decide, List.length_cons, List.length_nil]
      by_cases hf : insIsOf op = true <;> simp [hf, idx, opdOk] <;> grind
    · simp only [q, if_false, show ¬ ((2 : Int) = 0) from by decide, if_true, List.length_cons, List.length_nil]
      have hof : insIsOf op = false := by unfold insHas at q; unfold insIsOf; grind
      simp [hof, idx, opdOk]; grind
def sortOk (f : Fld) (n : Int) : Bool := !f.mu && fieldOk f n
def sortsOk (L : List Fld) (n : Int) (bare : Bool) : Bool := L.all fun f => sortOk f n && !(bare && decide (f.kind = 3))
def funOk (f : Fnc) (n : Int) : Bool :=
  decide (f.takes.length ≤ 3) && decide (f.own.length ≤ 3) && decide (f.body.length ≠ 0) && decide (f.body.length ≤ 30) && sortsOk f.takes n false && sortsOk f.own n true && sortOk f.gives n && f.body.all insOk
def progOk (p : Prg) : Bool :=
  kinOk p.types && decide (p.glob.length ≤ 3) && sortsOk p.glob (kcnt p.types) true && decide (p.funs.length ≠ 0) && decide (p.funs.length ≤ 5) && p.funs.all fun f => funOk f (kcnt p.types)
end Go.L
