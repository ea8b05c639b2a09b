import Derived.Test.YtfjggobjijeniaaCal11
/-! Method values: a function with its first arguments. -/
namespace Go.L
open Go Go.RowKit
def A.mc (f : FuncId) (bs : List A) : A :=
  ⟨fun r v => ∃ vs : List Value, v = .func (.func f) vs.toArray #[] ∧ All2 r bs vs, fun h ⟨vs, e, k⟩ => ⟨vs, e, k.mono h⟩⟩
section
variable {P : Program} {own : OC} {ty : TypeId}
theorem O_makeBound {f : FuncId} {xs : List Operand} {bs : List A} (hl : xs.length = bs.length) :
    OpN P own ((xs.zip bs).map fun z => (true, z.1, z.2)) (.makeFunc (.func f) xs.toArray #[]) ty (A.mc f bs) := fun r w a hok _ hn => by
  have := all2_args hl hn
  simp only [exec, execOp, Sem.run_bind, Instr.makeFunc, Sem.run_pure, Result.andThen_ok]
  exact Good.here hok ⟨xs.map a.eval, by simp, this⟩
theorem O_callmc {f : FuncId} {g : Operand} {xs : List Operand} {ts bs : List A} {t : A} {tt : Array TypeId} (hf : CallF P f) (h : FnC P f (bs ++ ts) t) (hl : xs.length = ts.length) :
    OpN P own ((true, g, A.mc f bs) :: (xs.zip ts).map fun z => (true, z.1, z.2)) (.call { callee := .value g, args := xs.toArray, argTypes := tt }) ty t := fun r w a hok _ hn => by
  have ha := all2_args hl (fun z hz => hn z (List.mem_cons_of_mem _ hz))
  obtain ⟨vs, hg, hv⟩ := hn (true, g, A.mc f bs) (List.mem_cons_self ..) rfl
  have hg : a.eval g = .func (.func f) vs.toArray #[] := hg
  have hcall := h r w (vs ++ xs.map a.eval) hok (hv.append ha)
  simp only [exec, execOp, resolve, Sem.run_bind, Sem.run_pure, Result.andThen_ok, hg, Deferred.ofValue, invoke]
  simp only [List.map_toArray, List.append_toArray, Array.append_empty, hf w _]
  exact ⟨rfl, hcall⟩
theorem OneV.mc {f : FuncId} {bs : List A} : OneV (A.mc f bs) := fun _ _ ⟨_, h, _⟩ => by rw [h]; exact ⟨rfl, rfl⟩
end
end Go.L
