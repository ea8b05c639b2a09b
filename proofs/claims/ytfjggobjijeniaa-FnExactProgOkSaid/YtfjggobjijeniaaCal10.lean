import Derived.Test.YtfjggobjijeniaaDrawL
/-! A slice that is appended to becomes an owned one, in a function that is handed memory. -/
namespace Go.L
open Go Go.RowKit
section
variable {E : Env} {g : Ctx} {Q : Exit → Act → World → Prop} {l : List Oper} {ops : Array Oper}
/-- An owned block is given up. -/
theorem WL_drop (i : Nat) {y : Nat × TypeId × List A} (_hi : g.own[i]? = some y) (h : WL E ops l { g with own := g.own.eraseIdx i } Q) : WL E ops l g Q := by
  intro a w ⟨h1, h2, r, H⟩
  exact h a w ⟨h1, h2, r, H.reown (fun x hx => List.mem_of_mem_eraseIdx hx) (((List.eraseIdx_sublist _ _).map _).nodup H.nodup)⟩
end
theorem FnX_of_W' {P : Program} {f : FuncId} {fn : Func} {c : Code} {args : List A} {T : Type} {m : Mem} {t : T → A} {m' : T → Mem} (hf : P.funcs[f]? = some fn) (hb : fn.body = some c) (hn : Nat.ble args.length fn.ntmps = true)
    (h : ∀ r w, r.ok w → W (EX P fn.ntmps w r m.blk) c ⟨params 0 args, m.own, m.rooms, m.maps, [], [r]⟩ (bodyPostM (fz none) 9 P fn (RetX m r w t m'))) : FnX P f m args t m' := by
  intro r w vs hok hm ha
  exact Calls_of_W hf hb hn hok ha hm (fun _ h => h) (fun _ _ _ h => h.elim) (fun c hc => by rcases List.mem_singleton.1 hc with rfl; exact Rho.le_refl _) (h r w hok)
theorem flat_ints (L : List Int) : L.flatMap (fun n => [A.int n]) = L.map A.int := by
  induction L with
  | nil => rfl
  | cons n L ih => rw [List.flatMap_cons, ih]; rfl
end Go.L
