/- A range over a function whose iterator ends before its first round; the end of a function that holds such a statement. -/
import Derived.Test.YtnoolamgbmnmfaaProg
import Derived.Test.YtnoolamgbmnmfaaBase
import Derived.RangeFuncLeaves
import Derived.RangeFuncRecord
import Derived.Shelf.Abstract
namespace Go.Proofs.Ytnoolamgbmnmfaa
open Go Go.RowKit

theorem calls_of_marks {P : Program} {f : FuncId} {fn : Func} {c : Code} {args : Array Value} {w : World} {R : Ending → World → Prop}
    (hf : P.funcs[f]? = some fn) (hb : fn.body = some c)
    (h : c.wp P (bodyPostM Fence.wide 0 P fn R) { tmps := args ++ Array.replicate (fn.ntmps - args.size) undef, defers := [] } w) : Calls P f args w R :=
  callsIn_wide.1 (callsIn_of_wp_marks (F := Fence.wide) (n := 0) hf hb trivial (wpIn_wide.2 h))

theorem postM_ret0 {P : Program} {fn : Func} {R : Ending → World → Prop} {a : Act} {w : World} {v : Value}
    (hr : (results fn a.tmps).run P w = .ok v w) (hd : a.defers = []) (hR : R (.returned v) w) : bodyPostM Fence.wide 0 P fn R .ret a w := by
  simp only [bodyPostM, hd, LeavesInM, LeavesIn]
  exact ⟨v, hr, hR⟩
theorem postM_ret1 {P : Program} {fn : Func} {R : Ending → World → Prop} {a : Act} {w : World} {v : Value} {D : Nat}
    (hd : a.defers = [{ target := .collected D, args := #[] }]) (hk : w.heap[D]? = some (.deferred (some [])))
    (hr : (results fn a.tmps).run P (w.putObj D (.deferred none)) = .ok v (w.putObj D (.deferred none))) (hR : R (.returned v) (w.putObj D (.deferred none))) : bodyPostM Fence.wide 0 P fn R .ret a w := by
  simp only [bodyPostM, hd, LeavesInM, LeavesIn]
  exact ⟨by simp, .inl ⟨D, _, rfl, run_takeDeferred hk, v, hr, hR⟩⟩
theorem postM_end1 {P : Program} {fn : Func} {R : Ending → World → Prop} {a : Act} {w : World} {v : Value} {D : Nat}
    (hd : a.defers = [{ target := .collected D, args := #[] }]) (hk : w.heap[D]? = some (.deferred (some [])))
    (hr : (results fn a.tmps).run P (w.putObj D (.deferred none)) = .ok v (w.putObj D (.deferred none))) (hR : R (.returned v) (w.putObj D (.deferred none))) : bodyPostM Fence.wide 0 P fn R .normal a w := by
  simp only [bodyPostM, hd, LeavesInM, LeavesIn]
  exact ⟨by simp, .inl ⟨D, _, rfl, run_takeDeferred hk, v, hr, hR⟩⟩

theorem Mod.putObj {F : Nat → Prop} {w w1 : World} (h : Mod F w w1) {D : Nat} (hD : F D ∨ w.heap.size ≤ D) (o : Obj) : Mod F w (w1.putObj D o) :=
  h.trans (G := fun k => k = D) ⟨rfl, rfl, rfl, by simp, fun k _ hk => World.putObj_heap_other (fun e => hk e)⟩
    (fun b e hb => by subst e; rcases hD with hp | hp; exact hp; omega)

/-- no round at all -/
theorem wp_rangeFunc_zero {P : Program} {g : Operand} {ps : Array Tmp} {assign body : Code} {Q : Exit → Act → World → Prop} {a : Act} {w : World}
    {gf : Nat} {lb : Array Value} (hg : a.eval g = .func (.func gf) #[] lb) (eg : Enters P gf)
    (h : ∀ y w1, Mod None' w w1 → w.heap.size + 1 < w1.heap.size → ∃ R', Calls P gf (#[y] ++ lb) w1 R' ∧ ∀ e w2, R' e w2 → (∃ v, e = .returned v) ∧ Mod None' w1 w2 ∧
      ∀ D w3, Mod None' w w3 → w.heap.size ≤ D → w3.heap[D]? = some (.deferred (some [])) → Q .normal { a with defers := { target := .collected D, args := #[] } :: a.defers } w3) :
    (Code.rangeFunc g ps assign body).wp P Q a w := by
  refine (wpIn_wide (n := 0)).1 (wpIn_rangeFunc ?_)
  intro fn hfn
  obtain ⟨rec, hrec⟩ : ∃ rec : LoopState → Option Code → Loop, rec = fun st pe => { state := st, pending := pe, fn, tmps := a.tmps, params := ps, assign, body, defers := w.heap.size } := ⟨_, rfl⟩
  obtain ⟨W1, hW1⟩ : ∃ W1, (w.alloc (.deferred (some []))).alloc (.loop (rec .ready none)) = W1 := ⟨_, rfl⟩
  have hL1 : W1.heap[w.heap.size + 1]? = some (.loop (rec .ready none)) := by
    rw [← hW1]; have := World.alloc_heap_new (w.alloc (.deferred (some []))) (.loop (rec .ready none)); rwa [World.size_alloc] at this
  have hK1 : W1.heap[w.heap.size]? = some (.deferred (some [])) := by
    rw [← hW1]; exact (Below.heap_alloc _ _ _ (by simp)).trans (World.alloc_heap_new w _)
  have hM1 : Mod None' w W1 := by rw [← hW1]; exact ((Mod.refl _ w).alloc _).alloc _
  have hS1 : w.heap.size + 1 < W1.heap.size := by rw [← hW1]; simp
  obtain ⟨R', hc, hR⟩ := h (.func (.yield (w.heap.size + 1)) #[] #[]) W1 hM1 hS1
  refine ⟨w.heap.size + 1, [{ target := .collected w.heap.size, args := #[] }], W1, { target := .fn (.func gf) lb, args := #[.func (.yield (w.heap.size + 1)) #[] #[]] }, W1, gf,
    #[.func (.yield (w.heap.size + 1)) #[] #[]] ++ lb, W1, ?_, ?_, ?_, ?_, ?_, ?_⟩
  · rw [← hW1, hrec]; exact run_enterLoop_outer _ _ _ _ _
  · simp only [resolve, hg]
    simp [go_sem]
  · intro f' _; trivial
  · simp [invoke, go_sem, eg _ _]
  · simp [Fence.wide]
  · refine callsIn_wide.2 (hc.mono ?_)
    intro e w2 he
    obtain ⟨⟨v, rfl⟩, hm2, hQ⟩ := hR e w2 he
    have hl2 : w2.heap[w.heap.size + 1]? = some (.loop (rec .ready none)) := (hm2.block _ hS1 fun f => f).trans hL1
    have hk2 : w2.heap[w.heap.size]? = some (.deferred (some [])) := (hm2.block _ (by omega) fun f => f).trans hK1
    refine ⟨none, _, (run_endLoop hl2 (by rw [hrec]; simp)).trans (by rw [hrec]), ?_⟩
    exact hQ w.heap.size _ (Mod.putObj (hM1.then hm2) (.inr (by omega)) _) (Nat.le_refl _) (by rw [World.putObj_heap_other (by omega)]; exact hk2)
end Go.Proofs.Ytnoolamgbmnmfaa
