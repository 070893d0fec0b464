/- A connection begins with Set: the walk of the law. -/
import Derived.Test.YtnoolamgbmnmfaaFeeds
import Derived.Laws.CopyOwn
namespace Go.Proofs.Ytnoolamgbmnmfaa
open Go Go.RowKit
set_option maxRecDepth 100000

theorem run_convert_bytes_row {P : Program} (w : World) (src dst e : TypeId) (hs : P.underlying src = some (.slice e)) (he : P.underlying e = some (.int .u8)) (hd : P.underlying dst = some .string) (v : Value) (n : Nat) (l : List UInt8)
    (hv : Row w v n 1 (l.map bv)) : (convert src dst v).run P w = .ok (.string ⟨l.toArray⟩) w := by
  obtain ⟨h0, A, c, rfl, hc, hcm, h4⟩ := hv
  have hn : n = l.length := by simpa using h0.symm
  subst hn
  rcases l with _ | ⟨b, l⟩
  · rw [run_convert_bytes_string w src dst e A _ c hs he hd]
    cases A <;> simp [Conv.bytesToString, loadCells, loadCellsFrom] <;> rfl
  · obtain ⟨g, o, rfl, hcell⟩ := h4 (by simp)
    rw [run_convert_bytes_arg w src e hs he g o _ c ((b :: l).map fun x => (x.toNat : Int)) (by simp) ?_ dst hd]
    · congr 2
      simp only [strOfNums]
      congr 2
      have e : ((fun n : Int => UInt8.ofNat n.toNat) ∘ fun x : UInt8 => (x.toNat : Int)) = id := by funext x; simp
      rw [List.map_map, e, List.map_id]
    · intro i hi
      rw [hcell i _ (List.getElem?_eq_getElem (by simpa using hi))]
      rw [List.getD_eq_getElem?_getD, List.getElem?_map, List.getElem?_eq_getElem hi]
      simp only [List.getElem_map]
      rfl

theorem wpList_copy_row {P : Program} {w : World} {ops : Array Oper} {rest : List Oper} {o : Oper} {a : Act} {Q : Exit → Act → World → Prop} (hgd : o.guard = none) (d s : Operand) (dT sT : TypeId)
    (ho : o.op = .call { callee := .builtin .copy, args := #[d, s], argTypes := #[dT, sT] }) (elem : TypeId) (hu : P.underlying dT = some (.slice elem)) (hsz : (P.info? elem).map (·.size) = some 1)
    (g dLen dCap : Nat) (hd : a.eval d = .slice (some ⟨g, 0, none⟩) dLen dCap) (cur : List Value) (t : TypeId) (hg : Blk w g t cur.toArray) (hcur : cur.length = dLen)
    (y : Value) (n : Nat) (xs : List Value) (hy : a.eval s = y) (hr : Row w y n 1 xs) (h1 : ∀ v ∈ xs, v.oneCell' = true)
    (h : ∀ w' (r : Int), Blk w' g t (xs.take dLen ++ cur.drop (min n dLen)).toArray → Mod (fun k => k = g) w w' → wpList P ops Q rest (a.put o.dst (goInt r)) w') :
    wpList P ops Q (o :: rest) a w := by
  obtain ⟨h0, A, c, rfl, hc, hcm, h4⟩ := hr
  simp only [Nat.mul_one] at h0
  have hlen : (xs.take dLen).length = min n dLen := by simp [h0, Nat.min_comm]
  by_cases hz : (xs.take dLen).length = 0
  · have hnil : xs.take dLen = [] := List.eq_nil_of_length_eq_zero hz
    have hm : min n dLen = 0 := by omega
    refine wpList_copy_nothing hgd d s dT sT ho elem hu hsz _ A dLen dCap n c hd hy hm ?_
    exact h w _ (by rw [hnil, hm]; simpa using hg) (Mod.refl _ _)
  · obtain ⟨g', o', rfl, hcell⟩ := h4 (by omega)
    refine wpList_copy_own hgd d s dT sT ho elem hu hsz g 0 dLen dCap ⟨g', o', none⟩ n c hd hy cur.toArray t hg (xs.take dLen) hlen ?_ (by simp only [Nat.zero_add, List.size_toArray]; omega) (fun v hv => h1 v (List.mem_of_mem_take hv)) ?_
    · intro j v hv
      rw [add_mk]
      rw [List.getElem?_take] at hv
      split at hv
      · exact hcell j v hv
      · cases hv
    · have := fun r => h (w.setRow g (xs.take dLen ++ cur.drop (min n dLen)).toArray) r (setRow_heap w g _ _ t _ hg) ⟨rfl, rfl, rfl, by simp, fun k _ hk => setRow_other w g k _ hk⟩
      rw [hlen]
      simpa using this _

theorem own_cells {w : World} {e k n c : Nat} {F : Option Addr} {xs : List Value} (h : w.ownsRow 0 e k (.slice F n c) n xs) (hn : 0 < n) : ∃ g, F = some ⟨g, 0, none⟩ ∧ ∀ j u, xs[j]? = some u → w.cell? ⟨g, j, none⟩ = some u := by
  obtain ⟨_, A, c', he, _, _, hc⟩ := Row.of_own h
  obtain ⟨g, o, rfl, hcell⟩ := hc hn
  rcases h.2 with ⟨h1, h2⟩ | ⟨g', cap, cur, h1, _⟩
  · omega
  · injection h1 with h1
    injection he with he
    rw [h1] at he
    injection he with he
    injection he with e1 e2
    subst e1 e2
    exact ⟨g', h1, fun j u hu => by have := hcell j u hu; rwa [Nat.zero_add] at this⟩

theorem CI.keep {w w' : World} {cb : Nat} {c0 c1 c2 iv ov ev : Value} {lo : List UInt8} {b : Bool} {F : Nat → Prop} (h : CI w cb c0 c1 c2 iv ov ev lo b) (hm : Mod F w w') (hF : ∀ g, fp cb iv ov g → ¬ F g) : CI w' cb c0 c1 c2 iv ov ev lo b :=
  ⟨h.blk.mod hm (hF cb (.inl rfl)), own_keep h.inn hm (fun g hg => hF g (.inr (.inl hg))), own_keep h.out hm (fun g hg => hF g (.inr (.inr hg))), h.ne⟩
end Go.Proofs.Ytnoolamgbmnmfaa
