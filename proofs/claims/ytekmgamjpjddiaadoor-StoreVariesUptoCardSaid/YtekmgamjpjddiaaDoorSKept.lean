/- What a store keeps: a kept reply's ten cells; the search among them. -/
import Derived.Test.YtekmgamjpjddiaaDoorSFit
import Derived.RangeFuncLeaves
namespace Go.Proofs.YtekmgamjpjddiaaDoor
open Go Go.RowKit
set_option maxRecDepth 100000

/-- A kept reply: what it says, and the slice values that hold it. -/
structure KV where
  m : ByteArray
  p : ByteArray
  o : ByteArray
  fs : Fs
  code : Int
  rfs : Fs
  body : List UInt8
  vary : List ByteArray
  at_ : Int
  f : Value
  rf : Value
  rb : Value
  v : Value
def KV.cells (x : KV) : List Value := [.string x.m, .string x.p, .string x.o, x.f, .slice none 0 0, .int .i64 x.code, x.rf, x.rb, x.v, .int .i64 x.at_]
abbrev KV.agg (x : KV) : Value := .agg #[.string x.m, .string x.p, .string x.o, x.f, .slice none 0 0, .int .i64 x.code, x.rf, x.rb, x.v, .int .i64 x.at_]
def kcells (l : List KV) : List Value := l.flatMap KV.cells
theorem KV.cells_length (x : KV) : x.cells.length = 10 := rfl
theorem kcells_length (l : List KV) : (kcells l).length = l.length * 10 := by
  induction l with
  | nil => rfl
  | cons x l ih => simp only [kcells, List.flatMap_cons, List.length_append, List.length_cons, KV.cells_length] at ih ⊢; omega
theorem kcells_append (a b : List KV) : kcells (a ++ b) = kcells a ++ kcells b := by simp [kcells]
theorem kcells_cons (x : KV) (b : List KV) : kcells (x :: b) = x.cells ++ kcells b := by simp [kcells]
theorem kcells_get (l : List KV) (i : Nat) (h : i < l.length) (j : Nat) (hj : j < 10) : (kcells l)[i * 10 + j]? = l[i].cells[j]? := by
  induction l generalizing i with
  | nil => simp at h
  | cons x l ih =>
    rw [kcells_cons]
    cases i with
    | zero => rw [List.getElem?_append_left (by rw [KV.cells_length]; omega)]; simp
    | succ i =>
      rw [List.getElem?_append_right (by rw [KV.cells_length]; omega), KV.cells_length]
      have := ih i (by simpa using h)
      rw [show (i + 1) * 10 + j - 10 = i * 10 + j by omega, this]
      simp
/-- what is kept is well kept -/
structure KOk (w : World) (x : KV) : Prop where
  f : Own w 31 2 x.f x.fs.length (fcells x.fs)
  rf : Own w 31 2 x.rf x.rfs.length (fcells x.rfs)
  rb : Own w 5 1 x.rb x.body.length (x.body.map bv)
  v : Own w 9 1 x.v x.vary.length (x.vary.map .string)
  sf : Small x.fs
  srf : Small x.rfs
  sb : x.body.length ≤ 1048576
  sv : x.vary.length ≤ 1048577
  t0 : 0 ≤ x.at_
  t1 : x.at_ ≤ 1000000
theorem Own.blk_ne {w : World} {e t : TypeId} {size n g : Nat} {v : Value} {xs : List Value} {cs : Array Value} (h : Own w e size v n xs) (hg : Blk w g t cs) (hne : e ≠ t) : ∀ k, v.ownBlock = some k → k ≠ g := by
  rcases h.2 with ⟨rfl, _⟩ | ⟨g', o, cap, cur, rfl, hh, _⟩
  · intro k hk; simp [Value.ownBlock] at hk
  · intro k hk
    simp only [Value.ownBlock, Option.some.injEq] at hk
    subst hk
    exact Blk.ne_ (t := e) hh hg hne
theorem KOk.mod {F : Nat → Prop} {w w' : World} {x : KV} (h : KOk w x) (hm : Mod F w w') (hF : ∀ g, F g → ∃ t cs, Blk w g t cs ∧ t ≠ 31 ∧ t ≠ 5 ∧ t ≠ 9) : KOk w' x := by
  have key : ∀ {e : TypeId} {k n : Nat} {v : Value} {xs : List Value}, Own w e k v n xs → (∀ t, t ≠ 31 ∧ t ≠ 5 ∧ t ≠ 9 → e ≠ t) → Own w' e k v n xs := fun ho he =>
    ho.mod hm fun g hg hFg => by
      obtain ⟨t, cs, hb, ht⟩ := hF g hFg
      exact ho.blk_ne hb (he t ht) g hg rfl
  exact ⟨key h.f fun t ht => ht.1.symm, key h.rf fun t ht => ht.1.symm, key h.rb fun t ht => ht.2.1.symm, key h.v fun t ht => ht.2.2.symm, h.sf, h.srf, h.sb, h.sv, h.t0, h.t1⟩
theorem KOk.old {w w' : World} {x : KV} (h : KOk w x) (hm : Mod None' w w') : KOk w' x := h.mod hm fun _ f => f.elim
/-- what a row of kept replies says of its cells -/
theorem Row.kept {w : World} {v : Value} {n : Nat} {l : List KV} (h : Row w v n 10 (kcells l)) (h0 : 0 < l.length) :
    n = l.length ∧ ∃ g o c, v = .slice (some ⟨g, o, none⟩) l.length c ∧ l.length ≤ c ∧ c ≤ maxLen ∧ ∀ i (hi : i < l.length) j, j < 10 → w.cell? ⟨g, o + i * 10 + j, none⟩ = l[i].cells[j]? := by
  obtain ⟨hl, A, c, rfl, hc, hm, h4⟩ := h
  rw [kcells_length] at hl
  obtain rfl : n = l.length := by omega
  obtain ⟨g, o, rfl, hcell⟩ := h4 h0
  refine ⟨rfl, g, o, c, rfl, hc, hm, fun i hi j hj => ?_⟩
  have h1 := kcells_get l i hi j hj
  have h2 : l[i].cells[j]? = some (l[i].cells[j]'(by rw [KV.cells_length]; exact hj)) := List.getElem?_eq_getElem _
  rw [h2] at h1 ⊢
  have := hcell _ _ h1
  rwa [show o + (i * 10 + j) = o + i * 10 + j by omega] at this

theorem indexKept_spec (p : KV → Bool) (F : Nat) (cap : Value) (xs : List KV) (v : Value) (w : World) (R : Ending → World → Prop) (hv : Row w v xs.length 10 (kcells xs)) (hl : xs.length ≤ 2147483648)
    (hE : Enters Tryd.prog F) (hp : ∀ w' x R', Mod None' w w' → x ∈ xs → (∀ w'', Mod None' w' w'' → R' (.returned (.bool (p x))) w'') → Calls Tryd.prog F #[x.agg, cap] w' R')
    (h : ∀ w' (i : Int), Mod None' w w' → Hid ((i = -1 ∧ ∀ x ∈ xs, p x = false) ∨ ∃ k : Nat, ∃ hk : k < xs.length, i = k ∧ p xs[k] = true ∧ ∀ j (hj : j < xs.length), j < k → p xs[j] = false) → R (.returned (.int .i64 i)) w') :
    Calls Tryd.prog 36 #[v, .func (.func F) #[] #[cap]] w R := by
  obtain ⟨A, c, rfl, hc, hcm⟩ := hv.form
  unfold maxLen at hcm
  go_enter Tryd.func36, Tryd.ntmps36
  go_wp2_with (fail)
  go_loopw [8] (fun i wr => ∃ k : Nat, k ≤ xs.length ∧ i = .int .i64 k ∧ Mod None' w wr ∧ Hid (∀ j (hj : j < xs.length), j < k → p xs[j] = false)) (fun i _ => xs.length - (intOf i).toNat)
  case atStart => exact ⟨0, Nat.zero_le _, rfl, Mod.refl _ _, fun _ _ h => by omega⟩
  case round =>
    obtain ⟨k, hk, rfl, hM, hH⟩ := hrel
    by_cases hlt : k < xs.length
    · obtain ⟨g, o, hA, hcell⟩ : ∃ g o, A = some ⟨g, o, none⟩ ∧ ∀ i (hi : i < xs.length) j, j < 10 → w.cell? ⟨g, o + i * 10 + j, none⟩ = xs[i].cells[j]? := by
        obtain ⟨_, g, o, c', hs, _, _, hcell⟩ := hv.kept (by omega)
        injection hs with hA
        exact ⟨g, o, hA, hcell⟩
      subst hA
      have hcc : ∀ j u, j < 10 → xs[k].cells[j]? = some u → wr.cell? ⟨g, o + k * 10 + j, none⟩ = some u := fun j u hj hu => by
        have := (hcell k hlt j hj).trans hu
        exact (hM.none_cell _ _ (cell_lt this)).trans this
      have c0 := hcc 0 _ (by omega) rfl
      have c1 := hcc 1 _ (by omega) rfl
      have c2 := hcc 2 _ (by omega) rfl
      have c3 := hcc 3 _ (by omega) rfl
      have c4 := hcc 4 _ (by omega) rfl
      have c5 := hcc 5 _ (by omega) rfl
      have c6 := hcc 6 _ (by omega) rfl
      have c7 := hcc 7 _ (by omega) rfl
      have c8 := hcc 8 _ (by omega) rfl
      have c9 := hcc 9 _ (by omega) rfl
      rw [Nat.add_zero] at c0
      have hmem : xs[k] ∈ xs := List.getElem_mem hlt
      clear hcell hv hcc
      have hE' : ∀ args w, (callFunc F args).run Tryd.prog w = .ok (.enter F args) w := hE
      go_wp2_with (refine hp _ xs[k] _ hM hmem ?_; intro w2 m2)
      · have hx : p xs[k] = true := by assumption
        exact h _ _ (hM.then m2) (Or.inr ⟨k, hlt, rfl, hx, hH⟩)
      · have hx : p xs[k] = false := by assumption
        go_roundw
        case rel =>
          refine ⟨k + 1, by omega, by go_num, hM.then m2, fun j hj hjk => ?_⟩
          rcases Nat.lt_or_ge j k with hh | hh
          · exact hH j hj hh
          · obtain rfl : j = k := by omega
            exact hx
        case measure => simp [intOf]; omega
    · obtain rfl : k = xs.length := by omega
      clear hv
      go_wp2_with (fail)
      refine h _ _ hM (Or.inl ⟨rfl, fun x hx => ?_⟩)
      obtain ⟨j, hj, rfl⟩ := List.getElem_of_mem hx
      exact hH j hj hj
end Go.Proofs.YtekmgamjpjddiaaDoor
