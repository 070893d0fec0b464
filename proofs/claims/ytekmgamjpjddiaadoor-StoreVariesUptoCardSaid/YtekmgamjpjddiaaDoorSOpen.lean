/- The arguments' readings opened to cells, with what the bound on their bulk says; what the listed package variables hold. -/
import Derived.Test.YtekmgamjpjddiaaDoorRows
import Derived.Test.YtekmgamjpjddiaaDoorSLife
import Derived.WalkKit
import Derived.ProofKit
import Derived.OpenShut
import Derived.ShutString
import Derived.ChangeOld
import Derived.Below
import Derived.Deep.Slices
import Derived.Deep.Fields
import Derived.ChangeSame
import Derived.Deep.DeepHandedRow
import Derived.Lib.LaidTab
import Derived.LaidSub
import Derived.Stop.LaidErr
import Derived.SliceStrings
import Derived.Lay
import Derived.Stop.Joined
namespace Go.Proofs.YtekmgamjpjddiaaDoor
open Go Go.Joins Go.ChangeShapes Go.WideShapes Go.ChangeAt Go.RowKit Go.Deep
set_option linter.unusedVariables false

section bulk
variable {H : Type}
theorem one_le (d : DataW H) : 1 ≤ Rows.uptoBulk d := by
  cases d with
  | lit l => cases l <;> simp [Rows.uptoBulk]
  | _ => simp [Rows.uptoBulk]
theorem part_le {d : DataW H} {l : List (DataW H)} (h : d ∈ l) : Rows.uptoBulk d ≤ Rows.uptoBulkAll l := by
  induction l with
  | nil => cases h
  | cons x r ih =>
    simp only [Rows.uptoBulkAll]
    cases List.mem_cons.1 h with
    | inl e => subst e; omega
    | inr e => have := ih e; omega
theorem bulk_append (l r : List (DataW H)) : Rows.uptoBulkAll (l ++ r) = Rows.uptoBulkAll l + Rows.uptoBulkAll r := by
  induction l with
  | nil => simp [Rows.uptoBulkAll]
  | cons x l ih => simp only [List.cons_append, Rows.uptoBulkAll, ih]; omega
theorem bulk_length (l : List (DataW H)) : l.length ≤ Rows.uptoBulkAll l := by
  induction l with
  | nil => simp [Rows.uptoBulkAll]
  | cons x r ih => have := one_le x; simp only [Rows.uptoBulkAll, List.length_cons]; omega
theorem bulk_slice (a b : List (DataW H)) : Rows.uptoBulk (.slice a b) = Rows.uptoBulkAll a + Rows.uptoBulkAll b + 1 := by simp [Rows.uptoBulk]
theorem bulk_agg (a : List (DataW H)) : Rows.uptoBulk (.agg a) = Rows.uptoBulkAll a + 1 := by simp [Rows.uptoBulk]
theorem bulk_string (s : ByteArray) : Rows.uptoBulk (DataW.lit (H := H) (.string s.data.toList)) = s.size + 1 := by
  simp only [Rows.uptoBulk, Array.length_toList]; rfl
end bulk

theorem list_of {α : Type} : ∀ (n : Nat) (P : Nat → α → Prop), (∀ i, i < n → ∃ a, P i a) → ∃ l : List α, l.length = n ∧ ∀ i (hi : i < l.length), P i l[i]
  | 0, _, _ => ⟨[], rfl, fun i hi => by simp at hi⟩
  | n + 1, P, h => by
    obtain ⟨a, ha⟩ := h 0 (by omega)
    obtain ⟨l, hl, hp⟩ := list_of n (fun i => P (i + 1)) fun i hi => h (i + 1) (by omega)
    refine ⟨a :: l, by simp [hl], fun i hi => ?_⟩
    cases i with
    | zero => exact ha
    | succ i => exact hp i (by simpa using hi)

section
variable {H : Type} {enc : TypeId × Value → H} {P : Program} {w : World} {base : Nat} {spare : Nat → Bool} {held : Bool}
theorem open_slice_fields {t e : TypeId} {fs : Array Field} {fuel : Nat} {cs : List Value} {x : DataW H × List MemPlace} (ht : P.underlying t = some (.slice e)) (he : P.underlying e = some (.struct fs))
    (hone : oneCellFields P fs = true) (hC : P.cellsOf e = fs.size) (h : DataW.trod enc P w base spare held fuel t cs = some x) :
    (cs = [.slice none 0 0] ∧ x = (.nil, [])) ∨
    ∃ (a : Addr) (len cap m : Nat) (D : Nat → DataW H) (Pl : Nat → List MemPlace), cs = [.slice (some a) len cap] ∧ base ≤ a.block ∧ len ≤ cap ∧ cap ≤ maxLen ∧ m = (if spare a.block then cap else len) ∧
      x = (.slice ((List.range len).map D) ((List.range (m - len)).map fun j => D (len + j)), MemPlace.row a (m * fs.size) ++ (List.range m).flatMap Pl) ∧
      ∀ i, i < m → ∃ (ys : List (DataW H × List MemPlace)) (n : Nat), D i = .agg (ys.map (·.1)) ∧ Pl i = ys.flatMap (·.2) ∧ ys.length = fs.size ∧
        ∀ (j : Nat) (f : Field), fs[j]? = some f → ∃ (v : Value) (y : DataW H × List MemPlace), w.cell? (a.add (i * fs.size + j)) = some v ∧ ys[j]? = some y ∧ DataW.trod enc P w base spare held n f.type [v] = some y := by
  rcases open_slice ht h with h0 | ⟨a, len, cap, m, n, D, Pl, hcs, hb, hl, hm, hmm, hx, hi⟩
  · exact .inl h0
  · refine .inr ⟨a, len, cap, m, D, Pl, hcs, hb, hl, hm, hmm, by rw [hC] at hx; exact hx, fun i him => ?_⟩
    obtain ⟨cs', hc, ht'⟩ := hi i him
    rw [hC] at hc
    obtain ⟨ys, n', hn', hy, hlen, hyl, hf⟩ := DataW.trod_struct he ht'
    obtain ⟨_, hcl, hat⟩ := World.cells?_some hc
    simp only [Prod.mk.injEq] at hy
    refine ⟨ys, n', hy.1, hy.2, hyl, fun j f hj => ?_⟩
    obtain ⟨ho, hk⟩ := hone_of hone j f hj
    have hjl : j < fs.size := (Array.getElem?_eq_some_iff.1 hj).1
    have hcell := hat j hjl
    have hv : cs'[j]? = some (cs'[j]'(by omega)) := List.getElem?_eq_getElem (by omega)
    have h1 := hf j f hj
    rw [ho, hk] at h1
    have hone' : (cs'.drop j).take 1 = [cs'[j]'(by omega)] := by
      rw [List.drop_eq_getElem_cons (by omega)]
      rfl
    rw [hone'] at h1
    have hys : ys[j]? = some (ys[j]'(by omega)) := List.getElem?_eq_getElem (by omega)
    refine ⟨_, _, ?_, hys, h1.trans hys⟩
    rw [← Go.Deep.add_add, hcell, hv]
theorem open_agg5 {r : Reach} {b0 : Nat} {t : TypeId} {f0 f1 f2 f3 f4 : Field} {v : Value} {d : DataW H} {p : List MemPlace} (hs : P.underlying t = some (.struct #[f0, f1, f2, f3, f4])) (hone : oneCellFields P #[f0, f1, f2, f3, f4] = true) (hC : P.cellsOf t = 5)
    (hv : Value.okWide P w r b0 t v) (h : DataW.Trod enc P w base spare held t v d p) :
    ∃ (v0 v1 v2 v3 v4 : Value) (y0 y1 y2 y3 y4 : DataW H × List MemPlace) (n : Nat), v = .agg #[v0, v1, v2, v3, v4] ∧ d = .agg [y0.1, y1.1, y2.1, y3.1, y4.1] ∧ p = y0.2 ++ (y1.2 ++ (y2.2 ++ (y3.2 ++ y4.2))) ∧
      DataW.trod enc P w base spare held n f0.type [v0] = some y0 ∧ DataW.trod enc P w base spare held n f1.type [v1] = some y1 ∧ DataW.trod enc P w base spare held n f2.type [v2] = some y2 ∧ DataW.trod enc P w base spare held n f3.type [v3] = some y3 ∧ DataW.trod enc P w base spare held n f4.type [v4] = some y4 := by
  obtain ⟨cs, rfl, hsz⟩ := okWide_struct hs hv
  obtain ⟨l⟩ := cs
  match l, hsz.trans hC with
  | [c0, c1, c2, c3, c4], _ =>
    obtain ⟨fuel, hf⟩ := h
    obtain ⟨xs, n, _, hx, _, hlen, hg⟩ := DataW.trod_struct hs hf
    obtain ⟨o0, k0⟩ := hone_of hone 0 f0 rfl
    obtain ⟨o1, k1⟩ := hone_of hone 1 f1 rfl
    obtain ⟨o2, k2⟩ := hone_of hone 2 f2 rfl
    obtain ⟨o3, k3⟩ := hone_of hone 3 f3 rfl
    obtain ⟨o4, k4⟩ := hone_of hone 4 f4 rfl
    match xs, hlen with
    | [y0, y1, y2, y3, y4], _ =>
      simp only [Prod.mk.injEq] at hx
      exact ⟨c0, c1, c2, c3, c4, y0, y1, y2, y3, y4, n, rfl, by simpa using hx.1, by simpa using hx.2, by simpa [Value.cells, o0, k0] using hg 0 f0 rfl, by simpa [Value.cells, o1, k1] using hg 1 f1 rfl, by simpa [Value.cells, o2, k2] using hg 2 f2 rfl, by simpa [Value.cells, o3, k3] using hg 3 f3 rfl, by simpa [Value.cells, o4, k4] using hg 4 f4 rfl⟩

end

variable {H : Type} {enc : TypeId × Value → H} {W : World}
theorem spot_none {a : Addr} {v : Value} (h : W.cell? (a.add 0) = some v) : ∃ g o, a = ⟨g, o, none⟩ := by
  obtain ⟨g, o, spot⟩ := a
  have : spot = none := by simpa [Addr.add] using World.cell?_spot h
  subst this
  exact ⟨g, o, rfl⟩

/-- fields that came in -/
theorem open_fields {fuel : Nat} {v : Value} {x : DataW H × List MemPlace} (h : DataW.trod enc Tryd.prog W 0 (fun _ => true) true fuel 22 [v] = some x) :
    ∃ l : Fs, Row W v l.length 2 (fcells l) ∧ l.length ≤ Rows.uptoBulk x.1 ∧ ∀ y ∈ l, y.1.size ≤ Rows.uptoBulk x.1 ∧ y.2.size ≤ Rows.uptoBulk x.1 := by
  rcases open_slice_fields Tryd.underlying22 Tryd.underlying31 (by kernel_rfl) (by kernel_rfl) h with ⟨hv, hx⟩ | ⟨a, len, cap, m, D, Pl, hv, _, hl, hm, hmm, hx, hi⟩
  · simp only [List.cons.injEq, and_true] at hv
    subst hv
    exact ⟨[], Row.nil_ W 2, by simp, by simp⟩
  · simp only [List.cons.injEq, and_true] at hv
    simp only [if_true] at hmm
    subst hv hmm
    have hall : ∀ i, i < len → ∃ y : ByteArray × ByteArray, W.cell? (a.add (i * 2)) = some (.string y.1) ∧ W.cell? (a.add (i * 2 + 1)) = some (.string y.2) ∧ D i = .agg [.lit (.string y.1.data.toList), .lit (.string y.2.data.toList)] := fun i hil => by
      obtain ⟨ys, n, hD, _, hys, hf⟩ := hi i (by omega)
      obtain ⟨v0, y0, c0, e0, t0⟩ := hf 0 _ rfl
      obtain ⟨v1, y1, c1, e1, t1⟩ := hf 1 _ rfl
      obtain ⟨s0, z0, rfl, _⟩ := DataW.trod_string Tryd.underlying9 t0
      obtain ⟨s1, z1, rfl, _⟩ := DataW.trod_string Tryd.underlying9 t1
      simp only [List.cons.injEq, and_true] at z0 z1
      subst z0 z1
      refine ⟨(s0, s1), c0, c1, ?_⟩
      rw [hD]
      match ys, hys, e0, e1 with
      | [q0, q1], _, e0, e1 =>
        simp only [List.getElem?_cons_zero, List.getElem?_cons_succ, Option.some.injEq] at e0 e1
        subst e0 e1
        rfl
    obtain ⟨l, hll, hp⟩ := list_of len _ hall
    have hb : ∀ i (hi : i < l.length), Rows.uptoBulk (D i) ≤ Rows.uptoBulk x.1 := fun i hil => by
      rw [hx, bulk_slice]
      have := part_le (d := D i) (l := (List.range len).map D) (List.mem_map.2 ⟨i, List.mem_range.2 (by omega), rfl⟩)
      omega
    refine ⟨l, ⟨by rw [fcells_length], some a, _, by rw [hll], by omega, hm, fun hn => ?_⟩, ?_, fun y hy => ?_⟩
    · obtain ⟨g, o, rfl⟩ := spot_none (hp 0 (by omega)).1
      refine ⟨g, o, rfl, fun j u hu => ?_⟩
      have hj : j < l.length * 2 := by rw [← fcells_length]; exact (List.getElem?_eq_some_iff.1 hu).1
      have hg := fcells_get l (j / 2) (by omega)
      have hpj := hp (j / 2) (by omega)
      rw [add_mk, add_mk] at hpj
      rcases Nat.mod_two_eq_zero_or_one j with h0 | h0
      · rw [show j / 2 * 2 = j by omega] at hg hpj
        rw [hg.1] at hu
        cases hu
        exact hpj.1
      · rw [show j / 2 * 2 + 1 = j by omega] at hg hpj
        rw [hg.2] at hu
        cases hu
        exact hpj.2.1
    · rw [hx, bulk_slice]
      have := bulk_length ((List.range len).map D)
      simp at this
      omega
    · obtain ⟨i, hil, rfl⟩ := List.getElem_of_mem hy
      have h1 := hb i hil
      rw [(hp i hil).2.2, bulk_agg] at h1
      simp only [Rows.uptoBulkAll, bulk_string] at h1
      omega

/-- bytes that came in -/
theorem open_bytes {fuel : Nat} {v : Value} {x : DataW H × List MemPlace} (h : DataW.trod enc Tryd.prog W 0 (fun _ => true) true fuel 23 [v] = some x) :
    ∃ l, Bytes W v l ∧ l.length ≤ Rows.uptoBulk x.1 := by
  rcases open_ints Tryd.underlying23 Tryd.underlying5 (by kernel_rfl) h with ⟨hv, hx⟩ | ⟨a, len, cap, zs, hv, _, hl, hm, hz, hx, hcell, hwf⟩
  · simp only [List.cons.injEq, and_true] at hv
    subst hv
    exact ⟨[], Bytes.nil_ _, by simp⟩
  · simp only [List.cons.injEq, and_true] at hv
    simp only [if_true] at hz
    subst hv
    have hlen : ((zs.take len).map fun n : Int => UInt8.ofNat n.toNat).length = len := by simp; omega
    refine ⟨(zs.take len).map fun n => UInt8.ofNat n.toNat, Bytes.of_row (n := len) ⟨by simp; omega, some a, cap, rfl, hl, hm, fun hn => ?_⟩ hlen.symm, ?_⟩
    · obtain ⟨g, o, rfl⟩ := spot_none (hcell 0 (by omega))
      refine ⟨g, o, rfl, fun j u hu => ?_⟩
      simp only [List.map_map, List.getElem?_map] at hu
      cases hj : (zs.take len)[j]? with
      | none => rw [hj] at hu; cases hu
      | some n =>
        rw [hj] at hu
        simp only [Option.map_some, Option.some.injEq, Function.comp] at hu
        rw [List.getElem?_take] at hj
        split at hj
        · have hj' : j < zs.length := (List.getElem?_eq_some_iff.1 hj).1
          have hc := hcell j hj'
          rw [add_mk, List.getD_eq_getElem?_getD, hj] at hc
          rw [hc]
          have hw := hwf n (List.mem_of_getElem? hj)
          have hr : 0 ≤ n ∧ n ≤ 255 := by simpa [Lit.wf, IntKind.min, IntKind.max, IntKind.signed, IntKind.bits] using hw
          rw [← hu]
          simp only [Option.getD_some, bv]
          congr 2
          exact toNat_byte n hr.1 hr.2
        · cases hj
    · rw [hlen, hx, bulk_slice]
      have h1 := bulk_length (lits (H := H) .u8 (zs.take len))
      have h2 : (lits (H := H) .u8 (zs.take len)).length = len := by simp [lits]; omega
      omega

/-- strings that came in -/
theorem open_texts {fuel : Nat} {v : Value} {x : DataW H × List MemPlace} (h : DataW.trod enc Tryd.prog W 0 (fun _ => true) true fuel 28 [v] = some x) :
    ∃ l : List ByteArray, Row W v l.length 1 (l.map .string) ∧ l.length ≤ Rows.uptoBulk x.1 := by
  rcases open_strings Tryd.underlying28 Tryd.underlying9 (by kernel_rfl) h with ⟨hv, hx⟩ | ⟨a, len, cap, ss, hv, _, hl, hm, hz, hx, hcell, _⟩
  · simp only [List.cons.injEq, and_true] at hv
    subst hv
    exact ⟨[], Row.nil_ W 1, by simp⟩
  · simp only [List.cons.injEq, and_true] at hv
    simp only [if_true] at hz
    subst hv
    have hlen : (ss.take len).length = len := by simp; omega
    refine ⟨ss.take len, ⟨by simp, some a, cap, by rw [hlen], by omega, hm, fun hn => ?_⟩, ?_⟩
    · obtain ⟨g, o, rfl⟩ := spot_none (hcell 0 (by omega))
      refine ⟨g, o, rfl, fun j u hu => ?_⟩
      rw [List.getElem?_map] at hu
      cases hj : (ss.take len)[j]? with
      | none => rw [hj] at hu; cases hu
      | some s =>
        rw [hj] at hu
        simp only [Option.map_some, Option.some.injEq] at hu
        subst hu
        rw [List.getElem?_take] at hj
        split at hj
        · have hj' : j < ss.length := (List.getElem?_eq_some_iff.1 hj).1
          have hc := hcell j hj'
          rw [add_mk, List.getD_eq_getElem?_getD, hj] at hc
          exact hc
        · cases hj
    · rw [hlen, hx, bulk_slice]
      have h1 := bulk_length (strs (H := H) (ss.take len))
      have h2 : (strs (H := H) (ss.take len)).length = len := by simp [strs]; omega
      omega
end Go.Proofs.YtekmgamjpjddiaaDoor
