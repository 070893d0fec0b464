/- The contracts of the small functions of package store: times, the first value of a name, all values of a name. -/
import Derived.Test.YtekmgamjpjddiaaDoorProg
import Derived.Test.YtekmgamjpjddiaaDoorSOwn
import Derived.Handy
import Derived.CellFam
import Derived.LoopTactic
import Derived.Deep.QuietTactic
import Derived.BigQuiet
import Derived.Lib.Hide
namespace Go.Proofs.YtekmgamjpjddiaaDoor
open Go Go.RowKit
set_option maxRecDepth 100000

/-- Fields, as a list of names and values. -/
abbrev Fs := List (ByteArray × ByteArray)
def fcells (l : Fs) : List Value := l.flatMap fun x => [.string x.1, .string x.2]
theorem fcells_length (l : Fs) : (fcells l).length = l.length * 2 := by
  induction l with
  | nil => rfl
  | cons x l ih => simp only [fcells, List.flatMap_cons, List.length_append, List.length_cons] at ih ⊢; simp only [List.length_nil]; omega
theorem fcells_get (l : Fs) (i : Nat) (h : i < l.length) : (fcells l)[i * 2]? = some (.string l[i].1) ∧ (fcells l)[i * 2 + 1]? = some (.string l[i].2) := by
  induction l generalizing i with
  | nil => simp at h
  | cons x l ih =>
    cases i with
    | zero => simp [fcells]
    | succ i =>
      have := ih i (by simpa using h)
      have e1 : (i + 1) * 2 = i * 2 + 1 + 1 := by omega
      rw [e1]
      simpa [fcells] using this
/-- what a row of fields says of its cells -/
theorem Row.field {w : World} {v : Value} {n : Nat} {l : Fs} (h : Row w v n 2 (fcells l)) (h0 : 0 < l.length) :
    n = l.length ∧ ∃ g o c, v = .slice (some ⟨g, o, none⟩) l.length c ∧ l.length ≤ c ∧ c ≤ maxLen ∧ ∀ i (hi : i < l.length), w.cell? ⟨g, o + i * 2, none⟩ = some (.string l[i].1) ∧ w.cell? ⟨g, o + i * 2 + 1, none⟩ = some (.string l[i].2) := by
  obtain ⟨hl, A, c, rfl, hc, hm, h4⟩ := h
  rw [fcells_length] at hl
  obtain rfl : n = l.length := by omega
  obtain ⟨g, o, rfl, hcell⟩ := h4 h0
  refine ⟨rfl, g, o, c, rfl, hc, hm, fun i hi => ⟨hcell _ _ (fcells_get l i hi).1, ?_⟩⟩
  have := hcell _ _ (fcells_get l i hi).2
  rwa [show o + (i * 2 + 1) = o + i * 2 + 1 by omega] at this

theorem time_spec (n : Int) (w : World) (R : Ending → World → Prop) (h : R (.returned (.bool (decide (0 ≤ n) && decide (n ≤ 1000000)))) w) :
    Calls Tryd.prog 16 #[.int .i64 n] w R := by
  by_cases h0 : 0 ≤ n
  · simp only [h0, decide_true, Bool.true_and] at h
    go_enter Tryd.func16, Tryd.ntmps16
    go_wp2
    exact h
  · simp only [h0, decide_false, Bool.false_and] at h
    have hd : decide (0 ≤ n) = false := by simp [h0]
    go_enter Tryd.func16, Tryd.ntmps16
    go_wp2
    exact h

/-- values of a name -/
def valsOf (l : Fs) (name : ByteArray) : List ByteArray := (l.filter (fun x => x.1.toList == name.toList)).map (·.2)
theorem valsOf_take (l : Fs) (name : ByteArray) (k : Nat) (h : k < l.length) : valsOf (l.take (k + 1)) name = valsOf (l.take k) name ++ (if l[k].1.toList == name.toList then [l[k].2] else []) := by
  simp only [valsOf, List.take_add_one, List.getElem?_eq_getElem h, Option.toList_some, List.filter_append, List.map_append]
  congr 1
  by_cases hx : (l[k].1.toList == name.toList) = true
  · simp [hx]
  · simp [hx]

theorem info_string : (Tryd.prog.info? 9).map (fun i => (i.zero, i.size, i.bytes)) = some (some (.string ByteArray.empty), 1, 16) := by kernel_rfl
theorem str_one (l : List ByteArray) : ∀ u ∈ l.map Value.string, u.oneCell' = true := by
  intro u hu
  obtain ⟨b, _, rfl⟩ := List.mem_map.1 hu
  rfl

theorem values_spec (l : Fs) (name : ByteArray) (v : Value) (w : World) (R : Ending → World → Prop) (hv : Row w v l.length 2 (fcells l)) (hl : l.length ≤ 2147483648)
    (h : ∀ A c w', Fresh 9 1 w w' (.slice A (valsOf l name).length c) (valsOf l name).length ((valsOf l name).map .string) → R (.returned (.slice A (valsOf l name).length c)) w') :
    Calls Tryd.prog 40 #[v, .string name] w R := by
  obtain ⟨i0, hi0, hz0, hz1, hz2⟩ := info_parts info_string
  obtain ⟨A, c, rfl, hc, hcm⟩ := hv.form
  unfold maxLen at hcm
  have hle : ∀ k, (valsOf (l.take k) name).length ≤ k := fun k => by
    simp only [valsOf, List.length_map]
    exact Nat.le_trans (List.length_filter_le _ _) (by simp; omega)
  go_enter Tryd.func40, Tryd.ntmps40
  go_wp2_with (fail)
  go_loopw [4, 9] (fun o i wr => ∃ (k : Nat) (B : Option Addr) (d : Nat), k ≤ l.length ∧ i = .int .i64 k ∧ o = .slice B (valsOf (l.take k) name).length d ∧
      Fresh 9 1 w wr (.slice B (valsOf (l.take k) name).length d) (valsOf (l.take k) name).length ((valsOf (l.take k) name).map .string)) (fun _ i _ => l.length - (intOf i).toNat)
  case atStart =>
    refine ⟨0, none, 0, Nat.zero_le _, rfl, ?_, ?_⟩
    · simp [valsOf]
    · simpa [valsOf] using (⟨World.ownsRow_nil _ _ _ _, by simp [Value.ownBlock], Mod.refl _ _⟩ : Fresh 9 1 w w (.slice none 0 0) 0 [])
  case round =>
    obtain ⟨k, B, d, hk, rfl, rfl, hF⟩ := hrel
    by_cases hlt : k < l.length
    · obtain ⟨g, o, hA, hcell⟩ : ∃ g o, A = some ⟨g, o, none⟩ ∧ ∀ i (hi : i < l.length), w.cell? ⟨g, o + i * 2, none⟩ = some (.string l[i].1) ∧ w.cell? ⟨g, o + i * 2 + 1, none⟩ = some (.string l[i].2) := by
        obtain ⟨_, g, o, c', hs, _, _, hcell⟩ := hv.field (by omega)
        injection hs with hA
        exact ⟨g, o, hA, hcell⟩
      subst hA
      have hc1 : wr.cell? ⟨g, o + k * 2, none⟩ = some (.string l[k].1) := (hF.mod.none_cell _ _ (cell_lt (hcell k hlt).1)).trans (hcell k hlt).1
      have hc2 : wr.cell? ⟨g, o + k * 2 + 1, none⟩ = some (.string l[k].2) := (hF.mod.none_cell _ _ (cell_lt (hcell k hlt).2)).trans (hcell k hlt).2
      have hm := hle k
      have htake := valsOf_take l name k hlt
      clear hcell hv hle
      go_wp2_with (at_builtin; refine wpList_app rfl (.tmp 17) (.tmp 20) _ rfl 9 i0 _ 1 16 Tryd.underlying28 hi0 hz0 hz1 hz2 rfl (by omega) (.slice B (valsOf (l.take k) name).length d) (valsOf (l.take k) name).length ((valsOf (l.take k) name).map .string) rfl ((hF.own.alloc _).alloc _) (.slice (some ⟨wr.heap.size + 1, 0, none⟩) 1 1) 1 [.string l[k].2] rfl (Row.of_blk (Blk.at (t := 9) (cs := #[.string l[k].2]) (by simp)) 1 1 1 rfl (by omega) (by simp [maxLen])) (by simp [Value.oneCell']) ((valsOf (l.take k) name).length + 1) _ rfl rfl (by simp only [maxLen]; omega) (by omega) ?_; intro A' c' w' ho hmm hat)
      · have hx : (l[k].1.toList == name.toList) = true := by assumption
        rw [if_pos hx] at htake
        go_roundw
        case rel =>
          refine ⟨k + 1, A', c', by omega, by go_num, ?_, ?_⟩
          · simp [htake]
          · rw [htake]
            have hF2 := Fresh.app ((hF.mod.alloc _).alloc _) hF.new ho hmm hat
            simpa using hF2
        case measure => simp [intOf]; omega
      · have hx : (l[k].1.toList == name.toList) = false := by assumption
        rw [if_neg (by simp [hx]), List.append_nil] at htake
        go_roundw
        case rel =>
          refine ⟨k + 1, B, d, by omega, by go_num, by rw [htake], ?_⟩
          rw [htake]
          exact hF.then ((Mod.refl _ _).alloc _)
        case measure => simp [intOf]; omega
    · obtain rfl : k = l.length := by omega
      simp only [List.take_length] at hF ⊢
      clear hv hle
      go_wp2_with (fail)
      exact hF

/-- the first value of a name -/
def firstOf (l : Fs) (name : ByteArray) : Option ByteArray := (l.find? (fun x => x.1.toList == name.toList)).map (·.2)
theorem find_eq (l : Fs) (p : ByteArray × ByteArray → Bool) (i : Nat) (hi : i < l.length) (hp : p l[i] = true) (hn : ∀ j (hj : j < l.length), j < i → p l[j] = false) : l.find? p = some l[i] := by
  induction l generalizing i with
  | nil => simp at hi
  | cons x l ih =>
    cases i with
    | zero => simp at hp; simp [hp]
    | succ i =>
      have h0 := hn 0 (by simp) (by omega)
      simp at h0
      simp only [List.find?_cons, h0, List.getElem_cons_succ]
      exact ih i (by simpa using hi) hp fun j hj hji => by
        have := hn (j + 1) (by simp; omega) (by omega)
        rwa [List.getElem_cons_succ] at this
theorem find_none (l : Fs) (p : ByteArray × ByteArray → Bool) (hn : ∀ j (hj : j < l.length), p l[j] = false) : l.find? p = none := by
  rw [List.find?_eq_none]
  intro x hx
  obtain ⟨j, hj, rfl⟩ := List.getElem_of_mem hx
  simp [hn j hj]

theorem indexField_spec (l : Fs) (name : ByteArray) (b : Nat) (v : Value) (w : World) (R : Ending → World → Prop) (hv : Row w v l.length 2 (fcells l)) (hl : l.length ≤ 2147483648) (hb : Blk w b 9 #[.string name])
    (h : ∀ w' (i : Int), Mod None' w w' → Hid ((i = -1 ∧ firstOf l name = none) ∨ ∃ k : Nat, ∃ hk : k < l.length, i = k ∧ firstOf l name = some l[k].2) → R (.returned (.int .i64 i)) w') :
    Calls Tryd.prog 27 #[v, .func (.func 28) #[] #[.pointer (some ⟨b, 0, none⟩)]] w R := by
  obtain ⟨A, c, rfl, hc, hcm⟩ := hv.form
  unfold maxLen at hcm
  go_enter Tryd.func27, Tryd.ntmps27
  go_wp2_with (fail)
  go_loopw [8] (fun i wr => ∃ k : Nat, k ≤ l.length ∧ i = .int .i64 k ∧ Mod None' w wr ∧ Hid (∀ j (hj : j < l.length), j < k → (l[j].1.toList == name.toList) = false)) (fun i _ => l.length - (intOf i).toNat)
  case atStart => exact ⟨0, Nat.zero_le _, rfl, Mod.refl _ _, fun _ _ h => by omega⟩
  case round =>
    obtain ⟨k, hk, rfl, hM, hH⟩ := hrel
    by_cases hlt : k < l.length
    · obtain ⟨g, o, hA, hcell⟩ : ∃ g o, A = some ⟨g, o, none⟩ ∧ ∀ i (hi : i < l.length), w.cell? ⟨g, o + i * 2, none⟩ = some (.string l[i].1) ∧ w.cell? ⟨g, o + i * 2 + 1, none⟩ = some (.string l[i].2) := by
        obtain ⟨_, g, o, c', hs, _, _, hcell⟩ := hv.field (by omega)
        injection hs with hA
        exact ⟨g, o, hA, hcell⟩
      subst hA
      have hc1 : wr.cell? ⟨g, o + k * 2, none⟩ = some (.string l[k].1) := (hM.none_cell _ _ (cell_lt (hcell k hlt).1)).trans (hcell k hlt).1
      have hc2 : wr.cell? ⟨g, o + k * 2 + 1, none⟩ = some (.string l[k].2) := (hM.none_cell _ _ (cell_lt (hcell k hlt).2)).trans (hcell k hlt).2
      have hc3 : wr.cell? ⟨b, 0, none⟩ = some (.string name) := (hb.old hM).cell 0
      have hz := (hb.old hM).lt
      clear hcell hv hb
      go_wp2
      · have hx : (l[k].1.toList == name.toList) = true := by assumption
        refine h _ _ (hM.alloc _) (Or.inr ⟨k, hlt, rfl, ?_⟩)
        unfold firstOf
        rw [find_eq l (fun x => x.1.toList == name.toList) k hlt hx hH]
        rfl
      · have hx : (l[k].1.toList == name.toList) = false := by assumption
        go_roundw
        case rel =>
          refine ⟨k + 1, by omega, by go_num, ?_, fun j hj hjk => ?_⟩
          · exact (hM.alloc _)
          · rcases Nat.lt_or_ge j k with hh | hh
            · exact hH j hj hh
            · obtain rfl : j = k := by omega
              exact hx
        case measure => simp [intOf]; omega
    · obtain rfl : k = l.length := by omega
      clear hv hb
      go_wp2_with (fail)
      refine h _ _ hM (Or.inl ⟨rfl, ?_⟩)
      unfold firstOf
      rw [find_none l (fun x => x.1.toList == name.toList) fun j hj => hH j hj hj]
      rfl

theorem first_spec (l : Fs) (name : ByteArray) (v : Value) (w : World) (R : Ending → World → Prop) (hv : Row w v l.length 2 (fcells l)) (hl : l.length ≤ 2147483648)
    (h : ∀ w', Mod None' w w' → R (.returned (.tuple #[.string ((firstOf l name).getD ByteArray.empty), .bool (firstOf l name).isSome])) w') :
    Calls Tryd.prog 12 #[v, .string name] w R := by
  have hform := hv.form
  obtain ⟨A, c, rfl, hc, hcm⟩ := hform
  unfold maxLen at hcm
  go_enter Tryd.func12, Tryd.ntmps12
  go_wp2_with (fail)
  refine indexField_spec l name _ _ _ _ (hv.alloc _) hl (Blk.new w 9 #[.string name]) ?_
  intro w1 i m1 hi
  have m0 : Mod None' w w1 := ((Mod.refl _ _).alloc _).then m1
  rcases hi with ⟨rfl, h0⟩ | ⟨k, hk, rfl, h0⟩
  · rw [h0] at h
    go_wp2_with (fail)
    exact m0
  · rw [h0] at h
    obtain ⟨_, g, o, c', hs, _, _, hcell⟩ := hv.field (by omega)
    have hc1 := (m0.none_cell _ _ (cell_lt (hcell k hk).2)).trans (hcell k hk).2
    injection hs with hA
    subst hA
    clear hcell hv
    go_wp2_with (fail)
    exact m0
end Go.Proofs.YtekmgamjpjddiaaDoor
