/- What the walks know of package variables ('Glob'), and the contract of Life. -/
import Derived.Test.YtekmgamjpjddiaaDoorSLeaf
import Derived.Test.YtekmgamjpjddiaaDoorShelf
import Derived.Lib.SmallJoins
namespace Go.Proofs.YtekmgamjpjddiaaDoor
open Go Go.RowKit
set_option maxRecDepth 100000

theorem Mod.of_below {w w' : World} (h : Below w.heap.size w w') : Mod None' w w' := ⟨h.os, h.tape, h.output, h.size, fun k hk _ => h.block k hk⟩

/-- What the package variables hold that this code reads. -/
structure Glob (w : World) : Prop where
  max : ∃ m, w.cell? ⟨3, 0, none⟩ = some (.int .i64 m)
  tab : Lib.TabIs Tryd.prog w "internal/strconv.uint64pow10" .u64 Lib.pow10Tab
  syn : ∃ t p, w.cell? ⟨0, 0, none⟩ = some (.iface t p)
  rng : ∃ t p, w.cell? ⟨1, 0, none⟩ = some (.iface t p)
  low : 12 ≤ w.heap.size
theorem Glob.keep {w w' : World} (h : Glob w) (hs : w.heap.size ≤ w'.heap.size) (hk : ∀ b, b < 12 → w'.heap[b]? = w.heap[b]?) : Glob w' := by
  obtain ⟨⟨m, h1⟩, h2, ⟨t1, p1, h3⟩, ⟨t2, p2, h4⟩, h5⟩ := h
  refine ⟨⟨m, ?_⟩, ?_, ⟨t1, p1, ?_⟩, ⟨t2, p2, ?_⟩, by omega⟩
  · rw [← h1]; exact World.cell?_of_block (hk _ (by decide))
  · have hg : Tryd.prog.globalNamed "internal/strconv.uint64pow10" = some 2 := by kernel_rfl
    unfold Lib.TabIs World.var? at h2 ⊢
    rw [hg] at h2 ⊢
    simp only [Option.bind_some] at h2 ⊢
    rw [hk _ (by decide)]
    exact h2
  · rw [← h3]; exact World.cell?_of_block (hk _ (by decide))
  · rw [← h4]; exact World.cell?_of_block (hk _ (by decide))
theorem Glob.mod {F : Nat → Prop} {w w' : World} (h : Glob w) (hm : Mod F w w') (hF : ∀ b, b < 12 → ¬ F b) : Glob w' :=
  h.keep hm.size fun b hb => hm.block b (by have := h.low; omega) (hF b hb)
theorem Glob.old {w w' : World} (h : Glob w) (hm : Mod None' w w') : Glob w' := h.mod hm fun _ _ f => f

/-- how long a reply may be told again -/
def lifeText (s : ByteArray) : Int :=
  if Lib.hasPrefix s.data.toList [109, 97, 120, 45] = true then
    match Lib.atoiAll (s.data.toList.drop 4) with
    | .ok n => if Lib.itoa n = s.data.toList.drop 4 ∧ 0 ≤ n ∧ n ≤ 1000000 then n else 0
    | _ => 0
  else 0
def lifeOf (l : Fs) : Int := lifeText ((firstOf l ⟨#[99, 97, 99, 104, 101]⟩).getD ByteArray.empty)
theorem lifeText_bounds (s : ByteArray) : 0 ≤ lifeText s ∧ lifeText s ≤ 1000000 := by
  unfold lifeText
  split
  · split
    · split <;> omega
    · omega
  · omega

def Small (l : Fs) : Prop := l.length ≤ 1048576 ∧ ∀ x ∈ l, x.1.size ≤ 1048576 ∧ x.2.size ≤ 1048576

theorem atoi_spec (s : ByteArray) (w : World) (R : Ending → World → Prop) (hs : s.size ≤ 281474976710656) (hG : Glob w)
    (h : ∀ w' n ev, Mod None' w w' → Hid ((Lib.atoiAll s.data.toList = .ok n ∧ ev = .nilIface) ∨ ((∀ m, Lib.atoiAll s.data.toList ≠ .ok m) ∧ ∃ t p, ev = .iface t p)) → R (.returned (.tuple #[.int .i64 n, ev])) w') :
    Calls Tryd.prog 14 #[.string s] w R := by
  cases hA : Lib.atoiAll s.data.toList
  case ok n =>
    refine (Tryd.strconv_Atoi_ok s (by omega) n hA w).mono ?_
    rintro e w' ⟨rfl, hw⟩
    refine h _ _ _ ?_ (.inl ⟨hA, rfl⟩)
    rcases hw with rfl | ⟨t, rfl⟩
    · exact Mod.refl _ _
    · exact Mod.of_below (Joins.below_bytesWorld _ _ _ _ (Nat.le_refl _))
  case range =>
    obtain ⟨t, p, hv⟩ := hG.rng
    refine (Tryd.strconv_Atoi_range s hs hA _ w hv (.inr ⟨t, p, rfl⟩)).mono ?_
    rintro e w' ⟨N, rfl, _, _, hb⟩
    exact h _ _ _ (Mod.of_below hb) (.inr ⟨fun m hm => (by rw [hA] at hm; cases hm), _, _, rfl⟩)
  all_goals
    obtain ⟨t, p, hv⟩ := hG.syn
    refine (Any.strconv_Atoi_syntax Tryd.laysC172 s hs hA _ w hv (.inr ⟨t, p, rfl⟩)).mono ?_
    rintro e w' ⟨N, rfl, _, _, hb⟩
    exact h _ _ _ (Mod.of_below hb) (.inr ⟨fun m hm => (by rw [hA] at hm; cases hm), _, _, rfl⟩)
theorem itoa_spec (n : Int) (w : World) (R : Ending → World → Prop) (h0 : -9223372036854775808 ≤ n) (h1 : n ≤ 9223372036854775807) (hG : Glob w)
    (h : ∀ w', Mod None' w w' → R (.returned (.string ⟨(Lib.itoa n).toArray⟩)) w') :
    Calls Tryd.prog 15 #[.int .i64 n] w R := by
  refine (Tryd.strconv_Itoa n h0 h1 w hG.tab).mono ?_
  rintro e w' ⟨rfl, k, os, rfl⟩
  exact h _ ⟨rfl, rfl, rfl, by simp [Sort.grow], fun b hb _ => by simp [Sort.grow, Array.getElem?_append_left hb]⟩
theorem cut_spec (s p : ByteArray) (w : World) (R : Ending → World → Prop)
    (h : R (.returned (.tuple #[.string ⟨(Lib.trimPrefix s.data.toList p.data.toList).toArray⟩, .bool (Lib.hasPrefix s.data.toList p.data.toList)])) w) :
    Calls Tryd.prog 13 #[.string s, .string p] w R := by
  refine (Tryd.strings_CutPrefix s p w).mono ?_
  rintro e w' ⟨rfl, rfl⟩
  exact h
theorem beq_text (a b : ByteArray) : (a.toList == b.toList) = decide (a.data.toList = b.data.toList) := by
  rw [Lib.toList_data, Lib.toList_data]
  by_cases h : a.data.toList = b.data.toList
  · simp [h]
  · simp only [h, decide_false]
    exact beq_false_of_ne h

theorem firstOf_small (l : Fs) (name : ByteArray) (hs : Small l) : ((firstOf l name).getD ByteArray.empty).size ≤ 1048576 := by
  unfold firstOf
  cases hf : l.find? (fun x => x.1.toList == name.toList) with
  | none => simp
  | some x => exact (hs.2 x (List.mem_of_find?_eq_some hf)).2

theorem life_spec (l : Fs) (code : Int) (v bd : Value) (w : World) (R : Ending → World → Prop) (hv : Row w v l.length 2 (fcells l)) (hs : Small l) (hG : Glob w)
    (h : ∀ w', Mod None' w w' → R (.returned (.int .i64 (lifeOf l))) w') :
    Calls Tryd.prog 5 #[.agg #[.int .i64 code, v, bd]] w R := by
  have hl : l.length ≤ 2147483648 := by have := hs.1; omega
  unfold lifeOf at h
  have hsm := firstOf_small l ⟨#[99, 97, 99, 104, 101]⟩ hs
  go_enter Tryd.func5, Tryd.ntmps5
  go_wp2_with (fail)
  refine first_spec l _ v _ _ (hv.alloc _) hl ?_
  intro w1 m1
  have m0 : Mod None' w w1 := ((Mod.refl _ _).alloc _).then m1
  have hG1 := hG.old m0
  clear hv m1 hG hl hs
  generalize (firstOf l ⟨#[99, 97, 99, 104, 101]⟩).getD ByteArray.empty = s at h hsm ⊢
  go_wp2_with (fail)
  refine cut_spec s _ _ _ ?_
  by_cases hp : Lib.hasPrefix s.data.toList [109, 97, 120, 45] = true
  · have ht : Lib.trimPrefix s.data.toList [109, 97, 120, 45] = s.data.toList.drop 4 := by unfold Lib.trimPrefix; simp only [hp]; rfl
    simp only [hp, ht]
    have hrs : (⟨(s.data.toList.drop 4).toArray⟩ : ByteArray).size ≤ 1048576 := by
      have h1 : s.size = s.data.size := rfl
      show (s.data.toList.drop 4).toArray.size ≤ _
      rw [List.size_toArray, List.length_drop, Array.length_toList]
      omega
    have hlife : lifeText s = match Lib.atoiAll (s.data.toList.drop 4) with
        | .ok n => if Lib.itoa n = s.data.toList.drop 4 ∧ 0 ≤ n ∧ n ≤ 1000000 then n else 0
        | _ => 0 := by unfold lifeText; rw [if_pos hp]
    generalize s.data.toList.drop 4 = r at hrs hlife ⊢
    clear ht hp hsm
    go_wp2_with (fail)
    refine atoi_spec _ _ _ (by omega) hG1 ?_
    intro w2 n ev m2 hev
    have m3 := m0.then m2
    have hG2 := hG1.old m2
    clear m0 m2 hG1
    rcases hev with ⟨hA, rfl⟩ | ⟨hA, t, p, rfl⟩
    · rw [show (⟨r.toArray⟩ : ByteArray).data.toList = r by simp] at hA
      rw [hA] at hlife
      obtain ⟨hb1, hb2⟩ := Lib.atoiAll_bounds hA
      clear hA
      by_cases h1 : Lib.itoa n = r
      · have hd1 : (Lib.itoa n == r) = true := by simp [h1]
        by_cases h2 : 0 ≤ n
        · have hd2 : decide (n < 0) = false := by simp; omega
          by_cases h3 : n ≤ 1000000
          · have hd3 : decide (1000000 < n) = false := by simp; omega
            simp only [h1, h2, h3, and_self, if_true] at hlife
            rw [hlife] at h
            clear hlife h1 h2 h3
            go_wp2_with (go_at_call 15; refine itoa_spec n _ _ (by omega) (by omega) hG2 ?_; intro w3 m4)
            exact m3.then m4
          · have hd3 : decide (1000000 < n) = true := by simp; omega
            simp only [h1, h2, h3, and_false, if_false] at hlife
            rw [hlife] at h
            clear hlife h1 h2 h3
            go_wp2_with (go_at_call 15; refine itoa_spec n _ _ (by omega) (by omega) hG2 ?_; intro w3 m4)
            exact m3.then m4
        · have hd2 : decide (n < 0) = true := by simp; omega
          simp only [h2, false_and, and_false, if_false] at hlife
          rw [hlife] at h
          clear hlife h1 h2
          go_wp2_with (go_at_call 15; refine itoa_spec n _ _ (by omega) (by omega) hG2 ?_; intro w3 m4)
          exact m3.then m4
      · have hd1 : (Lib.itoa n == r) = false := by simp [h1]
        simp only [h1, false_and, if_false] at hlife
        rw [hlife] at h
        clear hlife h1
        go_wp2_with (go_at_call 15; refine itoa_spec n _ _ (by omega) (by omega) hG2 ?_; intro w3 m4)
        exact m3.then m4
    · rw [show (⟨r.toArray⟩ : ByteArray).data.toList = r by simp] at hA
      have hl0 : lifeText s = 0 := by
        rw [hlife]
        cases hB : Lib.atoiAll r with
        | ok m => exact absurd hB (hA m)
        | _ => rfl
      rw [hl0] at h
      clear hlife hl0 hA
      go_wp2_with (fail)
      exact m3
  · have hlife : lifeText s = 0 := by unfold lifeText; rw [if_neg hp]
    have ht : Lib.trimPrefix s.data.toList [109, 97, 120, 45] = s.data.toList := by unfold Lib.trimPrefix; simp only [hp]; rfl
    simp only [hp, ht]
    go_wp2_with (fail)
    refine atoi_spec _ _ _ (show s.data.toList.toArray.size ≤ _ by rw [List.size_toArray, Array.length_toList]; exact Nat.le_trans hsm (by decide)) hG1 ?_
    intro w2 n ev m2 hev
    have m3 := m0.then m2
    clear m0 m2 hG1 hev
    rw [hlife] at h
    go_wp2_with (fail)
    exact m3
end Go.Proofs.YtekmgamjpjddiaaDoor
