/- Whether a kept reply is one to a request. -/
import Derived.Test.YtekmgamjpjddiaaDoorSClone
import Derived.Deep.RegionHeld3
namespace Go.Proofs.YtekmgamjpjddiaaDoor
open Go Go.RowKit
set_option maxRecDepth 100000

/-- what a name's values say of two requests -/
def differs (a b : Fs) (n : ByteArray) : Bool := !(decide (valsOf a n = valsOf b n))
theorem equal_spec (xs ys : List ByteArray) (v1 v2 : Value) (w : World) (R : Ending → World → Prop) (h1 : Row w v1 xs.length 1 (xs.map .string)) (h2 : Row w v2 ys.length 1 (ys.map .string)) (hl : xs.length ≤ 2147483648) (hl2 : ys.length ≤ 2147483648)
    (h : ∀ w', Mod None' w w' → R (.returned (.bool (decide (xs = ys)))) w') :
    Calls Tryd.prog 39 #[v1, v2] w R := by
  have hf1 := h1.form
  have hf2 := h2.form
  obtain ⟨a1, c, rfl, _, _⟩ := hf1
  obtain ⟨a2, d, rfl, _, _⟩ := hf2
  by_cases hlen : xs.length = ys.length
  · by_cases h0 : xs.length = 0
    · have hx : xs = [] := List.eq_nil_of_length_eq_zero h0
      have hy : ys = [] := List.eq_nil_of_length_eq_zero (by omega)
      subst hx hy
      refine (Tryd.slices_Equal_string_empty a1 a2 c _ d w (by simp)).mono ?_
      rintro e w' ⟨rfl, rfl⟩
      exact h _ (Mod.refl _ _)
    · obtain ⟨_, A1, c1, he1, _, _, hc1⟩ := h1
      obtain ⟨_, A2, c2, he2, _, _, hc2⟩ := h2
      injection he1 with e1
      injection he2 with e2
      subst e1 e2
      obtain ⟨g1, o1, rfl, hd1⟩ := hc1 (by omega)
      obtain ⟨g2, o2, rfl, hd2⟩ := hc2 (by omega)
      refine (Tryd.slices_Equal_string g1 o1 xs.length c g2 o2 ys.length d xs ys w (Nat.le_refl _) (Nat.le_refl _) (by omega) (by omega) ?_ ?_).mono ?_
      · intro j hj
        refine hd1 j _ ?_
        simp [List.getElem?_eq_getElem hj, List.getD]
      · intro j hj
        refine hd2 j _ ?_
        simp [List.getElem?_eq_getElem hj, List.getD]
      · rintro e w' ⟨rfl, q, rfl⟩
        simp only [List.take_length]
        exact h _ ((Mod.refl _ _).drewN q)
  · refine (Tryd.slices_Equal_string_lens a1 a2 _ c _ d w hlen).mono ?_
    rintro e w' ⟨rfl, rfl⟩
    have hne : xs ≠ ys := fun e => hlen (by rw [e])
    have := h _ (Mod.refl _ _)
    simpa [hne] using this
theorem valsOf_len (l : Fs) (n : ByteArray) : (valsOf l n).length ≤ l.length := by
  simp only [valsOf, List.length_map]
  exact List.length_filter_le _ _
theorem fits1_spec (A1 A2 : Fs) (n : ByteArray) (kb rb : Nat) (cs rs : Array Value) (f1 f2 : Value) (w : World) (R : Ending → World → Prop)
    (hk : Blk w kb 58 cs) (hr : Blk w rb 25 rs) (hk3 : cs[3]? = some f1) (hr3 : rs[3]? = some f2) (h1 : Row w f1 A1.length 2 (fcells A1)) (h2 : Row w f2 A2.length 2 (fcells A2)) (hl1 : A1.length ≤ 1048576) (hl2 : A2.length ≤ 1048576)
    (h : ∀ w', Mod None' w w' → R (.returned (.bool (differs A1 A2 n))) w') :
    Calls Tryd.prog 38 #[.string n, .pointer (some ⟨kb, 0, none⟩), .pointer (some ⟨rb, 0, none⟩)] w R := by
  obtain ⟨B1, d1, rfl, _, _⟩ := h1.form
  obtain ⟨B2, d2, rfl, _, _⟩ := h2.form
  have e1 := cell_of_get hk hk3
  have e2 := cell_of_get hr hr3
  go_enter Tryd.func38, Tryd.ntmps38
  go_wp2_with (fail)
  have hlv1 := valsOf_len A1 n
  have hlv2 := valsOf_len A2 n
  go_region_held3 (fun w' => w'.cell? ⟨kb, 3, none⟩ = some (.slice B1 A1.length d1) ∧ w'.cell? ⟨rb, 3, none⟩ = some (.slice B2 A2.length d2)) (first | go_keep | exact ⟨e1, e2⟩)
    (first
      | (go_at_call 40; refine values_spec A1 n _ _ _ (by exact h1) (by omega) ?_; intro A3 c3 w3 hf3; have e3 := cell_of_get ((Blk.drew hk).old hf3.mod) hk3; have e4 := cell_of_get ((Blk.drew hr).old hf3.mod) hr3; have h3 := (Row.drew h2).old hf3.mod; have hk4 := (Blk.drew hk).old hf3.mod; have hr4 := (Blk.drew hr).old hf3.mod)
      | (go_at_call 40; refine values_spec A2 n _ _ _ (by exact h3) (by omega) ?_; intro A4 c4 w4 hf4; have e5 := cell_of_get (hk4.old hf4.mod) hk3; have e6 := cell_of_get (hr4.old hf4.mod) hr3)
      | (go_at_call 39; refine equal_spec (valsOf A1 n) (valsOf A2 n) _ _ _ _ (by exact hf3.row.old hf4.mod) (by exact hf4.row) (by omega) (by omega) ?_; intro w5 m5; have e7 := cell_of_get ((hk4.old hf4.mod).old m5) hk3; have e8 := cell_of_get ((hr4.old hf4.mod).old m5) hr3))
  all_goals
    go_wp2_with (fail)
    exact (((Mod.refl _ w).drew).then hf3.mod).then (hf4.mod.then m5)

theorem scells_get (l : List ByteArray) (i : Nat) (h : i < l.length) : (l.map Value.string)[i]? = some (.string l[i]) := by simp [h]
theorem Row.text {w : World} {v : Value} {n : Nat} {l : List ByteArray} (h : Row w v n 1 (l.map .string)) (h0 : 0 < l.length) :
    ∃ g o c, v = .slice (some ⟨g, o, none⟩) n c ∧ ∀ i (hi : i < l.length), w.cell? ⟨g, o + i, none⟩ = some (.string l[i]) := by
  obtain ⟨hl, A, c, rfl, hc, hm, h4⟩ := h
  rw [List.length_map] at hl
  obtain ⟨g, o, rfl, hcell⟩ := h4 (by omega)
  exact ⟨g, o, c, rfl, fun i hi => hcell _ _ (scells_get l i hi)⟩

/-- slices.IndexFunc of names, at the closure of fits -/
theorem indexNames_spec (A1 A2 : Fs) (ns : List ByteArray) (kb rb : Nat) (cs rs : Array Value) (v f1 f2 : Value) (w : World) (R : Ending → World → Prop)
    (hv : Row w v ns.length 1 (ns.map .string)) (hl : ns.length ≤ 2147483648)
    (hk : Blk w kb 58 cs) (hr : Blk w rb 25 rs) (hk3 : cs[3]? = some f1) (hr3 : rs[3]? = some f2) (h1 : Row w f1 A1.length 2 (fcells A1)) (h2 : Row w f2 A2.length 2 (fcells A2)) (hl1 : A1.length ≤ 1048576) (hl2 : A2.length ≤ 1048576)
    (h : ∀ w' (i : Int), Mod None' w w' → Hid ((i = -1 ∧ ns.any (differs A1 A2) = false) ∨ (0 ≤ i ∧ ns.any (differs A1 A2) = true)) → R (.returned (.int .i64 i)) w') :
    Calls Tryd.prog 59 #[v, .func (.func 38) #[] #[.pointer (some ⟨kb, 0, none⟩), .pointer (some ⟨rb, 0, none⟩)]] w R := by
  obtain ⟨A, c, rfl, hc, hcm⟩ := hv.form
  unfold maxLen at hcm
  go_enter Tryd.func59, Tryd.ntmps59
  go_wp2_with (fail)
  go_loopw [8] (fun i wr => ∃ k : Nat, k ≤ ns.length ∧ i = .int .i64 k ∧ Mod None' w wr ∧ Hid (∀ j (hj : j < ns.length), j < k → differs A1 A2 ns[j] = false)) (fun i _ => ns.length - (intOf i).toNat)
  case atStart => exact ⟨0, Nat.zero_le _, rfl, Mod.refl _ _, fun _ _ h => by omega⟩
  case round =>
    obtain ⟨k, hk', rfl, hM, hH⟩ := hrel
    by_cases hlt : k < ns.length
    · obtain ⟨g, o, hA, hcell⟩ : ∃ g o, A = some ⟨g, o, none⟩ ∧ ∀ i (hi : i < ns.length), w.cell? ⟨g, o + i, none⟩ = some (.string ns[i]) := by
        obtain ⟨g, o, c', hs, hcell⟩ := hv.text (by omega)
        injection hs with hA
        exact ⟨g, o, hA, hcell⟩
      subst hA
      have hc1 : wr.cell? ⟨g, o + k, none⟩ = some (.string ns[k]) := (hM.none_cell _ _ (cell_lt (hcell k hlt))).trans (hcell k hlt)
      clear hcell hv
      go_wp2_with (go_at_call 38; refine fits1_spec A1 A2 ns[k] kb rb cs rs f1 f2 _ _ (hk.old hM) (hr.old hM) hk3 hr3 (h1.old hM) (h2.old hM) hl1 hl2 ?_; intro w2 m2)
      · have hx : differs A1 A2 ns[k] = true := by assumption
        refine h _ _ (hM.then m2) (Or.inr ⟨by omega, ?_⟩)
        exact List.any_eq_true.2 ⟨_, List.getElem_mem hlt, hx⟩
      · have hx : differs A1 A2 ns[k] = false := by assumption
        go_roundw
        case rel =>
          refine ⟨k + 1, by omega, by go_num, hM.then m2, fun j hj hjk => ?_⟩
          rcases Nat.lt_or_ge j k with hh | hh
          · exact hH j hj hh
          · obtain rfl : j = k := by omega
            exact hx
        case measure => simp [intOf]; omega
    · obtain rfl : k = ns.length := by omega
      clear hv
      go_wp2_with (fail)
      refine h _ _ hM (Or.inl ⟨rfl, ?_⟩)
      rw [List.any_eq_false]
      intro x hx
      obtain ⟨j, hj, rfl⟩ := List.getElem_of_mem hx
      simp [hH j hj hj]

theorem containsNames_spec (A1 A2 : Fs) (ns : List ByteArray) (kb rb : Nat) (cs rs : Array Value) (v f1 f2 : Value) (w : World) (R : Ending → World → Prop)
    (hv : Row w v ns.length 1 (ns.map .string)) (hl : ns.length ≤ 2147483648)
    (hk : Blk w kb 58 cs) (hr : Blk w rb 25 rs) (hk3 : cs[3]? = some f1) (hr3 : rs[3]? = some f2) (h1 : Row w f1 A1.length 2 (fcells A1)) (h2 : Row w f2 A2.length 2 (fcells A2)) (hl1 : A1.length ≤ 1048576) (hl2 : A2.length ≤ 1048576)
    (h : ∀ w', Mod None' w w' → R (.returned (.bool (ns.any (differs A1 A2)))) w') :
    Calls Tryd.prog 37 #[v, .func (.func 38) #[] #[.pointer (some ⟨kb, 0, none⟩), .pointer (some ⟨rb, 0, none⟩)]] w R := by
  go_enter Tryd.func37, Tryd.ntmps37
  go_wp2_with (fail)
  refine indexNames_spec A1 A2 ns kb rb cs rs v f1 f2 _ _ hv hl hk hr hk3 hr3 h1 h2 hl1 hl2 ?_
  intro w1 i m1 hi
  rcases hi with ⟨rfl, ha⟩ | ⟨h0, ha⟩
  · rw [ha] at h
    go_wp2_with (fail)
    exact m1
  · rw [ha] at h
    go_wp2_with (fail)
    exact m1
end Go.Proofs.YtekmgamjpjddiaaDoor
