/- The contracts of the clones: fields, bytes, a reply. -/
import Derived.Test.YtekmgamjpjddiaaDoorSLife
import Derived.Deep.RegionLaw
import Derived.Deep.RegionHeld3
namespace Go.Proofs.YtekmgamjpjddiaaDoor
open Go Go.RowKit
set_option maxRecDepth 100000

theorem info_u8 : (Tryd.prog.info? 5).map (fun i => (i.zero, i.size, i.bytes)) = some (some (.int .u8 0), 1, 1) := by kernel_rfl
theorem info_field : (Tryd.prog.info? 31).map (fun i => (i.zero, i.size, i.bytes)) = some (some (.agg #[.string ByteArray.empty, .string ByteArray.empty]), 2, 32) := by kernel_rfl
theorem fcells_one (l : Fs) : ∀ u ∈ fcells l, u.oneCell' = true := by
  intro u hu
  obtain ⟨x, _, h⟩ := List.mem_flatMap.1 hu
  simp at h
  rcases h with rfl | rfl <;> rfl

theorem Row.nil_len {w : World} {n k c : Nat} {xs : List Value} (h : Row w (.slice none n c) n k xs) : n = 0 ∧ xs = [] := by
  obtain ⟨h0, A, c', he, _, _, h4⟩ := h
  injection he with e1
  subst e1
  rcases Nat.eq_zero_or_pos n with h1 | h1
  · subst h1
    exact ⟨rfl, List.eq_nil_of_length_eq_zero (by simpa using h0)⟩
  · obtain ⟨_, _, h5, _⟩ := h4 h1
    cases h5

/-- slices.Clone of bytes -/
theorem clone_bytes (v : Value) (l : List UInt8) (w : World) (R : Ending → World → Prop) (hv : Bytes w v l) (hl : l.length ≤ 140737488355328)
    (h : ∀ A c w', Fresh 5 1 w w' (.slice A l.length c) l.length (l.map bv) → R (.returned (.slice A l.length c)) w') :
    Calls Tryd.prog 33 #[v] w R := by
  obtain ⟨i0, hi0, hz0, hz1, hz2⟩ := info_parts info_u8
  obtain ⟨A, c, rfl, hc, hcm⟩ := hv.form
  have he := fun (w : World) A n c => Lib.run_eql_slice_nil (P := Tryd.prog) w 23 5 A n c 0 0 Tryd.underlying23
  rcases A with _ | a
  · have hl0 : l = [] := by simpa using hv.nil_len.2
    subst hl0
    go_enter Tryd.func33, Tryd.ntmps33
    go_wp2
    exact ⟨World.ownsRow_nil _ _ _ _, by simp [Value.ownBlock], Mod.refl _ _⟩
  · go_enter Tryd.func33, Tryd.ntmps33
    go_wp2_with (at_builtin; refine wpList_app rfl (.tmp 5) (.tmp 6) _ rfl 5 i0 _ 1 1 Tryd.underlying23 hi0 hz0 hz1 hz2 rfl (by omega) (.slice (some ⟨w.heap.size, 0, none⟩) 0 0) 0 [] rfl (World.ownsRow_made w #[] 0 (Nat.zero_le _) (by simp) rfl) _ l.length (l.map bv) rfl (hv.alloc _) (bv_one l) l.length (l.map bv) (Nat.zero_add _) rfl (by simp only [maxLen]; omega) (by omega) ?_; intro A' c' w' ho hm hat)
    exact Fresh.app ((Mod.refl _ _).alloc _) (by simp [Value.ownBlock]) ho hm hat

/-- slices.Clone of fields -/
theorem clone_fields (v : Value) (l : Fs) (w : World) (R : Ending → World → Prop) (hv : Row w v l.length 2 (fcells l)) (hl : l.length ≤ 1073741824)
    (h : ∀ A c w', Fresh 31 2 w w' (.slice A l.length c) l.length (fcells l) → R (.returned (.slice A l.length c)) w') :
    Calls Tryd.prog 18 #[v] w R := by
  obtain ⟨i0, hi0, hz0, hz1, hz2⟩ := info_parts info_field
  obtain ⟨A, c, rfl, hc, hcm⟩ := hv.form
  have he := fun (w : World) A n c => Lib.run_eql_slice_nil (P := Tryd.prog) w 22 31 A n c 0 0 Tryd.underlying22
  rcases A with _ | a
  · have hl0 : l = [] := List.eq_nil_of_length_eq_zero hv.nil_len.1
    subst hl0
    go_enter Tryd.func18, Tryd.ntmps18
    go_wp2
    exact ⟨World.ownsRow_nil _ _ _ _, by simp [Value.ownBlock], Mod.refl _ _⟩
  · go_enter Tryd.func18, Tryd.ntmps18
    go_wp2_with (at_builtin; refine wpList_app rfl (.tmp 5) (.tmp 6) _ rfl 31 i0 _ 2 32 Tryd.underlying22 hi0 hz0 hz1 hz2 rfl (by omega) (.slice (some ⟨w.heap.size, 0, none⟩) 0 0) 0 [] rfl (World.ownsRow_made w #[] 0 (Nat.zero_le _) (by simp) rfl) _ l.length (fcells l) rfl (hv.alloc _) (fcells_one l) l.length (fcells l) (Nat.zero_add _) rfl (by simp only [maxLen]; omega) (by omega) ?_; intro A' c' w' ho hm hat)
    exact Fresh.app ((Mod.refl _ _).alloc _) (by simp [Value.ownBlock]) ho hm hat

set_option maxHeartbeats 1600000 in
/-- a reply's clone -/
theorem clone_spec (code : Int) (l : Fs) (body : List UInt8) (fv bd : Value) (w : World) (R : Ending → World → Prop) (hv : Row w fv l.length 2 (fcells l)) (hb : Bytes w bd body) (hl : l.length ≤ 1073741824) (hlb : body.length ≤ 140737488355328)
    (h : ∀ fv' bd' w', Fresh 31 2 w w' fv' l.length (fcells l) → Fresh 5 1 w w' bd' body.length (body.map bv) → R (.returned (.agg #[.int .i64 code, fv', bd'])) w') :
    Calls Tryd.prog 17 #[.agg #[.int .i64 code, fv, bd]] w R := by
  obtain ⟨A1, c1, rfl, _, _⟩ := hv.form
  obtain ⟨A2, c2, rfl, _, _⟩ := hb.form
  have hx0 : Blk ((w.alloc (.cells #[.int .i64 code, .slice A1 l.length c1, .slice A2 body.length c2] 27)).alloc (.cells #[.int .i64 0, .slice none 0 0, .slice none 0 0] 27)).drew w.heap.size 27 #[.int .i64 code, .slice A1 l.length c1, .slice A2 body.length c2] := Blk.drew ((Blk.new w _ _).alloc _)
  have hy0 : Blk ((w.alloc (.cells #[.int .i64 code, .slice A1 l.length c1, .slice A2 body.length c2] 27)).alloc (.cells #[.int .i64 0, .slice none 0 0, .slice none 0 0] 27)).drew (w.heap.size + 1) 27 #[.int .i64 0, .slice none 0 0, .slice none 0 0] := Blk.drew (Blk.at (by simp))
  have k1 := hx0.cell 1
  have k2 := hx0.cell 2
  go_enter Tryd.func17, Tryd.ntmps17
  go_wp2_with (fail)
  go_region_with
    (first
      | (refine clone_fields _ l _ _ (by exact Row.drew (Row.alloc (Row.alloc hv _) _)) hl ?_; intro A3 c3 w3 hf3; have hx3 := hx0.old hf3.mod; have hy3 := hy0.old hf3.mod; have k3 : w3.cell? ⟨w.heap.size, 1, none⟩ = some (.slice A1 l.length c1) := hx3.cell 1; have k4 : w3.cell? ⟨w.heap.size, 2, none⟩ = some (.slice A2 body.length c2) := hx3.cell 2; have hb3 := Row.old (Row.drew (Row.alloc (Row.alloc hb _) _)) hf3.mod)
      | (refine clone_bytes _ body _ _ (by exact hb3) hlb ?_; intro A5 c5 w5 hf5; have hx5 := hx3.old hf5.mod; have hy5 := hy3.old hf5.mod; have k5 : w5.cell? ⟨w.heap.size, 1, none⟩ = some (.slice A1 l.length c1) := hx5.cell 1; have k6 : w5.cell? ⟨w.heap.size, 2, none⟩ = some (.slice A2 body.length c2) := hx5.cell 2; have hcx := hx5.cell; have frx := hx5.frozen; have hcy := hy5.cell; have fry := hy5.frozen; have hzy := hy5.lt; have hz5 := hx5.lt))
  all_goals
    go_wp2_with (fail)
    refine bodyPost_ret (v := .agg #[.int .i64 code, .slice A3 l.length c3, .slice A5 body.length c5]) ?_ rfl ?_
    · simp [results, Tryd.results17, go_sem, hcy]
    · have hn3 := hf3.new
      have hn5 := hf5.new
      have hz3 := hf3.mod.size
      simp only [World.size_drew, World.size_alloc] at hn3 hz3
      refine h _ _ _ ?_ ?_
      · refine ((((((hf3.after (((Mod.refl _ w).alloc _).alloc _).drew).then hf5.mod).setCell ?_ ?_ _).setCell ?_ ?_ _).setCell ?_ ?_ _).setCell ?_ ?_ _).setCell ?_ ?_ _
        all_goals first | (intro g' hg'; have := hn3 g' hg'; simp only []; omega) | (simp only []; omega)
      · refine (((((hf5.after (((((Mod.refl _ w).alloc _).alloc _).drew).then hf3.mod)).setCell ?_ ?_ _).setCell ?_ ?_ _).setCell ?_ ?_ _).setCell ?_ ?_ _).setCell ?_ ?_ _
        all_goals first | (intro g' hg'; have := hn5 g' hg'; simp only []; omega) | (simp only []; omega)
end Go.Proofs.YtekmgamjpjddiaaDoor
