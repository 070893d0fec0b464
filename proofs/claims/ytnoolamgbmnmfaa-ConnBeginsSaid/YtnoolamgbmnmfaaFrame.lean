/- The contracts of frame.Encode and frame.Read. -/
import Derived.Test.YtnoolamgbmnmfaaLeaf
namespace Go.Proofs.Ytnoolamgbmnmfaa
open Go Go.RowKit
set_option maxRecDepth 100000

/-- slices.Concat of 2 rows of bytes -/
theorem concat2 (v0 v1 : Value) (l0 l1 : List UInt8) (g c' : Nat) (w : World) (R : Ending → World → Prop) (hb : Blk w g 22 #[v0, v1])
    (h0 : Bytes w v0 l0) (h1 : Bytes w v1 l1) (hs : l0.length + l1.length ≤ 65536)
    (h : ∀ A c w', Fresh 5 1 w w' (.slice A (l0.length + l1.length) c) (l0.length + l1.length) ((l0 ++ l1).map bv) → R (.returned (.slice A (l0.length + l1.length) c)) w') :
    Calls Try.prog 18 #[.slice (some ⟨g, 0, none⟩) 2 c'] w R := by
  obtain ⟨i0, hi0, hz0, hz1, hz2⟩ := info_parts info_u8
  obtain ⟨A0, c0, rfl, hc0, hm0⟩ := h0.form
  obtain ⟨A1, c1, rfl, hc1, hm1⟩ := h1.form
  have hcell := hb.cell
  go_enter Try.func18, Try.ntmps18
  go_wp2_with (fail)
  refine wp_loop_rounds 3 ?_
  repeat any_goals (rw [rounds_succ]; go_wp2_with (fail))
  clear hcell
  refine grow_nil _ _ _ (by omega) (by omega) ?_
  intro A c w1 hcap hf
  go_wp2_with (fail)
  refine wp_loop_rounds 3 ?_
  have hc1 := hb.cells_old hf.mod
  rw [rounds_succ]
  go_wp2_with (at_builtin; refine wpList_app rfl (.tmp 31) (.tmp 32) _ rfl 5 i0 _ 1 1 Try.underlying22 hi0 hz0 hz1 hz2 rfl (by omega) (.slice A 0 c) 0 [] rfl hf.own _ l0.length (l0.map bv) rfl (h0.old hf.mod) (bv_one _) (l0.length) (l0.map bv) (by simp) (by simp) (by simp [maxLen]; omega) (by simp; omega) ?_; intro B1 d1 u1 ho1 hg1 hat1)
  have hf1 := hf.next ho1 hg1 hat1
  clear ho1 hg1 hat1 hc1
  have hc2 := hb.cells_old hf1.mod
  rw [rounds_succ]
  go_wp2_with (at_builtin; refine wpList_app rfl (.tmp 31) (.tmp 32) _ rfl 5 i0 _ 1 1 Try.underlying22 hi0 hz0 hz1 hz2 rfl (by omega) (.slice B1 (l0.length) d1) (l0.length) (l0.map bv) rfl hf1.own _ l1.length (l1.map bv) rfl (h1.old hf1.mod) (bv_one _) (l0.length + l1.length) ((l0 ++ l1).map bv) (by simp) (by simp) (by simp [maxLen]; omega) (by simp; omega) ?_; intro B2 d2 u2 ho2 hg2 hat2)
  have hf2 := hf1.next ho2 hg2 hat2
  clear ho2 hg2 hat2 hc2
  rw [rounds_succ]
  go_wp2_with (fail)
  exact hf2

/-- slices.Concat of 4 rows of bytes -/
theorem concat4 (v0 v1 v2 v3 : Value) (l0 l1 l2 l3 : List UInt8) (g c' : Nat) (w : World) (R : Ending → World → Prop) (hb : Blk w g 22 #[v0, v1, v2, v3])
    (h0 : Bytes w v0 l0) (h1 : Bytes w v1 l1) (h2 : Bytes w v2 l2) (h3 : Bytes w v3 l3) (hs : l0.length + l1.length + l2.length + l3.length ≤ 65536)
    (h : ∀ A c w', Fresh 5 1 w w' (.slice A (l0.length + l1.length + l2.length + l3.length) c) (l0.length + l1.length + l2.length + l3.length) ((l0 ++ l1 ++ l2 ++ l3).map bv) → R (.returned (.slice A (l0.length + l1.length + l2.length + l3.length) c)) w') :
    Calls Try.prog 18 #[.slice (some ⟨g, 0, none⟩) 4 c'] w R := by
  obtain ⟨i0, hi0, hz0, hz1, hz2⟩ := info_parts info_u8
  obtain ⟨A0, c0, rfl, hc0, hm0⟩ := h0.form
  obtain ⟨A1, c1, rfl, hc1, hm1⟩ := h1.form
  obtain ⟨A2, c2, rfl, hc2, hm2⟩ := h2.form
  obtain ⟨A3, c3, rfl, hc3, hm3⟩ := h3.form
  have hcell := hb.cell
  go_enter Try.func18, Try.ntmps18
  go_wp2_with (fail)
  refine wp_loop_rounds 5 ?_
  repeat any_goals (rw [rounds_succ]; go_wp2_with (fail))
  clear hcell
  refine grow_nil _ _ _ (by omega) (by omega) ?_
  intro A c w1 hcap hf
  go_wp2_with (fail)
  refine wp_loop_rounds 5 ?_
  have hc1 := hb.cells_old hf.mod
  rw [rounds_succ]
  go_wp2_with (at_builtin; refine wpList_app rfl (.tmp 31) (.tmp 32) _ rfl 5 i0 _ 1 1 Try.underlying22 hi0 hz0 hz1 hz2 rfl (by omega) (.slice A 0 c) 0 [] rfl hf.own _ l0.length (l0.map bv) rfl (h0.old hf.mod) (bv_one _) (l0.length) (l0.map bv) (by simp) (by simp) (by simp [maxLen]; omega) (by simp; omega) ?_; intro B1 d1 u1 ho1 hg1 hat1)
  have hf1 := hf.next ho1 hg1 hat1
  clear ho1 hg1 hat1 hc1
  have hc2 := hb.cells_old hf1.mod
  rw [rounds_succ]
  go_wp2_with (at_builtin; refine wpList_app rfl (.tmp 31) (.tmp 32) _ rfl 5 i0 _ 1 1 Try.underlying22 hi0 hz0 hz1 hz2 rfl (by omega) (.slice B1 (l0.length) d1) (l0.length) (l0.map bv) rfl hf1.own _ l1.length (l1.map bv) rfl (h1.old hf1.mod) (bv_one _) (l0.length + l1.length) ((l0 ++ l1).map bv) (by simp) (by simp) (by simp [maxLen]; omega) (by simp; omega) ?_; intro B2 d2 u2 ho2 hg2 hat2)
  have hf2 := hf1.next ho2 hg2 hat2
  clear ho2 hg2 hat2 hc2
  have hc3 := hb.cells_old hf2.mod
  rw [rounds_succ]
  go_wp2_with (at_builtin; refine wpList_app rfl (.tmp 31) (.tmp 32) _ rfl 5 i0 _ 1 1 Try.underlying22 hi0 hz0 hz1 hz2 rfl (by omega) (.slice B2 (l0.length + l1.length) d2) (l0.length + l1.length) ((l0 ++ l1).map bv) rfl hf2.own _ l2.length (l2.map bv) rfl (h2.old hf2.mod) (bv_one _) (l0.length + l1.length + l2.length) ((l0 ++ l1 ++ l2).map bv) (by simp) (by simp) (by simp [maxLen]; omega) (by simp; omega) ?_; intro B3 d3 u3 ho3 hg3 hat3)
  have hf3 := hf2.next ho3 hg3 hat3
  clear ho3 hg3 hat3 hc3
  have hc4 := hb.cells_old hf3.mod
  rw [rounds_succ]
  go_wp2_with (at_builtin; refine wpList_app rfl (.tmp 31) (.tmp 32) _ rfl 5 i0 _ 1 1 Try.underlying22 hi0 hz0 hz1 hz2 rfl (by omega) (.slice B3 (l0.length + l1.length + l2.length) d3) (l0.length + l1.length + l2.length) ((l0 ++ l1 ++ l2).map bv) rfl hf3.own _ l3.length (l3.map bv) rfl (h3.old hf3.mod) (bv_one _) (l0.length + l1.length + l2.length + l3.length) ((l0 ++ l1 ++ l2 ++ l3).map bv) (by simp) (by simp) (by simp [maxLen]; omega) (by simp; omega) ?_; intro B4 d4 u4 ho4 hg4 hat4)
  have hf4 := hf3.next ho4 hg4 hat4
  clear ho4 hg4 hat4 hc4
  rw [rounds_succ]
  go_wp2_with (fail)
  exact hf4


def frameBytes (k f s : Int) (l : List UInt8) : List UInt8 := be 3 l.length ++ [UInt8.ofNat k.toNat, UInt8.ofNat f.toNat] ++ be 4 s.toNat ++ l

theorem encode_ok (kind flags stream : Int) (v : Value) (l : List UInt8) (w : World) (R : Ending → World → Prop) (hk : 0 ≤ kind ∧ kind ≤ 255) (hf : 0 ≤ flags ∧ flags ≤ 255)
    (hs : 0 ≤ stream ∧ stream ≤ 2147483647) (hv : Bytes w v l) (hl : l.length ≤ 1024)
    (h : ∀ A c w', Fresh 5 1 w w' (.slice A (9 + l.length) c) (9 + l.length) ((frameBytes kind flags stream l).map bv) → R (.returned (.tuple #[.slice A (9 + l.length) c, .nilIface])) w') :
    Calls Try.prog 8 #[.agg #[.int .i64 kind, .int .i64 flags, .int .i64 stream, v]] w R := by
  obtain ⟨A, c, rfl, hc, hcm⟩ := hv.form
  obtain ⟨hk0, hk1⟩ := hk
  obtain ⟨hg0, hg1⟩ := hf
  obtain ⟨hs0, hs1⟩ := hs
  go_enter Try.func8, Try.ntmps8
  go_wp2_with (fail)
  refine big4 _ _ _ hs0 hs1 ?_
  intro A1 c1 w1 hf1
  have hb := Blk.new w 30 #[Value.int .i64 kind, .int .i64 flags, .int .i64 stream, .slice A l.length c]
  have hb1 := hb.old hf1.mod
  have hc1 := hb1.cell
  go_wp2_with (go_at_call 17; refine octet_yes _ _ _ (by omega) (by omega) ?_)
  refine big3 _ _ _ (by omega) (by omega) ?_
  intro A2 c2 w2 hf2
  have hb2 := hb1.old hf2.mod
  have hc2 := hb2.cell
  clear hc1
  have hz2 := hb2.lt
  go_wp2_with (fail)
  have M1 := ((Mod.refl None' w).alloc (.cells #[Value.int .i64 kind, .int .i64 flags, .int .i64 stream, .slice A l.length c] 30)).then hf1.mod
  have M2 := M1.then hf2.mod
  refine concat4 _ _ _ _ (be 3 l.length) [UInt8.ofNat kind.toNat, UInt8.ofNat flags.toNat] (be 4 stream.toNat) l _ _ _ _ (Blk.at (by simp)) ?_ ?_ ?_ ?_ ?_ ?_
  · exact Bytes.of_row ((hf2.row.alloc _).alloc _) (by simp [be_length])
  · exact Bytes.two (toNat_byte _ hk0 hk1) (toNat_byte _ hg0 hg1) ((Blk.new _ _ _).alloc _) (Nat.le_refl _) (by simp [maxLen])
  · exact Bytes.of_row (((hf1.row.old hf2.mod).alloc _).alloc _) (by simp [be_length])
  · exact Row.alloc (Row.alloc (hv.old M2) _) _
  · simp [be_length]; omega
  · intro A' c' w' hf
    go_wp2_with (fail)
    exact (hf.after ((M2.alloc _).alloc _)).cast (by simp [be_length]) rfl
theorem encode_range (kind flags stream : Int) (v : Value) (w : World) (R : Ending → World → Prop) (hk : kind < 0 ∨ 255 < kind ∨ flags < 0 ∨ 255 < flags ∨ stream < 0 ∨ 2147483647 < stream)
    (h : ∀ w', Mod None' w w' → R (.returned (.tuple #[.slice none 0 0, .iface 61 (.int .i64 1)])) w') :
    Calls Try.prog 8 #[.agg #[.int .i64 kind, .int .i64 flags, .int .i64 stream, v]] w R := by
  have hb := Blk.new w 30 #[Value.int .i64 kind, .int .i64 flags, .int .i64 stream, v]
  have m0 := (Mod.refl None' w).alloc (.cells #[Value.int .i64 kind, .int .i64 flags, .int .i64 stream, v] 30)
  by_cases hs : 0 ≤ stream ∧ stream ≤ 2147483647
  · obtain ⟨hs0, hs1⟩ := hs
    go_enter Try.func8, Try.ntmps8
    go_wp2_with (fail)
    refine big4 _ _ _ hs0 hs1 ?_
    intro A1 c1 w1 hf1
    have hb1 := hb.old hf1.mod
    have hc1 := hb1.cell
    by_cases hk1 : 0 ≤ kind ∧ kind ≤ 255
    · go_wp2_with (fail)
      refine octet_yes _ _ _ (by omega) (by omega) ?_
      go_wp2_with (fail)
      refine octet_no _ _ _ (by omega) ?_
      go_wp2_with (fail)
      exact m0.then hf1.mod
    · go_wp2_with (fail)
      refine octet_no _ _ _ (by omega) ?_
      go_wp2_with (fail)
      exact m0.then hf1.mod
  · go_enter Try.func8, Try.ntmps8
    go_wp2_with (fail)
    refine big4_no _ _ _ (by omega) ?_
    by_cases hk1 : 0 ≤ kind ∧ kind ≤ 255
    · go_wp2_with (fail)
      refine octet_yes _ _ _ (by omega) (by omega) ?_
      by_cases hf1 : 0 ≤ flags ∧ flags ≤ 255
      · go_wp2_with (fail)
        refine octet_yes _ _ _ (by omega) (by omega) ?_
        go_wp2_with (fail)
        exact m0
      · go_wp2_with (fail)
        refine octet_no _ _ _ (by omega) ?_
        go_wp2_with (fail)
        exact m0
    · go_wp2_with (fail)
      refine octet_no _ _ _ (by omega) ?_
      go_wp2_with (fail)
      exact m0
end Go.Proofs.Ytnoolamgbmnmfaa
