/- tolllaw4.frames of one frame; word. -/
import Derived.Test.YtnoolamgbmnmfaaFeed
namespace Go.Proofs.Ytnoolamgbmnmfaa
open Go Go.RowKit
set_option maxRecDepth 100000

theorem frame_info : (Try.prog.info? 30).map (fun i => (i.zero, i.size, i.bytes)) = some (some (.agg #[.int .i64 0, .int .i64 0, .int .i64 0, .slice none 0 0]), 4, 48) := by kernel_rfl

set_option maxHeartbeats 1000000 in
theorem frames_one (v : Value) (k f s : Int) (l : List UInt8) (w : World) (R : Ending → World → Prop) (hv : Bytes w v (frameBytes k f s l))
    (hk : 0 ≤ k ∧ k ≤ 255) (hf : 0 ≤ f ∧ f ≤ 255) (hs : 0 ≤ s ∧ s ≤ 2147483647) (hl : l.length ≤ 1024)
    (hend : ∀ F c A c' w', w'.ownsRow 0 30 4 (.slice F 1 c) 1 [.int .i64 k, .int .i64 f, .int .i64 s, .slice A l.length c'] → Bytes w' (.slice A l.length c') l → Mod None' w w' →
      (∀ g, (Value.slice F 1 c).ownBlock = some g → w.heap.size ≤ g) → (∀ g, (Value.slice A l.length c').ownBlock = some g → w.heap.size ≤ g) → R (.returned (.tuple #[.slice F 1 c, .bool true])) w') :
    Calls Try.prog 5 #[v] w R := by
  obtain ⟨i0, hi0, hz0, hz1, hz2⟩ := info_parts frame_info
  obtain ⟨A1, c1, rfl, hc1, hm1⟩ := hv.form
  have hvr : Row w (.slice A1 (9 + l.length) c1) (9 + l.length) 1 ((frameBytes k f s l).map bv) := by rw [← frameBytes_length k f s l]; exact hv
  have hvb : Bytes w (.slice A1 (9 + l.length) c1) (frameBytes k f s l ++ []) := by rw [List.append_nil]; exact Bytes.of_row hvr (frameBytes_length k f s l).symm
  rw [frameBytes_length] at hc1 ⊢
  clear hv
  go_enter Try.func5, Try.ntmps5
  go_wp2_with (fail)
  refine wp_loop_rounds 2 ?_
  rw [rounds_succ]
  go_wp2_with (fail)
  refine fread_frame _ k f s l [] _ _ hvb hk hf hs hl ?_
  intro A c' w1 hF1
  go_wp2_with (at_builtin; refine wpList_app rfl (.tmp 24) (.tmp 26) _ rfl 30 i0 _ 4 48 Try.underlying25 hi0 hz0 hz1 hz2 rfl (by omega) (.slice none 0 0) 0 [] rfl (World.ownsRow_nil _ _ _ _) _ 1 [.int .i64 k, .int .i64 f, .int .i64 s, .slice A l.length c'] rfl (by exact Row.of_blk (Blk.at (by simp)) 1 4 1 rfl (Nat.le_refl _) (by simp [maxLen])) (by simp [Value.oneCell']) 1 [.int .i64 k, .int .i64 f, .int .i64 s, .slice A l.length c'] rfl rfl (by simp only [maxLen]; omega) (by omega) ?_; intro A3 c3 w3 ho3 hg3 hat3)
  all_goals
    rw [rounds_succ]
    go_wp2_with (fail)
    have hg3' := hg3.weaken (G := None') (fun b e _ => by simp [Value.ownBlock] at e)
    have ma := ((Mod.refl None' w1).alloc (.cells #[Value.int .i64 k, .int .i64 f, .int .i64 s, .slice A l.length c'] 30)).alloc (.cells #[Value.int .i64 k, .int .i64 f, .int .i64 s, .slice A l.length c'] 30)
    have hs1 := hF1.mod.size
    refine hend A3 c3 A c' w3 ho3 (Bytes.old (Row.of_own hF1.own) (ma.then hg3')) ((hF1.mod.then ma).then hg3') ?_ hF1.new
    intro g hg
    rcases hat3 g hg with e | e
    · simp [Value.ownBlock] at e
    · simp only [World.size_alloc] at e; omega

theorem lword (n : Int) (w : World) (R : Ending → World → Prop) (h1 : 0 ≤ n) (h2 : n ≤ 2147483647)
    (h : ∀ A c w', Fresh 5 1 w w' (.slice A 4 c) 4 ((be 4 n.toNat).map bv) → R (.returned (.slice A 4 c)) w') :
    Calls Try.prog 10 #[.int .i64 n] w R := by
  go_enter Try.func10, Try.ntmps10
  go_wp2_with (go_at_call 16; refine big4 _ _ _ h1 h2 ?_; intro A1 c1 w1 hf1)
  exact hf1
end Go.Proofs.Ytnoolamgbmnmfaa
