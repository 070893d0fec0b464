/- conn.New. -/
import Derived.Test.YtnoolamgbmnmfaaSay
namespace Go.Proofs.Ytnoolamgbmnmfaa
open Go Go.RowKit
set_option maxRecDepth 100000

set_option maxHeartbeats 1000000 in
theorem new_any (w : World) (R : Ending → World → Prop)
    (h : ∀ cb c0 c1 c2 A c w', Blk w' cb 55 #[c0, c1, c2, .slice none 0 0, .slice none 0 0, .slice A 9 c, .int .i64 2000, .int .i64 2000, .int .i64 2000, .int .i64 0, .bool false, .bool false, .pointer none, .slice none 0 0] →
      w'.ownsRow 0 5 1 (.slice A 9 c) 9 ((frameBytes 4 0 0 []).map bv) → Mod None' w w' → w.heap.size ≤ cb → (∀ g, (Value.slice A 9 c).ownBlock = some g → w.heap.size ≤ g) → R (.returned (.pointer (some ⟨cb, 0, none⟩))) w') :
    Calls Try.prog 4 #[] w R := by
  have hmm := @run_makeMap Try.prog
  go_enter Try.func4, Try.ntmps4
  go_wp2_with (first | (go_at_call 11; go_in) | (go_at_call 22; go_in) | (go_at_call 37; go_in) | (go_at_call 12; go_in) | (go_at_call 13; go_in) | (go_at_call 23; go_in) | (go_at_call 38; go_in))
  refine say_ok _ _ (.slice none 0 0) [] 4 0 0 _ [] _ _ (Blk.at (by simp)) rfl (World.ownsRow_nil _ _ _ _) (Bytes.nil_ _) (by omega) (by omega) (by omega) (by simp) (by simp) ?_
  intro A c w2 hb2 ho2 hm2 hat2
  go_wp2_with (fail)
  refine h _ _ _ _ A c w2 hb2 ho2 ?_ (by omega) ?_
  · refine ((((((((((((Mod.refl None' w).alloc _).alloc _).alloc _).alloc _).alloc _).alloc _).alloc _).alloc _).alloc _).alloc _).alloc _).trans hm2 ?_
    rintro g (e | e) hlt
    · omega
    · simp [Value.ownBlock] at e
  · intro g hg
    rcases hat2 g hg with e | e
    · simp [Value.ownBlock] at e
    · simp only [World.size_alloc] at e; omega
end Go.Proofs.Ytnoolamgbmnmfaa
