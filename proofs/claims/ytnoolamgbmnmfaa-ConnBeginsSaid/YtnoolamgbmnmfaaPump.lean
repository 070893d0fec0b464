/- pump with nothing that waits; settings without a body. -/
import Derived.Test.YtnoolamgbmnmfaaSay
import Derived.Test.YtnoolamgbmnmfaaCheck
import Derived.Deep.RegionHeld3
namespace Go.Proofs.Ytnoolamgbmnmfaa
open Go Go.RowKit
set_option maxRecDepth 100000

theorem cloneInt_nil (w : World) (R : Ending → World → Prop) (h : R (.returned (.slice none 0 0)) w) :
    Calls Try.prog 64 #[.slice none 0 0] w R := by
  have he := fun (w : World) A n c => Lib.run_eql_slice_nil (P := Try.prog) w 52 3 A n c 0 0 Try.underlying52
  go_enter Try.func64, Try.ntmps64
  go_wp2_with (fail)
  exact h
theorem indexFunc_nil (f : Value) (w : World) (R : Ending → World → Prop) (h : R (.returned (.int .i64 (-1))) w) :
    Calls Try.prog 71 #[.slice none 0 0, f] w R := by
  go_enter Try.func71, Try.ntmps71
  go_wp2_with (fail)
  refine wp_loop_rounds 1 ?_
  rw [rounds_succ]
  go_wp2_with (fail)
  exact h
theorem deleteFunc_nil (f : Value) (w : World) (R : Ending → World → Prop) (h : R (.returned (.slice none 0 0)) w) :
    Calls Try.prog 61 #[.slice none 0 0, f] w R := by
  go_enter Try.func61, Try.ntmps61
  go_wp2_with (go_at_call 71; refine indexFunc_nil _ _ _ ?_)
  exact h
set_option maxHeartbeats 1000000 in
theorem pump_nil (cb : Nat) (cs : Array Value) (w : World) (R : Ending → World → Prop) (hb : Blk w cb 55 cs) (h3 : cs[3]? = some (.slice none 0 0))
    (h : ∀ w', Blk w' cb 55 (cs.setIfInBounds 3 (.slice none 0 0)) → Mod (fun k => k = cb) w w' → R (.returned (.tuple #[])) w') :
    Calls Try.prog 52 #[.pointer (some ⟨cb, 0, none⟩)] w R := by
  have e3 := cell_of_get hb h3
  have f3 := hb.frozen
  have hz := hb.lt
  clear h3
  go_enter Try.func52, Try.ntmps52
  go_wp2_with (go_at_call 64; refine cloneInt_nil _ _ ?_)
  refine wp_loop_rounds 1 ?_
  rw [rounds_succ]
  go_wp2_with (fail)
  have n1 : ¬ cb = w.heap.size := by omega
  have n2 : ¬ w.heap.size = cb := by omega
  have ks : ((w.setCell ⟨cb, 3, none⟩ (.slice none 0 0)).alloc (.cells #[.pointer (some ⟨cb, 0, none⟩)] 23)).drew.cell? ⟨cb, 3, none⟩ = some (.slice none 0 0) := by
    have k1 := World.cell?_setCell_same' w ⟨cb, 3, none⟩ (.slice none 0 0) (by rw [e3]; rfl)
    exact (World.cell?_alloc_lt (w.setCell ⟨cb, 3, none⟩ (.slice none 0 0)) _ ⟨cb, 3, none⟩ (by simpa using hz)).trans k1
  have kz : ((w.setCell ⟨cb, 3, none⟩ (.slice none 0 0)).alloc (.cells #[.pointer (some ⟨cb, 0, none⟩)] 23)).drew.cell? ⟨w.heap.size, 0, none⟩ = some (.pointer (some ⟨cb, 0, none⟩)) := by
    have k1 := (Blk.new (w.setCell ⟨cb, 3, none⟩ (.slice none 0 0)) 23 #[.pointer (some ⟨cb, 0, none⟩)]).drew.cell 0
    rw [World.size_setCell] at k1
    exact k1
  go_region_held3 (fun w' => w'.cell? ⟨w.heap.size, 0, none⟩ = some (.pointer (some ⟨cb, 0, none⟩)) ∧ w'.cell? ⟨cb, 3, none⟩ = some (.slice none 0 0)) (first | go_keep | exact ⟨kz, ks⟩)
    (first | (go_at_call 61; refine deleteFunc_nil _ _ _ ?_))
  all_goals
    go_end0
    refine h _ ?_ ?_
    · exact Blk.drew ((hb.set_ 3 _).alloc _)
    · exact ((Mod.setCell (F := fun k => k = cb) (Mod.refl _ _) (.inl rfl) _).alloc _).drew
end Go.Proofs.Ytnoolamgbmnmfaa
