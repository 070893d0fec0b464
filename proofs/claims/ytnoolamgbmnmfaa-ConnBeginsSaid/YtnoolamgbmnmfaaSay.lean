/- The contracts of a connection's small methods: say, Out, Over, event. -/
import Derived.Test.YtnoolamgbmnmfaaFrame
import Derived.Deep.RegionLaw
namespace Go.Proofs.Ytnoolamgbmnmfaa
open Go Go.RowKit
set_option maxRecDepth 100000

theorem say_ok (cb : Nat) (cs : Array Value) (ov : Value) (lo : List UInt8) (kind flags id : Int) (v : Value) (l : List UInt8) (w : World) (R : Ending → World → Prop)
    (hb : Blk w cb 55 cs) (h5 : cs[5]? = some ov) (ho : w.ownsRow 0 5 1 ov lo.length (lo.map bv)) (hv : Bytes w v l) (hk : 0 ≤ kind ∧ kind ≤ 255) (hf : 0 ≤ flags ∧ flags ≤ 255)
    (hs : 0 ≤ id ∧ id ≤ 2147483647) (hl : l.length ≤ 1024) (hlo : lo.length ≤ 100000000)
    (h : ∀ A c w', Blk w' cb 55 (cs.setIfInBounds 5 (.slice A (lo.length + (9 + l.length)) c)) →
      w'.ownsRow 0 5 1 (.slice A (lo.length + (9 + l.length)) c) (lo.length + (9 + l.length)) ((lo ++ frameBytes kind flags id l).map bv) →
      Mod (fun k => k = cb ∨ ov.ownBlock = some k) w w' → (∀ g, (Value.slice A (lo.length + (9 + l.length)) c).ownBlock = some g → ov.ownBlock = some g ∨ w.heap.size ≤ g) → R (.returned (.tuple #[])) w') :
    Calls Try.prog 14 #[.pointer (some ⟨cb, 0, none⟩), .int .i64 kind, .int .i64 flags, .int .i64 id, v] w R := by
  obtain ⟨i0, hi0, hz0, hz1, hz2⟩ := info_parts info_u8
  obtain ⟨A0, c0, rfl, hc0, hm0⟩ := own_form ho
  obtain ⟨A1, c1, rfl, hc1, hm1⟩ := hv.form
  have hne := own_blk_ne ho hb (by decide)
  have hlt := own_lt ho
  go_enter Try.func14, Try.ntmps14
  go_wp2_with (fail)
  refine encode_ok kind flags id _ l _ _ hk hf hs hv hl ?_
  intro A2 c2 w2 hf2
  have hb2 := hb.old hf2.mod
  have ho2 := own_keep ho hf2.mod (fun _ _ f => f)
  have e5 := cell_of_get hb2 h5
  have e5' := hb2.frozen
  have HE := Lib.hid h5
  clear h5
  go_wp2_with (at_builtin; refine wpList_app rfl (.tmp 25) (.tmp 26) _ rfl 5 i0 _ 1 1 Try.underlying22 hi0 hz0 hz1 hz2 rfl (by omega) (.slice A0 lo.length c0) lo.length (lo.map bv) rfl ho2 (.slice A2 (9 + l.length) c2) (9 + l.length) ((frameBytes kind flags id l).map bv) rfl hf2.row (bv_one _) (lo.length + (9 + l.length)) ((lo ++ frameBytes kind flags id l).map bv) rfl (by simp) (by simp only [maxLen]; omega) (by omega) ?_; intro A3 c3 w3 ho3 hg3 hat3; have hb3 := hb2.mod hg3 (fun e => hne _ e rfl); have e3 := cell_of_get hb3 HE.out; have e3' := hb3.frozen)
  go_end0
  obtain ⟨q1, q2, q3, q4⟩ := app_store (i := 5) hf2.mod hb hne ho3 hg3 hat3
  exact h A3 c3 _ q1 q2 q3 q4

theorem out_any (cb : Nat) (cs : Array Value) (A : Option Addr) (n c : Nat) (w : World) (R : Ending → World → Prop)
    (hb : Blk w cb 55 cs) (h5 : cs[5]? = some (.slice A n c))
    (h : ∀ w', Blk w' cb 55 (cs.setIfInBounds 5 (.slice none 0 0)) → Mod (fun k => k = cb) w w' → R (.returned (.slice A n c)) w') :
    Calls Try.prog 6 #[.pointer (some ⟨cb, 0, none⟩)] w R := by
  have e5 := cell_of_get hb h5
  have f5 := hb.frozen
  clear h5
  go_enter Try.func6, Try.ntmps6
  go_wp2_with (fail)
  exact h _ (hb.set_ 5 _) (Mod.setCell (F := fun k => k = cb) (Mod.refl _ _) (.inl rfl) _)

theorem over_any (cb : Nat) (cs : Array Value) (b : Bool) (w : World) (R : Ending → World → Prop)
    (hb : Blk w cb 55 cs) (h11 : cs[11]? = some (.bool b))
    (h : R (.returned (.bool b)) w) :
    Calls Try.prog 7 #[.pointer (some ⟨cb, 0, none⟩)] w R := by
  have e5 := cell_of_get hb h11
  clear h11
  go_enter Try.func7, Try.ntmps7
  go_wp2_with (fail)
  exact h

theorem event_info : (Try.prog.info? 41).map (fun i => (i.zero, i.size, i.bytes)) = some (some (.agg #[.int .i64 0, .int .i64 0, .int .i64 0, .slice none 0 0, .slice none 0 0, .bool false]), 6, 80) := by kernel_rfl

/-- an event, put behind the others -/
theorem event_any (cb : Nat) (cs : Array Value) (ev : Value) (n : Nat) (xs : List Value) (x y z : Int) (u1 u2 : Value) (b : Bool) (w : World) (R : Ending → World → Prop)
    (hu1 : ∃ A n c, u1 = .slice A n c) (hu2 : ∃ A n c, u2 = .slice A n c)
    (hb : Blk w cb 55 cs) (h13 : cs[13]? = some ev) (ho : w.ownsRow 0 41 6 ev n xs) (hn : n ≤ 1000000)
    (h : ∀ A c w', Blk w' cb 55 (cs.setIfInBounds 13 (.slice A (n + 1) c)) →
      w'.ownsRow 0 41 6 (.slice A (n + 1) c) (n + 1) (xs ++ [.int .i64 x, .int .i64 y, .int .i64 z, u1, u2, .bool b]) →
      Mod (fun k => k = cb ∨ ev.ownBlock = some k) w w' → (∀ g, (Value.slice A (n + 1) c).ownBlock = some g → ev.ownBlock = some g ∨ w.heap.size ≤ g) → R (.returned (.tuple #[])) w') :
    Calls Try.prog 32 #[.pointer (some ⟨cb, 0, none⟩), .agg #[.int .i64 x, .int .i64 y, .int .i64 z, u1, u2, .bool b]] w R := by
  obtain ⟨i0, hi0, hz0, hz1, hz2⟩ := info_parts event_info
  obtain ⟨A1, n1, c1, rfl⟩ := hu1
  obtain ⟨A2, n2, c2, rfl⟩ := hu2
  obtain ⟨A0, c0, rfl, hc0, hm0⟩ := own_form ho
  have hne := own_blk_ne ho hb (by decide)
  have e13 := cell_of_get hb h13
  have hlt := hb.lt
  have f13 := hb.frozen
  have H13 := Lib.hid h13
  clear h13
  go_enter Try.func32, Try.ntmps32
  go_wp2_with (fail)
  go_region_law (first
    | (refine step_app rfl (.tmp 8) (.tmp 10) _ rfl 41 i0 _ 6 80 Try.underlying36 hi0 hz0 hz1 hz2 rfl (by omega) (.slice A0 n c0) n xs rfl (by exact own_keep ho (((Mod.refl None' w).alloc _).alloc _).drew (fun _ _ f => f)) _ 1 [.int .i64 x, .int .i64 y, .int .i64 z, .slice A1 n1 c1, .slice A2 n2 c2, .bool b] rfl (by exact Row.of_blk (Blk.drew (Blk.at (by simp))) 1 6 1 rfl (Nat.le_refl _) (by simp [maxLen])) (by simp [Value.oneCell']) (n + 1) _ rfl rfl (by simp only [maxLen]; omega) (by omega) ?_; intro A3 c3 w3 ho3 hg3 hat3; have hb3 := (((hb.alloc (.cells #[.int .i64 x, .int .i64 y, .int .i64 z, .slice A1 n1 c1, .slice A2 n2 c2, .bool b] 41)).alloc (.cells #[.int .i64 x, .int .i64 y, .int .i64 z, .slice A1 n1 c1, .slice A2 n2 c2, .bool b] 41)).drew).mod hg3 (fun e => hne _ e rfl); have e3 := cell_of_get hb3 H13.out; have e3' := hb3.frozen))
  all_goals
    go_end0
    obtain ⟨q1, q2, q3, q4⟩ := app_store (i := 13) ((((Mod.refl None' w).alloc _).alloc _).drew) hb hne ho3 hg3 hat3
    exact h A3 c3 _ q1 q2 q3 q4
end Go.Proofs.Ytnoolamgbmnmfaa
