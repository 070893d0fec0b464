/- hear at the frames that are right. -/
import Derived.Test.YtnoolamgbmnmfaaSettings
namespace Go.Proofs.Ytnoolamgbmnmfaa
open Go Go.RowKit
set_option maxRecDepth 100000

theorem hear_set (cb : Nat) (cs : Array Value) (ov : Value) (lo : List UInt8) (v : Value) (b : Bool) (w : World) (R : Ending → World → Prop)
    (hb : Blk w cb 55 cs) (h3 : cs[3]? = some (.slice none 0 0)) (h5 : cs[5]? = some ov) (h10 : cs[10]? = some (.bool b)) (h12 : cs[12]? = some (.pointer none))
    (ho : w.ownsRow 0 5 1 ov lo.length (lo.map bv)) (hlo : lo.length ≤ 100000000) (hv : Bytes w v [])
    (h : ∀ A c w', Blk w' cb 55 (((cs.setIfInBounds 10 (.bool true)).setIfInBounds 5 (.slice A (lo.length + 9) c)).setIfInBounds 3 (.slice none 0 0)) →
      w'.ownsRow 0 5 1 (.slice A (lo.length + 9) c) (lo.length + 9) ((lo ++ frameBytes 4 1 0 []).map bv) →
      Mod (fun k => k = cb ∨ ov.ownBlock = some k) w w' → (∀ g, (Value.slice A (lo.length + 9) c).ownBlock = some g → ov.ownBlock = some g ∨ w.heap.size ≤ g) → R (.returned (.tuple #[])) w') :
    Calls Try.prog 20 #[.pointer (some ⟨cb, 0, none⟩), .agg #[.int .i64 4, .int .i64 0, .int .i64 0, v]] w R := by
  obtain ⟨A, c, rfl, _, _⟩ := hv.form
  have hne := own_blk_ne ho hb (by decide)
  have hcb := hb.lt
  have e12 := cell_of_get hb h12
  have e10 := cell_of_get hb h10
  have H3 := Lib.hid h3
  have H5 := Lib.hid h5
  have H10 := Lib.hid h10
  have H12 := Lib.hid h12
  clear h3 h5 h10 h12
  have hbox := Blk.new w 30 #[.int .i64 4, .int .i64 0, .int .i64 0, .slice A 0 c]
  have m0 := (Mod.refl None' w).alloc (.cells #[.int .i64 4, .int .i64 0, .int .i64 0, .slice A 0 c] 30)
  have hbit : bits BinOp.and IntKind.i64 0 1 = 0 := by decide
  cases b
  all_goals
   go_enter Try.func20, Try.ntmps20
   go_wp2_with (fail)
   go_quiet (fail)
   go_wp2_with (fail)
   refine check_set0 _ _ _ _ (by exact Row.drewN (Row.alloc hv _) _) ?_
   intro w1 hm1
   have hm01 := (m0.drewN nq).then hm1
   have hbox1 := (hbox.drewN nq).old hm1
   have hb1 := ((hb.old m0).drewN nq).old hm1
   have ho1 := own_keep ho hm01 (fun _ _ f => f)
   have hc1 := hbox1.cell
   have hz1 := hbox1.lt
   have f10 := cell_of_get hb1 H10.out
   have f12 := cell_of_get hb1 H12.out
   have ff := hb1.frozen
   have n1 : ¬ w.heap.size = cb := by omega
   have n2 : ¬ cb = w.heap.size := by omega
   go_wp2_with (fail)
   have m2 : Mod (fun k => k = cb) w1 (w1.setCell ⟨cb, 10, none⟩ (.bool true)) := Mod.setCell (F := fun k => k = cb) (Mod.refl _ _) (.inl rfl) _
   refine settings0 cb _ ov lo A c _ _ (hb1.set_ 10 _) ?_ ?_ (own_keep ho1 m2 (fun g hg e => hne g hg e)) hlo ?_
   · rw [Array.getElem?_setIfInBounds_ne (by decide)]; exact H3.out
   · rw [Array.getElem?_setIfInBounds_ne (by decide)]; exact H5.out
   intro A3 c3 w3 hb3 ho3 hm3 hat3
   go_wp2_with (fail)
   go_end0
   refine h A3 c3 w3 hb3 ho3 ?_ ?_
   · exact ((hm01.any (fun k => k = cb ∨ ov.ownBlock = some k)).trans m2 (fun g e _ => .inl e)).trans hm3 (fun g e _ => e)
   · intro g hg
     have hs := hm01.size
     rcases hat3 g hg with h1 | h1
     · exact .inl h1
     · exact .inr (by simp only [World.size_setCell] at h1; omega)

theorem hear_ping (cb : Nat) (cs : Array Value) (ov : Value) (lo : List UInt8) (v : Value) (l : List UInt8) (w : World) (R : Ending → World → Prop)
    (hb : Blk w cb 55 cs) (h10 : cs[10]? = some (.bool true)) (h12 : cs[12]? = some (.pointer none)) (h5 : cs[5]? = some ov) (ho : w.ownsRow 0 5 1 ov lo.length (lo.map bv)) (hlo : lo.length ≤ 100000000) (hv : Bytes w v l) (hl : l.length = 8) (hvF : ∀ g, v.ownBlock = some g → g ≠ cb)
    (h : ∀ A c w', Blk w' cb 55 ((cs.setIfInBounds 10 (.bool true)).setIfInBounds 5 (.slice A (lo.length + (9 + l.length)) c)) →
      w'.ownsRow 0 5 1 (.slice A (lo.length + (9 + l.length)) c) (lo.length + (9 + l.length)) ((lo ++ frameBytes 5 1 0 l).map bv) →
      Mod (fun k => k = cb ∨ ov.ownBlock = some k) w w' → (∀ g, (Value.slice A (lo.length + (9 + l.length)) c).ownBlock = some g → ov.ownBlock = some g ∨ w.heap.size ≤ g) → R (.returned (.tuple #[])) w') :
    Calls Try.prog 20 #[.pointer (some ⟨cb, 0, none⟩), .agg #[.int .i64 5, .int .i64 0, .int .i64 0, v]] w R := by
  obtain ⟨A, c, rfl, _, _⟩ := hv.form
  have hne := own_blk_ne ho hb (by decide)
  have H5 := Lib.hid h5
  clear h5
  obtain ⟨n, hn⟩ : ∃ n, n = l.length := ⟨_, rfl⟩
  rw [← hn] at hv hvF ⊢
  have HN := Lib.hid hn
  have HL := Lib.hid hl
  clear hn hl
  have hcb := hb.lt
  have e12 := cell_of_get hb h12
  have e10 := cell_of_get hb h10
  have H10 := Lib.hid h10
  have H12 := Lib.hid h12
  clear h10 h12
  have hbox := Blk.new w 30 #[.int .i64 5, .int .i64 0, .int .i64 0, .slice A n c]
  have m0 := (Mod.refl None' w).alloc (.cells #[.int .i64 5, .int .i64 0, .int .i64 0, .slice A n c] 30)
  have hbit : bits BinOp.and IntKind.i64 0 1 = 0 := by decide
  go_enter Try.func20, Try.ntmps20
  go_wp2_with (fail)
  go_quiet (fail)
  go_wp2_with (fail)
  refine check_rest _ l 5 0 0 _ _ (by rw [HN.out] at hv ⊢; exact Row.drewN (Row.alloc hv _) _) (.inl ⟨rfl, HL.out, rfl⟩) ?_
  intro w1 hm1
  have hm01 := (m0.drewN nq).then hm1
  have hbox1 := (hbox.drewN nq).old hm1
  have hb1 := ((hb.old m0).drewN nq).old hm1
  have hc1 := hbox1.cell
  have hz1 := hbox1.lt
  have f10 := cell_of_get hb1 H10.out
  have f12 := cell_of_get hb1 H12.out
  have ff := hb1.frozen
  have n1 : ¬ w.heap.size = cb := by omega
  have n2 : ¬ cb = w.heap.size := by omega
  go_wp2_with (fail)
  have m2 : Mod (fun k => k = cb) w1 (w1.setCell ⟨cb, 10, none⟩ (.bool true)) := Mod.setCell (F := fun k => k = cb) (Mod.refl _ _) (.inl rfl) _
  have ho1 := own_keep ho hm01 (fun _ _ f => f)
  refine say_ok cb _ ov lo 5 1 0 _ l _ _ (hb1.set_ 10 _) ?_ (own_keep ho1 m2 (fun g hg e => hne g hg e)) ?_ (by omega) (by omega) (by omega) (by rw [HL.out]; omega) hlo ?_
  · rw [Array.getElem?_setIfInBounds_ne (by decide)]; exact H5.out
  · rw [HN.out] at hv hvF ⊢; exact Bytes.mod (Bytes.old hv hm01) m2 (fun g hg e => hvF g hg e)
  intro A3 c3 w3 hb3 ho3 hm3 hat3
  go_wp2_with (fail)
  go_end0
  refine h A3 c3 w3 hb3 ho3 ?_ ?_
  · exact ((hm01.any (fun k => k = cb ∨ ov.ownBlock = some k)).trans m2 (fun g e _ => .inl e)).trans hm3 (fun g e _ => e)
  · intro g hg
    have hs := hm01.size
    rcases hat3 g hg with h1 | h1
    · exact .inl h1
    · exact .inr (by simp only [World.size_setCell] at h1; omega)

theorem hear_other (cb : Nat) (cs : Array Value) (kind flags stream : Int) (v : Value) (l : List UInt8) (w : World) (R : Ending → World → Prop)
    (hb : Blk w cb 55 cs) (h10 : cs[10]? = some (.bool true)) (h12 : cs[12]? = some (.pointer none)) (hv : Bytes w v l) (hk : 7 < kind)
    (h : ∀ w', Blk w' cb 55 (cs.setIfInBounds 10 (.bool true)) → Mod (fun k => k = cb) w w' → R (.returned (.tuple #[])) w') :
    Calls Try.prog 20 #[.pointer (some ⟨cb, 0, none⟩), .agg #[.int .i64 kind, .int .i64 flags, .int .i64 stream, v]] w R := by
  obtain ⟨A, c, rfl, _, _⟩ := hv.form
  obtain ⟨n, hn⟩ : ∃ n, n = l.length := ⟨_, rfl⟩
  rw [← hn] at hv ⊢
  have HN := Lib.hid hn
  clear hn
  have hcb := hb.lt
  have e12 := cell_of_get hb h12
  have e10 := cell_of_get hb h10
  have H10 := Lib.hid h10
  have H12 := Lib.hid h12
  clear h10 h12
  have hbox := Blk.new w 30 #[.int .i64 kind, .int .i64 flags, .int .i64 stream, .slice A n c]
  have m0 := (Mod.refl None' w).alloc (.cells #[.int .i64 kind, .int .i64 flags, .int .i64 stream, .slice A n c] 30)
  have k0 : (kind == 0) = false := beq_eq_false_iff_ne.2 (by omega)
  have k1 : (kind == 1) = false := beq_eq_false_iff_ne.2 (by omega)
  have k2 : (kind == 2) = false := beq_eq_false_iff_ne.2 (by omega)
  have k3 : (kind == 3) = false := beq_eq_false_iff_ne.2 (by omega)
  have k4 : (kind == 4) = false := beq_eq_false_iff_ne.2 (by omega)
  have k5 : (kind == 5) = false := beq_eq_false_iff_ne.2 (by omega)
  have k6 : (kind == 6) = false := beq_eq_false_iff_ne.2 (by omega)
  have k7 : (kind == 7) = false := beq_eq_false_iff_ne.2 (by omega)
  have n4 : (kind != 4) = true := by rw [bne_iff_ne]; omega
  go_enter Try.func20, Try.ntmps20
  go_wp2_with (fail)
  go_quiet (fail)
  go_wp2_with (fail)
  refine check_rest _ l kind flags stream _ _ (by rw [HN.out] at hv ⊢; exact Row.drewN (Row.alloc hv _) _) (.inr (.inr hk)) ?_
  intro w1 hm1
  have hm01 := (m0.drewN nq).then hm1
  have hbox1 := (hbox.drewN nq).old hm1
  have hb1 := ((hb.old m0).drewN nq).old hm1
  have hc1 := hbox1.cell
  have hz1 := hbox1.lt
  have f10 := cell_of_get hb1 H10.out
  have f12 := cell_of_get hb1 H12.out
  have ff := hb1.frozen
  have n1 : ¬ w.heap.size = cb := by omega
  have n2 : ¬ cb = w.heap.size := by omega
  go_wp2_with (fail)
  have m2 : Mod (fun k => k = cb) w1 (w1.setCell ⟨cb, 10, none⟩ (.bool true)) := Mod.setCell (F := fun k => k = cb) (Mod.refl _ _) (.inl rfl) _
  go_end0
  exact h _ (hb1.set_ 10 _) ((hm01.any (fun k => k = cb)).trans m2 (fun g e _ => e))

theorem hear_bye (cb : Nat) (cs : Array Value) (ev : Value) (flags : Int) (v : Value) (b0 b1 b2 b3 b4 b5 b6 b7 : UInt8) (w : World) (R : Ending → World → Prop)
    (hb : Blk w cb 55 cs) (h10 : cs[10]? = some (.bool true)) (h12 : cs[12]? = some (.pointer none)) (h13 : cs[13]? = some ev) (he : w.ownsRow 0 41 6 ev 0 []) (hv : Bytes w v [b0, b1, b2, b3, b4, b5, b6, b7]) (hvF : ∀ g, v.ownBlock = some g → g ≠ cb)
    (h : ∀ A c w', Blk w' cb 55 ((cs.setIfInBounds 10 (.bool true)).setIfInBounds 13 (.slice A 1 c)) →
      w'.ownsRow 0 41 6 (.slice A 1 c) 1 [.int .i64 5, .int .i64 0, .int .i64 (unbe [b4, b5, b6, b7]), .slice none 0 0, .slice none 0 0, .bool false] →
      Mod (fun k => k = cb ∨ ev.ownBlock = some k) w w' → (∀ g, (Value.slice A 1 c).ownBlock = some g → ev.ownBlock = some g ∨ w.heap.size ≤ g) → R (.returned (.tuple #[])) w') :
    Calls Try.prog 20 #[.pointer (some ⟨cb, 0, none⟩), .agg #[.int .i64 6, .int .i64 flags, .int .i64 0, v]] w R := by
  obtain ⟨A, c, rfl, hc8, _⟩ := hv.form
  have hc8' : 8 ≤ c := hc8
  have hne := own_blk_ne he hb (by decide)
  have H13 := Lib.hid h13
  clear h13 hc8
  have hv8 : Row w (.slice A 8 c) 8 1 ([b0, b1, b2, b3, b4, b5, b6, b7].map bv) := hv
  have hcb := hb.lt
  have e12 := cell_of_get hb h12
  have e10 := cell_of_get hb h10
  have H10 := Lib.hid h10
  have H12 := Lib.hid h12
  clear h10 h12
  have hbox := Blk.new w 30 #[.int .i64 6, .int .i64 flags, .int .i64 0, .slice A 8 c]
  have m0 := (Mod.refl None' w).alloc (.cells #[.int .i64 6, .int .i64 flags, .int .i64 0, .slice A 8 c] 30)
  go_enter Try.func20, Try.ntmps20
  go_wp2_with (fail)
  go_quiet (fail)
  go_wp2_with (fail)
  refine check_rest _ [b0, b1, b2, b3, b4, b5, b6, b7] 6 flags 0 _ _ (by exact Row.drewN (Row.alloc hv _) _) (.inr (.inl ⟨rfl, rfl, rfl⟩)) ?_
  intro w1 hm1
  have hm01 := (m0.drewN nq).then hm1
  have hbox1 := (hbox.drewN nq).old hm1
  have hb1 := ((hb.old m0).drewN nq).old hm1
  have hc1 := hbox1.cell
  have hz1 := hbox1.lt
  have f10 := cell_of_get hb1 H10.out
  have f12 := cell_of_get hb1 H12.out
  have ff := hb1.frozen
  have n1 : ¬ w.heap.size = cb := by omega
  have n2 : ¬ cb = w.heap.size := by omega
  go_wp2_with (fail)
  have m2 : Mod (fun k => k = cb) w1 (w1.setCell ⟨cb, 10, none⟩ (.bool true)) := Mod.setCell (F := fun k => k = cb) (Mod.refl _ _) (.inl rfl) _
  have hw4 : Bytes (w1.setCell ⟨cb, 10, none⟩ (.bool true)) (.slice (A.map (fun x => { block := x.block, off := x.off + 4 })) 4 (c - 4)) [b4, b5, b6, b7] := by
    have h8 := Row.cut (i := 4) hv8 (by omega)
    rw [if_neg (by omega)] at h8
    have h8' := Row.mod (Row.old h8 hm01) m2 (fun g hg e => hvF g (by cases A with | none => simp [Value.ownBlock] at hg | some a => simpa [Value.ownBlock, Addr.add] using hg) e)
    refine Bytes.of_row (n := 4) ?_ rfl
    simpa [Addr.add] using h8'
  refine word_any _ b4 b5 b6 b7 [] _ _ hw4 ?_
  intro w2 hm2
  have hb2 := (hb1.set_ 10 (.bool true)).old hm2
  have he2 := own_keep (own_keep (own_keep he hm01 (fun _ _ f => f)) m2 (fun g hg e => hne g hg e)) hm2 (fun _ _ f => f)
  go_wp2_with (fail)
  refine event_any cb _ ev 0 [] 5 0 _ _ _ false w2 _ ⟨none, 0, 0, rfl⟩ ⟨none, 0, 0, rfl⟩ hb2 (by rw [Array.getElem?_setIfInBounds_ne (by decide)]; exact H13.out) he2 (by omega) ?_
  intro A3 c3 w3 hb3 he3 hm3 hat3
  go_wp2_with (fail)
  go_end0
  refine h A3 c3 w3 hb3 he3 ?_ ?_
  · exact (((hm01.any (fun k => k = cb ∨ ev.ownBlock = some k)).trans m2 (fun g e _ => .inl e)).trans hm2 (fun g e _ => e.elim)).trans hm3 (fun g e _ => e)
  · intro g hg
    have hs := hm01.size
    have hs2 := hm2.size
    rcases hat3 g hg with h1 | h1
    · exact .inl h1
    · exact .inr (by simp only [World.size_setCell] at hs2; omega)

end Go.Proofs.Ytnoolamgbmnmfaa
