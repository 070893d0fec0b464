/- settings without a body: answered by Set. -/
import Derived.Test.YtnoolamgbmnmfaaPump
namespace Go.Proofs.Ytnoolamgbmnmfaa
open Go Go.RowKit
set_option maxRecDepth 100000

theorem settings0 (cb : Nat) (cs : Array Value) (ov : Value) (lo : List UInt8) (A : Option Addr) (c : Nat) (w : World) (R : Ending → World → Prop)
    (hb : Blk w cb 55 cs) (h3 : cs[3]? = some (.slice none 0 0)) (h5 : cs[5]? = some ov) (ho : w.ownsRow 0 5 1 ov lo.length (lo.map bv)) (hlo : lo.length ≤ 100000000)
    (h : ∀ A c w', Blk w' cb 55 ((cs.setIfInBounds 5 (.slice A (lo.length + 9) c)).setIfInBounds 3 (.slice none 0 0)) →
      w'.ownsRow 0 5 1 (.slice A (lo.length + 9) c) (lo.length + 9) ((lo ++ frameBytes 4 1 0 []).map bv) →
      Mod (fun k => k = cb ∨ ov.ownBlock = some k) w w' → (∀ g, (Value.slice A (lo.length + 9) c).ownBlock = some g → ov.ownBlock = some g ∨ w.heap.size ≤ g) → R (.returned (.tuple #[])) w') :
    Calls Try.prog 34 #[.pointer (some ⟨cb, 0, none⟩), .slice A 0 c] w R := by
  have hne := own_blk_ne ho hb (by decide)
  refine calls_of_marks Try.func34 (by as_aux_lemma => rfl) ?_
  simp only [Try.ntmps34, List.size_toArray, List.length_cons, List.length_nil, Nat.reduceAdd, Nat.reduceSub, Array.replicate_succ, Array.replicate_zero, List.push_toArray, List.append_toArray, List.nil_append, List.cons_append]
  have H3 := Lib.hid h3
  have H5 := Lib.hid h5
  clear h3 h5
  have hbox := Blk.new w 23 #[.pointer (some ⟨cb, 0, none⟩)]
  have m0 := (Mod.refl None' w).alloc (.cells #[.pointer (some ⟨cb, 0, none⟩)] 23)
  go_wp2_with (go_at_call 40; refine chunk_makes _ _ _ _ _ ?_)
  refine wp_rangeFunc_zero (gf := 55) (lb := #[.pointer (some ⟨w.heap.size + 1, 0, none⟩), .pointer (some ⟨w.heap.size + 1 + 1, 0, none⟩)]) rfl (enters_of Try.func55 (by kernel_rfl) rfl) ?_
  intro y w2 hm2 _
  have hc3 : w2.cell? ⟨w.heap.size + 1, 0, none⟩ = some (.slice A 0 c) := ((((Blk.at (by simp) : Blk ((w.alloc (.cells #[.pointer (some ⟨cb, 0, none⟩)] 23)).alloc (.cells #[.slice A 0 c] 22)) (w.heap.size + 1) 22 #[.slice A 0 c]).alloc (.cells #[.int .i64 6] 3)).old hm2).cell 0)
  refine ⟨fun e w' => e = .returned (.tuple #[]) ∧ w' = w2, chunk_zero y _ _ A c w2 _ hc3 ⟨rfl, rfl⟩, ?_⟩
  rintro e w3 ⟨rfl, rfl⟩
  refine ⟨⟨_, rfl⟩, Mod.refl _ _, ?_⟩
  intro D w4 hm4 hD hk
  have hm14 : Mod None' (w.alloc (.cells #[.pointer (some ⟨cb, 0, none⟩)] 23)) w4 := (((Mod.refl None' _).alloc (.cells #[.slice A 0 c] 22)).alloc (.cells #[.int .i64 6] 3)).then hm4
  have hbox4 := hbox.old hm14
  have hb4 := (hb.old m0).old hm14
  have ho4 := own_keep ho (m0.then hm14) (fun _ _ f => f)
  have hc4 := hbox4.cell
  simp only [World.size_alloc] at hD
  clear hc3
  go_wp2_with (fail)
  refine say_ok cb cs ov lo 4 1 0 _ [] w4 _ hb4 H5.out ho4 (Bytes.nil_ _) (by omega) (by omega) (by omega) (by simp) hlo ?_
  intro A5 c5 w5 hb5 ho5 hg5 hat5
  simp only [List.length_nil, Nat.add_zero] at hb5 ho5 hat5
  have hlt := own_lt ho
  have hcb := hb.lt
  have hnF : ∀ g, w.heap.size ≤ g → ¬ (g = cb ∨ ov.ownBlock = some g) := fun g hg hF => by
    rcases hF with hF | hF
    · omega
    · have := hlt g hF; omega
  have hbox5 := hbox4.mod hg5 (hnF _ (Nat.le_refl _))
  have hDlt : D < w4.heap.size := (Array.getElem?_eq_some_iff.1 hk).1
  have hk5 : w5.heap[D]? = some (.deferred (some [])) := (hg5.block D hDlt (hnF _ (by omega))).trans hk
  have hc5 := hbox5.cell
  clear hc4
  go_wp2_with (fail)
  refine pump_nil cb _ w5 _ hb5 (by rw [Array.getElem?_setIfInBounds_ne (by decide)]; exact H3.out) ?_
  intro w6 hb6 hm6
  have hk6 : w6.heap[D]? = some (.deferred (some [])) := (hm6.block D (Array.getElem?_eq_some_iff.1 hk5).1 (fun e => by omega)).trans hk5
  have hn5 : ∀ g, (Value.slice A5 (lo.length + 9) c5).ownBlock = some g → g ≠ cb := own_blk_ne ho5 hb5 (by decide)
  have ho6 := own_keep ho5 hm6 (fun g hg e => hn5 g hg e)
  clear hc5
  go_wp2_with (fail)
  have hD5 : ∀ g, (Value.slice A5 (lo.length + 9) c5).ownBlock = some g → g ≠ D := fun g hg e => by
    subst e
    rcases ho5.2 with ⟨h1, _⟩ | ⟨g', cap, cur, h1, _, h2, _⟩
    · rw [h1] at hg; simp [Value.ownBlock] at hg
    · rw [h1] at hg
      simp only [Value.ownBlock, Option.some.injEq] at hg
      subst hg
      rw [hk5] at h2
      cases h2
  have hDcb : cb ≠ D := by omega
  have mD : Mod (fun k => k = D) w6 (w6.putObj D (.deferred none)) := Mod.putObj (F := fun k => k = D) (Mod.refl _ _) (.inl rfl) _
  refine postM_end1 (v := .tuple #[]) rfl hk6 (results_none rfl _ _ _) (h A5 c5 _ ?_ ?_ ?_ ?_)
  · exact hb6.mod mD hDcb
  · exact own_keep ho6 mD (fun g hg e => hD5 g hg e)
  · have m4 : Mod (fun k => k = cb ∨ ov.ownBlock = some k) w w4 := (m0.then hm14).any _
    have m5 := m4.trans hg5 (fun b hb' _ => hb')
    have m6 := m5.trans hm6 (fun b hb' _ => .inl hb')
    exact Mod.putObj m6 (.inr (by omega)) _
  · intro g hg
    rcases hat5 g hg with h1 | h1
    · exact .inl h1
    · exact .inr (by have := (m0.then hm14).size; omega)
end Go.Proofs.Ytnoolamgbmnmfaa
