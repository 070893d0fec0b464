/- frame.Check at the frames that are right: settings without a body, pings, good-byes, unknown kinds. -/
import Derived.Test.YtnoolamgbmnmfaaRead
import Derived.Test.YtnoolamgbmnmfaaRange
namespace Go.Proofs.Ytnoolamgbmnmfaa
open Go Go.RowKit
set_option maxRecDepth 100000

theorem chunk_zero (y : Value) (p1 p2 : Addr) (A : Option Addr) (c : Nat) (w : World) (R : Ending → World → Prop)
    (h1 : w.cell? p1 = some (.slice A 0 c)) (h : R (.returned (.tuple #[])) w) :
    Calls Try.prog 55 #[y, .pointer (some p1), .pointer (some p2)] w R := by
  go_enter Try.func55, Try.ntmps55
  go_wp2_with (fail)
  refine wp_loop_rounds 1 ?_
  rw [rounds_succ]
  go_wp2_with (fail)
  go_end0
  exact h

theorem chunk_makes (A : Option Addr) (n c : Nat) (w : World) (R : Ending → World → Prop)
    (h : R (.returned (.func (.func 55) #[] #[.pointer (some ⟨w.heap.size, 0, none⟩), .pointer (some ⟨w.heap.size + 1, 0, none⟩)])) ((w.alloc (.cells #[.slice A n c] 22)).alloc (.cells #[.int .i64 6] 3))) :
    Calls Try.prog 40 #[.slice A n c, .int .i64 6] w R := by
  go_enter Try.func40, Try.ntmps40
  go_wp2_with (fail)
  exact h

theorem sizes_yes (v : Value) (l : List UInt8) (kind flags stream : Int) (w : World) (R : Ending → World → Prop) (hv : Bytes w v l)
    (hk : kind = 4 ∧ l = [] ∨ kind = 5 ∧ l.length = 8 ∨ kind = 6 ∧ l.length = 8 ∨ 7 < kind)
    (h : ∀ w', Mod None' w w' → R (.returned (.bool true)) w') :
    Calls Try.prog 39 #[.agg #[.int .i64 kind, .int .i64 flags, .int .i64 stream, v]] w R := by
  obtain ⟨A, c, rfl, hc, hcm⟩ := hv.form
  rcases hk with ⟨rfl, rfl⟩ | ⟨rfl, hl⟩ | ⟨rfl, hl⟩ | hk
  · go_enter Try.func39, Try.ntmps39
    go_wp2_with (fail)
    exact (Mod.refl _ _).alloc _
  · rw [hl]
    go_enter Try.func39, Try.ntmps39
    go_wp2_with (fail)
    exact (Mod.refl _ _).alloc _
  · rw [hl]
    go_enter Try.func39, Try.ntmps39
    go_wp2_with (fail)
    exact (Mod.refl _ _).alloc _
  · have k3 : (kind == 3) = false := beq_eq_false_iff_ne.2 (by omega)
    have k4 : (kind == 4) = false := beq_eq_false_iff_ne.2 (by omega)
    have k5 : (kind == 5) = false := beq_eq_false_iff_ne.2 (by omega)
    have k6 : (kind == 6) = false := beq_eq_false_iff_ne.2 (by omega)
    have k7 : (kind == 7) = false := beq_eq_false_iff_ne.2 (by omega)
    go_enter Try.func39, Try.ntmps39
    go_wp2_with (fail)
    exact (Mod.refl _ _).alloc _

theorem check_rest (v : Value) (l : List UInt8) (kind flags stream : Int) (w : World) (R : Ending → World → Prop) (hv : Bytes w v l)
    (hk : kind = 5 ∧ l.length = 8 ∧ stream = 0 ∨ kind = 6 ∧ l.length = 8 ∧ stream = 0 ∨ 7 < kind)
    (h : ∀ w', Mod None' w w' → R (.returned (.int .i64 0)) w') :
    Calls Try.prog 27 #[.agg #[.int .i64 kind, .int .i64 flags, .int .i64 stream, v]] w R := by
  obtain ⟨A, c, rfl, hc, hcm⟩ := hv.form
  obtain ⟨n, hn⟩ : ∃ n, n = l.length := ⟨_, rfl⟩
  rw [← hn] at hc hv ⊢
  have hs : ∀ (w1 : World) R', Mod None' w w1 → (∀ w', Mod None' w1 w' → R' (.returned (.bool true)) w') → Calls Try.prog 39 #[.agg #[.int .i64 kind, .int .i64 flags, .int .i64 stream, .slice A n c]] w1 R' := fun w1 R' hm h' =>
    sizes_yes _ l kind flags stream w1 R' (hv.old hm) (by omega) h'
  have hb : Blk ((w.alloc (.cells #[.int .i64 kind, .int .i64 flags, .int .i64 stream, .slice A n c] 30)).alloc (.cells #[.int .i64 0] 3)) w.heap.size 30 #[.int .i64 kind, .int .i64 flags, .int .i64 stream, .slice A n c] := (Blk.new _ _ _).alloc _
  have hr : Blk ((w.alloc (.cells #[.int .i64 kind, .int .i64 flags, .int .i64 stream, .slice A n c] 30)).alloc (.cells #[.int .i64 0] 3)) (w.heap.size + 1) 3 #[.int .i64 0] := Blk.at (by simp)
  have HS := Lib.hid hs
  clear hs
  have m0 := ((Mod.refl None' w).alloc (.cells #[.int .i64 kind, .int .i64 flags, .int .i64 stream, .slice A n c] 30)).alloc (.cells #[.int .i64 0] 3)
  have HN := Lib.hid hn
  have HK := Lib.hid hk
  have k0 : (kind == 0) = false := beq_eq_false_iff_ne.2 (by omega)
  have k1 : (kind == 1) = false := beq_eq_false_iff_ne.2 (by omega)
  have k2 : (kind == 2) = false := beq_eq_false_iff_ne.2 (by omega)
  have k3 : (kind == 3) = false := beq_eq_false_iff_ne.2 (by omega)
  have k4 : (kind == 4) = false := beq_eq_false_iff_ne.2 (by omega)
  have k7 : (kind == 7) = false := beq_eq_false_iff_ne.2 (by omega)
  have n4 : (kind != 4) = true := by rw [bne_iff_ne]; omega
  clear hn hc hcm
  rcases hk with ⟨rfl, _, rfl⟩ | ⟨rfl, _, rfl⟩ | hk
  · clear k0 k1 k2 k3 k4 k7 n4
    refine calls_of_marks Try.func27 (by as_aux_lemma => rfl) ?_
    simp only [Try.ntmps27, List.size_toArray, List.length_cons, List.length_nil, Nat.reduceAdd, Nat.reduceSub, Array.replicate_succ, Array.replicate_zero, List.push_toArray, List.append_toArray, List.nil_append, List.cons_append]
    go_wp2_with (go_at_call 39; refine HS.out _ _ m0 ?_; intro w1 hm1; have hc1 := (hb.old hm1).cell; have hc2 := (hr.old hm1).cell; have hf2 := (hr.old hm1).frozen)
    refine postM_ret0 (v := .int .i64 0) (by simp [results, Try.results27, go_sem, hc2]) rfl (h _ ?_)
    exact (m0.then hm1).setCell (.inr (by simp)) _
  · clear k0 k1 k2 k3 k4 k7 n4
    refine calls_of_marks Try.func27 (by as_aux_lemma => rfl) ?_
    simp only [Try.ntmps27, List.size_toArray, List.length_cons, List.length_nil, Nat.reduceAdd, Nat.reduceSub, Array.replicate_succ, Array.replicate_zero, List.push_toArray, List.append_toArray, List.nil_append, List.cons_append]
    go_wp2_with (go_at_call 39; refine HS.out _ _ m0 ?_; intro w1 hm1; have hc1 := (hb.old hm1).cell; have hc2 := (hr.old hm1).cell; have hf2 := (hr.old hm1).frozen)
    refine postM_ret0 (v := .int .i64 0) (by simp [results, Try.results27, go_sem, hc2]) rfl (h _ ?_)
    exact (m0.then hm1).setCell (.inr (by simp)) _
  · have k5 : (kind == 5) = false := beq_eq_false_iff_ne.2 (by omega)
    have k6 : (kind == 6) = false := beq_eq_false_iff_ne.2 (by omega)
    refine calls_of_marks Try.func27 (by as_aux_lemma => rfl) ?_
    simp only [Try.ntmps27, List.size_toArray, List.length_cons, List.length_nil, Nat.reduceAdd, Nat.reduceSub, Array.replicate_succ, Array.replicate_zero, List.push_toArray, List.append_toArray, List.nil_append, List.cons_append]
    go_wp2_with (go_at_call 39; refine HS.out _ _ m0 ?_; intro w1 hm1; have hc1 := (hb.old hm1).cell; have hc2 := (hr.old hm1).cell; have hf2 := (hr.old hm1).frozen)
    refine postM_ret0 (v := .int .i64 0) (by simp [results, Try.results27, go_sem, hc2]) rfl (h _ ?_)
    exact (m0.then hm1).setCell (.inr (by simp)) _

theorem check_set0 (v : Value) (flags : Int) (w : World) (R : Ending → World → Prop) (hv : Bytes w v [])
    (h : ∀ w', Mod None' w w' → R (.returned (.int .i64 0)) w') :
    Calls Try.prog 27 #[.agg #[.int .i64 4, .int .i64 flags, .int .i64 0, v]] w R := by
  obtain ⟨A, c, rfl, hc, hcm⟩ := hv.form
  have hs : ∀ (w1 : World) R', Mod None' w w1 → (∀ w', Mod None' w1 w' → R' (.returned (.bool true)) w') → Calls Try.prog 39 #[.agg #[.int .i64 4, .int .i64 flags, .int .i64 0, .slice A 0 c]] w1 R' := fun w1 R' hm h' =>
    sizes_yes _ [] 4 flags 0 w1 R' (hv.old hm) (.inl ⟨rfl, rfl⟩) h'
  have hb : Blk ((w.alloc (.cells #[.int .i64 4, .int .i64 flags, .int .i64 0, .slice A 0 c] 30)).alloc (.cells #[.int .i64 0] 3)) w.heap.size 30 #[.int .i64 4, .int .i64 flags, .int .i64 0, .slice A 0 c] := (Blk.new _ _ _).alloc _
  have hr : Blk ((w.alloc (.cells #[.int .i64 4, .int .i64 flags, .int .i64 0, .slice A 0 c] 30)).alloc (.cells #[.int .i64 0] 3)) (w.heap.size + 1) 3 #[.int .i64 0] := Blk.at (by simp)
  have HS := Lib.hid hs
  clear hs hc
  have m0 := ((Mod.refl None' w).alloc (.cells #[.int .i64 4, .int .i64 flags, .int .i64 0, .slice A 0 c] 30)).alloc (.cells #[.int .i64 0] 3)
  refine calls_of_marks Try.func27 (by as_aux_lemma => rfl) ?_
  simp only [Try.ntmps27, List.size_toArray, List.length_cons, List.length_nil, Nat.reduceAdd, Nat.reduceSub, Array.replicate_succ, Array.replicate_zero, List.push_toArray, List.append_toArray, List.nil_append, List.cons_append]
  go_wp2_with (first
    | (go_at_call 39; refine HS.out _ _ m0 ?_; intro w1 hm1; have hc1 := (hb.old hm1).cell; have hc2 := (hr.old hm1).cell; have hf2 := (hr.old hm1).frozen)
    | (go_at_call 40; refine chunk_makes _ _ _ _ _ ?_))
  refine wp_rangeFunc_zero (gf := 55) (lb := #[.pointer (some ⟨w1.heap.size, 0, none⟩), .pointer (some ⟨w1.heap.size + 1, 0, none⟩)]) rfl (enters_of Try.func55 (by kernel_rfl) rfl) ?_
  intro y w2 hm2 _
  have hc3 : w2.cell? ⟨w1.heap.size, 0, none⟩ = some (.slice A 0 c) := ((((Blk.new w1 22 #[.slice A 0 c]).alloc (.cells #[.int .i64 6] 3)).old hm2).cell 0)
  refine ⟨fun e w' => e = .returned (.tuple #[]) ∧ w' = w2, chunk_zero y _ _ A c w2 _ hc3 ⟨rfl, rfl⟩, ?_⟩
  rintro e w3 ⟨rfl, rfl⟩
  refine ⟨⟨_, rfl⟩, Mod.refl _ _, ?_⟩
  intro D w4 hm4 hD hk
  have hm14 := ((Mod.refl None' w1).alloc (.cells #[.slice A 0 c] 22)).alloc (.cells #[.int .i64 6] 3) |>.then hm4
  have hr4 := ((hr.old hm1).old hm14)
  have hc4 := hr4.cell
  have hf4 := hr4.frozen
  have hz4 := hr4.lt
  have hz1 := (hr.old hm1).lt
  have hzm := hm14.size
  simp only [World.size_alloc] at hD
  clear hc1 hc2 hf2 hc3
  go_wp2_with (fail)
  have hDn : ¬ D = w.heap.size + 1 := by omega
  refine postM_ret1 (v := .int .i64 0) rfl (by rw [Below.heap_setCell _ _ _ _ hDn]; exact hk) ?_ (h _ ?_)
  · have e1 : ∀ (W : World) (o : Obj) (i : Nat), (W.putObj D o).cell? ⟨w.heap.size + 1, i, none⟩ = W.cell? ⟨w.heap.size + 1, i, none⟩ := fun W o i => World.cell?_of_block (World.putObj_heap_other (fun e => hDn e.symm))
    simp [results, Try.results27, go_sem, e1, hc4]
  · exact Mod.putObj (((m0.then hm1).then hm14).setCell (.inr (by simp)) _) (.inr (by omega)) _
end Go.Proofs.Ytnoolamgbmnmfaa
