/- The contract of frame.Read. -/
import Derived.Test.YtnoolamgbmnmfaaFrame
import Derived.Deep.RegionWith
import Derived.Deep.RegionHeld3
namespace Go.Proofs.Ytnoolamgbmnmfaa
open Go Go.RowKit
set_option maxRecDepth 100000

def frame0 : Value := .agg #[.int .i64 0, .int .i64 0, .int .i64 0, .slice none 0 0]
theorem fread_short (v : Value) (l : List UInt8) (w : World) (R : Ending → World → Prop) (hv : Bytes w v l) (hl : l.length < 9)
    (h : ∀ w', Mod None' w w' → R (.returned (.tuple #[frame0, .int .i64 0, .iface 61 (.int .i64 8)])) w') :
    Calls Try.prog 15 #[v] w R := by
  obtain ⟨A, c, rfl, hc, hcm⟩ := hv.form
  go_enter Try.func15, Try.ntmps15
  go_wp2_with (fail)
  refine bodyPost_ret (v := .tuple #[frame0, .int .i64 0, .iface 61 (.int .i64 8)]) (by simp [results, Try.results15, go_sem, frame0]) rfl ?_
  exact h _ ((Mod.refl _ _).alloc _)
theorem fread_ok (v : Value) (b0 b1 b2 b3 b4 b5 b6 b7 b8 : UInt8) (l : List UInt8) (w : World) (R : Ending → World → Prop) (hv : Bytes w v (b0 :: b1 :: b2 :: b3 :: b4 :: b5 :: b6 :: b7 :: b8 :: l))
    (hn : unbe [b0, b1, b2] ≤ 1024) (hm : unbe [b0, b1, b2] ≤ l.length) (hid : unbe [b5, b6, b7, b8] ≤ 2147483647)
    (h : ∀ A c w', Fresh 5 1 w w' (.slice A (unbe [b0, b1, b2]) c) (unbe [b0, b1, b2]) ((l.take (unbe [b0, b1, b2])).map bv) →
      R (.returned (.tuple #[.agg #[.int .i64 b3.toNat, .int .i64 b4.toNat, .int .i64 (unbe [b5, b6, b7, b8]), .slice A (unbe [b0, b1, b2]) c], .int .i64 (9 + (unbe [b0, b1, b2] : Nat)), .nilIface])) w') :
    Calls Try.prog 15 #[v] w R := by
  obtain ⟨_, A, c, rfl, hc, hcm, h4⟩ := id hv
  obtain ⟨g, o, rfl, hcell⟩ := h4 (by simp)
  have c3 : w.cell? ⟨g, o + 3, none⟩ = some (.int .u8 b3.toNat) := hcell 3 _ rfl
  have c4 : w.cell? ⟨g, o + 4, none⟩ = some (.int .u8 b4.toNat) := hcell 4 _ rfl
  have hg : g < w.heap.size := cell_lt c3
  have l3 := byte_le b3
  have l4 := byte_le b4
  clear hcell h4
  obtain ⟨L, hL⟩ : ∃ L, L = (b0 :: b1 :: b2 :: b3 :: b4 :: b5 :: b6 :: b7 :: b8 :: l).length := ⟨_, rfl⟩
  obtain ⟨N, hN⟩ : ∃ N, N = unbe [b0, b1, b2] := ⟨_, rfl⟩
  obtain ⟨I, hI⟩ : ∃ I, I = unbe [b5, b6, b7, b8] := ⟨_, rfl⟩
  have hL' : L = l.length + 9 := by rw [hL]; simp
  have hr : Row w (.slice (some ⟨g, o, none⟩) L c) L 1 ((b0 :: b1 :: b2 :: b3 :: b4 :: b5 :: b6 :: b7 :: b8 :: l).map bv) := by rw [hL]; exact hv
  rw [← hL] at hc ⊢
  rw [← hN] at hn hm h
  rw [← hI] at hid h
  have hlc : L ≤ c := hc
  have h9 : 9 ≤ L := by omega
  have hNL : N + 9 ≤ L := by omega
  have hv5 : Bytes w (.slice (some ⟨g, o + 5, none⟩) (L - 5) (c - 5)) (b5 :: b6 :: b7 :: b8 :: l) := by
    have := Row.cut (i := 5) hr (by omega)
    rw [if_neg (by omega)] at this
    simp only [Option.map_some, add_mk] at this
    exact Bytes.of_row this (by simp; omega)
  have hv9 : Bytes w (.slice (if c = 9 then some ⟨g, o, none⟩ else some ⟨g, o + 9, none⟩) N (c - 9)) (l.take N) := by
    have := Row.cut (i := 9) hr (by omega)
    simp only [Option.map_some, add_mk, Nat.mul_one] at this
    have := this.upto (i := N) (by omega)
    refine Bytes.of_row (n := N) ?_ (by simp; omega)
    simpa [List.map_take] using this
  have hb4 : Bytes w (.slice (some ⟨g, o, none⟩) L c) (b0 :: b1 :: b2 :: b3 :: b4 :: b5 :: b6 :: b7 :: b8 :: l) := Bytes.of_row hr hL
  have HN := Lib.hid hN
  have HI := Lib.hid hI
  clear hN hI hL hL' hr hv hc
  unfold maxLen at hcm
  go_enter Try.func15, Try.ntmps15
  go_wp2_with (fail)
  refine read3 _ _ _ _ (Row.alloc hb4 _) (by simp) ?_
  simp only [List.take_succ_cons, List.take_zero]
  rw [← HN.out]
  go_wp2_with (fail)
  refine read4 _ _ _ _ (Row.alloc hv5 _) (by simp) ?_ ?_
  · simp only [List.take_succ_cons, List.take_zero]
    rw [← HI.out]
    intro _
    have hd : decide ((L : Int) - 9 < N) = false := by simp; omega
    go_wp2_with (fail)
    have s1 : IntKind.i64.wrap (9 + (N : Int)) = 9 + (N : Int) := IntWalk.i64_in _ (by omega)
    have s2 : (9 : Int) ≤ 9 + (N : Int) := by omega
    have s3 : 9 + (N : Int) ≤ (c : Int) := by omega
    have s4 : (9 + (N : Int)).toNat = 9 + N := by omega
    have s5 : (3 : Int) < (L : Int) := by omega
    have s6 : (4 : Int) < (L : Int) := by omega
    have s7 : IntKind.i64.wrap (b3.toNat : Int) = (b3.toNat : Int) := IntWalk.i64_in _ (by omega)
    have s8 : IntKind.i64.wrap (b4.toNat : Int) = (b4.toNat : Int) := IntWalk.i64_in _ (by omega)
    have g1 : ¬ g = w.heap.size := by omega
    have g2 : ¬ w.heap.size = g := by omega
    by_cases hc9 : c = 9
    · subst hc9
      obtain rfl : N = 0 := by omega
      clear s1 s2 s3 s4
      have s1 : IntKind.i64.wrap 9 = 9 := IntWalk.i64_in _ (by omega)
      rw [if_pos rfl] at hv9
      go_region_held3 (fun w' => w'.cell? ⟨g, o + 3, none⟩ = some (.int .u8 b3.toNat) ∧ w'.cell? ⟨g, o + 4, none⟩ = some (.int .u8 b4.toNat)) (go_keep)
        (first | (go_at_call 19; refine clone_bytes _ (l.take 0) _ _ (by exact Row.drew (Row.alloc hv9 _)) (by simp) ?_; intro A1 c1 w1 hf1; have hb1 := (Blk.new w 30 #[Value.int .i64 0, .int .i64 0, .int .i64 0, .slice none 0 0]).drew.old hf1.mod; have hc1 := hb1.cell; have hr1 := hb1.frozen; have k3 := (hf1.mod.none_cell g (o + 3) (by simp; omega)); have k4 := (hf1.mod.none_cell g (o + 4) (by simp; omega))))
      go_wp2_with (fail)
      refine bodyPost_ret (v := .tuple #[.agg #[.int .i64 b3.toNat, .int .i64 b4.toNat, .int .i64 I, .slice A1 0 c1], .int .i64 9, .nilIface]) ?_ rfl ?_
      · simp [results, Try.results15, go_sem, hc1]
      · refine h A1 c1 _ ?_
        have hnew := hf1.new
        simp only [World.size_drew, World.size_alloc] at hnew
        refine Fresh.cast (n := (l.take 0).length) (xs := (l.take 0).map bv) ?_ (by simp) rfl
        refine (((((hf1.after ((Mod.refl _ w).alloc _).drew).setCell ?_ ?_ _).setCell ?_ ?_ _).setCell ?_ ?_ _).setCell ?_ ?_ _)
        all_goals first | exact Nat.le_refl _ | (intro g' hg'; have := hnew g' (by simpa using hg'); show g' ≠ w.heap.size; omega)
    · rw [if_neg hc9] at hv9
      go_region_held3 (fun w' => w'.cell? ⟨g, o + 3, none⟩ = some (.int .u8 b3.toNat) ∧ w'.cell? ⟨g, o + 4, none⟩ = some (.int .u8 b4.toNat)) (go_keep)
        (first | (go_at_call 19; refine clone_bytes _ (l.take N) _ _ (by exact Row.drew (Row.alloc hv9 _)) (by simp; omega) ?_; intro A1 c1 w1 hf1; have hb1 := (Blk.new w 30 #[Value.int .i64 0, .int .i64 0, .int .i64 0, .slice none 0 0]).drew.old hf1.mod; have hc1 := hb1.cell; have hr1 := hb1.frozen; have k3 := (hf1.mod.none_cell g (o + 3) (by simp; omega)); have k4 := (hf1.mod.none_cell g (o + 4) (by simp; omega))))
      go_wp2_with (fail)
      refine bodyPost_ret (v := .tuple #[.agg #[.int .i64 b3.toNat, .int .i64 b4.toNat, .int .i64 I, .slice A1 N c1], .int .i64 (9 + (N : Nat)), .nilIface]) ?_ rfl ?_
      · simp [results, Try.results15, go_sem, hc1]
      · refine h A1 c1 _ ?_
        have hnew := hf1.new
        simp only [World.size_drew, World.size_alloc] at hnew
        refine Fresh.cast (n := (l.take N).length) (xs := (l.take N).map bv) ?_ (by simp; omega) rfl
        refine (((((hf1.after ((Mod.refl _ w).alloc _).drew).setCell ?_ ?_ _).setCell ?_ ?_ _).setCell ?_ ?_ _).setCell ?_ ?_ _)
        all_goals first | exact Nat.le_refl _ | (intro g' hg'; have := hnew g' (by simpa using hg'); show g' ≠ w.heap.size; omega)
  · intro h
    simp only [List.take_succ_cons, List.take_zero] at h
    rw [← HI.out] at h
    omega
end Go.Proofs.Ytnoolamgbmnmfaa
