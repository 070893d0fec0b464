/- The contracts of the small functions: octets, numbers as bytes. -/
import Derived.Test.YtnoolamgbmnmfaaProg
import Derived.Test.YtnoolamgbmnmfaaBase
import Derived.Handy
import Derived.CellFam
import Derived.Deep.QuietTactic
import Derived.BigQuiet
import Derived.Lib.Hide
namespace Go.Proofs.Ytnoolamgbmnmfaa
open Go Go.RowKit
set_option maxRecDepth 100000

theorem octet_yes (n : Int) (w : World) (R : Ending → World → Prop) (h1 : 0 ≤ n) (h2 : n ≤ 255) (h : R (.returned (.bool true)) w) :
    Calls Try.prog 17 #[.int .i64 n] w R := by
  go_enter Try.func17, Try.ntmps17
  go_wp2
  exact h
theorem octet_no (n : Int) (w : World) (R : Ending → World → Prop) (h1 : n < 0 ∨ 255 < n) (h : R (.returned (.bool false)) w) :
    Calls Try.prog 17 #[.int .i64 n] w R := by
  by_cases h0 : 0 ≤ n
  · have h2 : 255 < n := by omega
    clear h1
    have hd : decide (n ≤ 255) = false := by simp; omega
    go_enter Try.func17, Try.ntmps17
    go_wp2
    exact h
  · clear h1
    have hd : decide (0 ≤ n) = false := by simp; omega
    go_enter Try.func17, Try.ntmps17
    go_wp2
    exact h
theorem holds4 (w : World) (R : Ending → World → Prop) (h : R (.returned (.int .i64 2147483647)) w) :
    Calls Try.prog 25 #[.int .i64 4] w R := by
  go_enter Try.func25, Try.ntmps25
  go_wp2
  exact h
theorem holds3 (w : World) (R : Ending → World → Prop) (h : R (.returned (.int .i64 16777215)) w) :
    Calls Try.prog 25 #[.int .i64 3] w R := by
  go_enter Try.func25, Try.ntmps25
  go_wp2
  exact h
theorem big4 (n : Int) (w : World) (R : Ending → World → Prop) (h1 : 0 ≤ n) (h2 : n ≤ 2147483647)
    (h : ∀ A c w', Fresh 5 1 w w' (.slice A 4 c) 4 ((be 4 n.toNat).map bv) → R (.returned (.tuple #[.slice A 4 c, .nilIface])) w') :
    Calls Try.prog 16 #[.int .i64 n, .int .i64 4] w R := by
  have hmk : ∀ w, (Instr.makeSlice 22 (.int .i64 4) (.int .i64 4)).run Try.prog w = .ok (.slice (some ⟨w.heap.size, 0, none⟩) 4 4) (w.alloc (.cells #[.int .u8 0, .int .u8 0, .int .u8 0, .int .u8 0] 5)) := fun _ => by kernel_rfl
  go_enter Try.func16, Try.ntmps16
  go_wp2_with (go_at_call 25; refine holds4 _ _ ?_)
  go_rounds 5
  refine Fresh.lit _ _ _ _ _ _ _ (Mod.refl _ _) (by simp [maxLen]) rfl ?_
  simp only [be4_eq, List.map, bv_ofNat, List.cons.injEq, Value.int.injEq, and_true, true_and]
  refine ⟨?_, ?_, ?_, ?_⟩ <;> omega
theorem big3 (n : Int) (w : World) (R : Ending → World → Prop) (h1 : 0 ≤ n) (h2 : n ≤ 16777215)
    (h : ∀ A c w', Fresh 5 1 w w' (.slice A 3 c) 3 ((be 3 n.toNat).map bv) → R (.returned (.tuple #[.slice A 3 c, .nilIface])) w') :
    Calls Try.prog 16 #[.int .i64 n, .int .i64 3] w R := by
  have hmk : ∀ w, (Instr.makeSlice 22 (.int .i64 3) (.int .i64 3)).run Try.prog w = .ok (.slice (some ⟨w.heap.size, 0, none⟩) 3 3) (w.alloc (.cells #[.int .u8 0, .int .u8 0, .int .u8 0] 5)) := fun _ => by kernel_rfl
  go_enter Try.func16, Try.ntmps16
  go_wp2_with (go_at_call 25; refine holds3 _ _ ?_)
  go_rounds 4
  refine Fresh.lit _ _ _ _ _ _ _ (Mod.refl _ _) (by simp [maxLen]) rfl ?_
  simp only [be3_eq, List.map, bv_ofNat, List.cons.injEq, Value.int.injEq, and_true, true_and]
  refine ⟨?_, ?_, ?_⟩ <;> omega
theorem big4_no (n : Int) (w : World) (R : Ending → World → Prop) (h1 : n < 0 ∨ 2147483647 < n)
    (h : R (.returned (.tuple #[.slice none 0 0, .iface 61 (.int .i64 1)])) w) :
    Calls Try.prog 16 #[.int .i64 n, .int .i64 4] w R := by
  by_cases h0 : n < 0
  · clear h1
    go_enter Try.func16, Try.ntmps16
    go_wp2_with (go_at_call 25; refine holds4 _ _ ?_)
    exact h
  · have h2 : 2147483647 < n := by omega
    have hd : decide (2147483647 < n) = true := by simp; omega
    clear h1
    go_enter Try.func16, Try.ntmps16
    go_wp2_with (go_at_call 25; refine holds4 _ _ ?_)
    exact h

theorem info_u8 : (Try.prog.info? 5).map (fun i => (i.zero, i.size, i.bytes)) = some (some (.int .u8 0), 1, 1) := by kernel_rfl

/-- slices.Clone of bytes -/
theorem clone_bytes (v : Value) (l : List UInt8) (w : World) (R : Ending → World → Prop) (hv : Bytes w v l) (hl : l.length ≤ 140737488355328)
    (h : ∀ A c w', Fresh 5 1 w w' (.slice A l.length c) l.length (l.map bv) → R (.returned (.slice A l.length c)) w') :
    Calls Try.prog 19 #[v] w R := by
  obtain ⟨i0, hi0, hz0, hz1, hz2⟩ := info_parts info_u8
  obtain ⟨A, c, rfl, hc, hcm⟩ := hv.form
  have he := fun (w : World) A n c => Lib.run_eql_slice_nil (P := Try.prog) w 22 5 A n c 0 0 Try.underlying22
  rcases A with _ | a
  · have hl0 : l = [] := by
      obtain ⟨_, _, _, he, _, _, h4⟩ := hv
      injection he with e1
      subst e1
      rcases Nat.eq_zero_or_pos l.length with h0 | h0
      · exact List.eq_nil_of_length_eq_zero h0
      · obtain ⟨_, _, h5, _⟩ := h4 h0
        cases h5
    subst hl0
    go_enter Try.func19, Try.ntmps19
    go_wp2
    exact ⟨World.ownsRow_nil _ _ _ _, by simp [Value.ownBlock], Mod.refl _ _⟩
  · go_enter Try.func19, Try.ntmps19
    go_wp2_with (at_builtin; refine wpList_app rfl (.tmp 5) (.tmp 6) _ rfl 5 i0 _ 1 1 Try.underlying22 hi0 hz0 hz1 hz2 rfl (by omega) (.slice (some ⟨w.heap.size, 0, none⟩) 0 0) 0 [] rfl (World.ownsRow_made w #[] 0 (Nat.zero_le _) (by simp) rfl) _ l.length (l.map bv) rfl (hv.alloc _) (bv_one l) l.length (l.map bv) (Nat.zero_add _) rfl (by simp only [maxLen]; omega) (by omega) ?_; intro A' c' w' ho hm hat)
    exact Fresh.app ((Mod.refl _ _).alloc _) (by simp [Value.ownBlock]) ho hm hat

/-- slices.Grow of nil bytes -/
theorem grow_nil (n : Int) (w : World) (R : Ending → World → Prop) (h0 : 0 ≤ n) (hn : n ≤ 65536)
    (h : ∀ A c w', n.toNat ≤ c → Fresh 5 1 w w' (.slice A 0 c) 0 [] → R (.returned (.slice A 0 c)) w') :
    Calls Try.prog 26 #[.slice none 0 0, .int .i64 n] w R := by
  obtain ⟨m, rfl⟩ := Int.eq_ofNat_of_zero_le h0
  have hd : decide ((m : Int) < 0) = false := by simp
  rcases Nat.eq_zero_or_pos m with rfl | hp
  · go_enter Try.func26, Try.ntmps26
    go_wp2
    exact h none 0 w (by simp) ⟨World.ownsRow_nil _ _ _ _, by simp [Value.ownBlock], Mod.refl _ _⟩
  · have hb5 : Try.t5.bytes = 1 := rfl
    have hns := nextslicecap_zero hp
    have hne : ¬ m = 0 := by omega
    have hle : ¬ 281474976710656 < m := by omega
    have hge := grownCap_ge w m 0 5
    have hcm := grownCap_le_maxLen w m 0 5 (by simp only [maxLen]; omega)
    unfold grownCap at hge hcm
    go_enter Try.func26, Try.ntmps26
    go_wp2
    refine h _ _ _ (by simpa using hge) ⟨⟨by simp, .inr ⟨w.heap.size, _, _, rfl, Nat.zero_le _, heap_alloc_new w _, by simp, hcm, ?_, by simp⟩⟩, by simp [Value.ownBlock], ((Mod.refl _ _).alloc _).drew⟩
    simp [size_zeroCells]
    omega

theorem run_eql_errno (w : World) (a b : Int) : (binOp .eql 33 (.iface 61 (.int .i64 a)) (.iface 61 (.int .i64 b))).run Try.prog w = .ok (.bool (a == b)) w := by
  obtain ⟨i, hi, hc⟩ : ∃ i, Try.prog.info? 61 = some i ∧ i.comparable = true := by
    have h : (Try.prog.info? 61).map (·.comparable) = some true := by kernel_rfl
    cases hx : Try.prog.info? 61 with
    | none => rw [hx] at h; cases h
    | some i => rw [hx] at h; exact ⟨i, rfl, by simpa using h⟩
  exact run_eql_iface_int w a b Try.underlying33 Try.underlying61 hi hc

/-- wire.Read of four bytes and of three -/
theorem read4 (v : Value) (l : List UInt8) (w : World) (R : Ending → World → Prop) (hv : Bytes w v l) (hl : 4 ≤ l.length)
    (h : unbe (l.take 4) ≤ 2147483647 → R (.returned (.tuple #[.int .i64 (unbe (l.take 4)), .nilIface])) w)
    (h' : 2147483647 < unbe (l.take 4) → R (.returned (.tuple #[.int .i64 0, .iface 61 (.int .i64 10)])) w) :
    Calls Try.prog 24 #[v, .int .i64 4] w R := by
  obtain ⟨b0, b1, b2, b3, t, rfl⟩ : ∃ b0 b1 b2 b3 t, l = b0 :: b1 :: b2 :: b3 :: t := by
    match l, hl with
    | b0 :: b1 :: b2 :: b3 :: t, _ => exact ⟨_, _, _, _, _, rfl⟩
  obtain ⟨_, A, c, rfl, hc, hcm, h4⟩ := hv
  obtain ⟨g, o, rfl, hcell⟩ := h4 (by simp)
  simp only [List.take_succ_cons, List.take_zero, unbe4] at h h'
  push_cast at h
  have c0 : w.cell? ⟨g, o, none⟩ = some (.int .u8 b0.toNat) := hcell 0 _ rfl
  have c1 : w.cell? ⟨g, o + 1, none⟩ = some (.int .u8 b1.toNat) := hcell 1 _ rfl
  have c2 : w.cell? ⟨g, o + 2, none⟩ = some (.int .u8 b2.toNat) := hcell 2 _ rfl
  have c3 : w.cell? ⟨g, o + 3, none⟩ = some (.int .u8 b3.toNat) := hcell 3 _ rfl
  clear hcell h4
  unfold maxLen at hcm
  have l0 := byte_le b0
  have l1 := byte_le b1
  have l2 := byte_le b2
  have l3 := byte_le b3
  have e0 := or_zero b0.toNat (by omega) l0
  have e1 := or_byte b0.toNat b1.toNat (by omega) (by omega) (by omega) l1
  have e2 := or_byte (b0.toNat * 256 + b1.toNat) b2.toNat (by omega) (by omega) (by omega) l2
  have e3 := or_byte ((b0.toNat * 256 + b1.toNat) * 256 + b2.toNat) b3.toNat (by omega) (by omega) (by omega) l3
  have hd : decide (((t.length : Int) + 1 + 1 + 1 + 1) < 4) = false := by simp; omega
  go_enter Try.func24, Try.ntmps24
  go_wp2_with (go_at_call 25; refine holds4 _ _ ?_)
  go_rounds 5
  · omega
  · exact h (by omega)
theorem read3 (v : Value) (l : List UInt8) (w : World) (R : Ending → World → Prop) (hv : Bytes w v l) (hl : 3 ≤ l.length)
    (h : R (.returned (.tuple #[.int .i64 (unbe (l.take 3)), .nilIface])) w) :
    Calls Try.prog 24 #[v, .int .i64 3] w R := by
  obtain ⟨b0, b1, b2, t, rfl⟩ : ∃ b0 b1 b2 t, l = b0 :: b1 :: b2 :: t := by
    match l, hl with
    | b0 :: b1 :: b2 :: t, _ => exact ⟨_, _, _, _, rfl⟩
  obtain ⟨_, A, c, rfl, hc, hcm, h4⟩ := hv
  obtain ⟨g, o, rfl, hcell⟩ := h4 (by simp)
  simp only [List.take_succ_cons, List.take_zero, unbe3] at h
  push_cast at h
  have c0 : w.cell? ⟨g, o, none⟩ = some (.int .u8 b0.toNat) := hcell 0 _ rfl
  have c1 : w.cell? ⟨g, o + 1, none⟩ = some (.int .u8 b1.toNat) := hcell 1 _ rfl
  have c2 : w.cell? ⟨g, o + 2, none⟩ = some (.int .u8 b2.toNat) := hcell 2 _ rfl
  clear hcell h4
  unfold maxLen at hcm
  have l0 := byte_le b0
  have l1 := byte_le b1
  have l2 := byte_le b2
  have e0 := or_zero b0.toNat (by omega) l0
  have e1 := or_byte b0.toNat b1.toNat (by omega) (by omega) (by omega) l1
  have e2 := or_byte (b0.toNat * 256 + b1.toNat) b2.toNat (by omega) (by omega) (by omega) l2
  have hd : decide (((t.length : Int) + 1 + 1 + 1) < 3) = false := by simp; omega
  go_enter Try.func24, Try.ntmps24
  go_wp2_with (go_at_call 25; refine holds3 _ _ ?_)
  go_rounds 4
  exact h

/-- frame.Word -/
theorem word_any (v : Value) (b0 b1 b2 b3 : UInt8) (t : List UInt8) (w : World) (R : Ending → World → Prop) (hv : Bytes w v (b0 :: b1 :: b2 :: b3 :: t))
    (h : ∀ w', Mod None' w w' → R (.returned (.int .i64 (unbe [b0, b1, b2, b3]))) w') :
    Calls Try.prog 33 #[v] w R := by
  obtain ⟨_, A, c, rfl, hc, hcm, h4⟩ := hv
  obtain ⟨g, o, rfl, hcell⟩ := h4 (by simp)
  have c0 : w.cell? ⟨g, o, none⟩ = some (.int .u8 b0.toNat) := hcell 0 _ rfl
  have c1 : w.cell? ⟨g, o + 1, none⟩ = some (.int .u8 b1.toNat) := hcell 1 _ rfl
  have c2 : w.cell? ⟨g, o + 2, none⟩ = some (.int .u8 b2.toNat) := hcell 2 _ rfl
  have c3 : w.cell? ⟨g, o + 3, none⟩ = some (.int .u8 b3.toNat) := hcell 3 _ rfl
  simp only [unbe4] at h
  push_cast at h
  clear hcell h4
  unfold maxLen at hcm
  have l0 := byte_le b0
  have l1 := byte_le b1
  have l2 := byte_le b2
  have l3 := byte_le b3
  go_enter Try.func33, Try.ntmps33
  go_wp2
  go_quiet (fail)
  go_wp2
  rw [← word_bits _ _ _ _ (by omega) l0 (by omega) l1 (by omega) l2 (by omega) l3] at h
  exact h _ ((Mod.refl _ w).drewN _)
end Go.Proofs.Ytnoolamgbmnmfaa
