/- A connection begins with Set: the walk of the law. -/
import Derived.Test.YtnoolamgbmnmfaaBegins
namespace Go.Proofs.Ytnoolamgbmnmfaa
open Go Go.RowKit
set_option maxRecDepth 100000

set_option maxHeartbeats 4000000 in
theorem begins_walk (kind flags stream code : Int) (bo : Value) (l : List UInt8) (w : World) (R : Ending → World → Prop) (hv : Bytes w bo l)
    (hend : ∀ w', Mod None' w w' → R (.returned (.bool true)) w') :
    Calls Try.prog 3 #[.int .i64 kind, .int .i64 flags, .int .i64 stream, bo, .int .i64 code] w R := by
  obtain ⟨Ab, cbd, rfl, hcb, hmb⟩ := hv.form
  have HE := Lib.hid hend
  clear hend
  have hmk : ∀ w, (Instr.makeSlice 22 (.int .i64 8) (.int .i64 8)).run Try.prog w = .ok (.slice (some ⟨w.heap.size, 0, none⟩) 8 8) (w.alloc (.cells #[.int .u8 0, .int .u8 0, .int .u8 0, .int .u8 0, .int .u8 0, .int .u8 0, .int .u8 0, .int .u8 0] 5)) := fun _ => by kernel_rfl
  go_enter Try.func3, Try.ntmps3
  go_wp2_with (fail)
  refine ci_new _ _ ?_
  intro cb c0 c1 c2 A1 d1 w1 hci1 hm1 hcb1 hA1
  go_wp2_with (fail)
  refine ci_out _ cb c0 c1 c2 _ A1 9 d1 _ _ _ _ hci1 ?_
  intro w2 hci2 ho2 hm2
  go_wp2_with (fail)
  refine frames_one _ 4 0 0 [] _ _ (Bytes.of_row (Row.of_own ho2) (by simp [frameBytes_length])) (by omega) (by omega) (by omega) (by simp) ?_
  intro F3 e3 A3 d3 w3 hF3 hB3 hm3 hn3 hn3'
  have hci3 := hci2.old hm3
  obtain ⟨g3, rfl, hcell⟩ := own_cells hF3 (Nat.one_pos)
  have k0 : w3.cell? ⟨g3, 0, none⟩ = some (.int .i64 4) := hcell 0 _ rfl
  have k1 : w3.cell? ⟨g3, 1, none⟩ = some (.int .i64 0) := hcell 1 _ rfl
  have k3 : w3.cell? ⟨g3, 3, none⟩ = some (.slice A3 0 d3) := hcell 3 _ rfl
  clear hcell
  go_wp2_with (fail)
  refine over_any cb _ false _ _ hci3.blk rfl ?_
  go_wp2_with (fail)
  refine ci_out _ cb c0 c1 c2 _ none 0 0 _ _ _ _ hci3 ?_
  intro w4 hci4 _ hm4
  go_wp2_with (fail)
  refine encode_ok 4 0 0 _ [] _ _ (by omega) (by omega) (by omega) (Bytes.nil_ _) (by simp) ?_
  intro A5 d5 w5 hF5
  have hci5 := hci4.old hF5.mod
  go_wp2_with (fail)
  refine ci_set _ cb c0 c1 c2 _ _ _ _ _ _ _ hci5 (Bytes.of_row hF5.row (by simp [frameBytes_length])) (by simp) ?_
  intro iv6 A6 d6 w6 hci6 hm6 hfp6
  go_wp2_with (fail)
  refine ci_out _ cb c0 c1 c2 _ A6 _ d6 _ _ _ _ hci6 ?_
  intro w7 hci7 ho7 hm7
  go_wp2_with (fail)
  refine frames_one _ 4 1 0 [] _ _ (Bytes.of_row (Row.of_own ho7) (by simp [frameBytes_length])) (by omega) (by omega) (by omega) (by simp) ?_
  intro F8 e8 A8 d8 w8 hF8 hB8 hm8 hn8 hn8'
  have hci8 := hci7.old hm8
  clear k0 k1 k3
  obtain ⟨g8, rfl, hcell⟩ := own_cells hF8 (Nat.one_pos)
  have k0 : w8.cell? ⟨g8, 0, none⟩ = some (.int .i64 4) := hcell 0 _ rfl
  have k1 : w8.cell? ⟨g8, 1, none⟩ = some (.int .i64 1) := hcell 1 _ rfl
  clear hcell
  have M2 : Mod None' w w2 := hm1.trans hm2 (fun b e hb => by omega)
  have M4 : Mod None' w w4 := (M2.then hm3).trans hm4 (fun b e hb => by omega)
  have M5 := M4.then hF5.mod
  have hN5 : ∀ g, fp cb (.slice none 0 0) (.slice none 0 0) g → w.heap.size ≤ g := by
    rintro g (e | e | e)
    · omega
    · simp [Value.ownBlock] at e
    · simp [Value.ownBlock] at e
  have M6 : Mod None' w w6 := M5.trans hm6 (fun b e hb => by have := hN5 b e; omega)
  have M7 : Mod None' w w7 := M6.trans hm7 (fun b e hb => by omega)
  have M8 := M7.then hm8
  have hN6 : ∀ g, fp cb iv6 (.slice A6 9 d6) g → w.heap.size ≤ g := fun g e => by
    rcases hfp6 g (by simpa using e) with e | e
    · exact hN5 g e
    · have := M5.size; omega
  by_cases hbig : 1024 < l.length
  · have hd : decide (1024 < (l.length : Int)) = true := by simp; omega
    go_wp2_with (fail)
    exact HE.out _ M8
  by_cases hneg : code < 0
  · have hd : decide (1024 < (l.length : Int)) = false := by simp; omega
    go_wp2_with (fail)
    exact HE.out _ M8
  by_cases hmax : 2147483647 < code
  · have hd : decide (1024 < (l.length : Int)) = false := by simp; omega
    have hd2 : decide (code < 0) = false := by simp; omega
    go_wp2_with (fail)
    exact HE.out _ M8
  have hd : decide (1024 < (l.length : Int)) = false := by simp; omega
  have hd2 : decide (code < 0) = false := by simp; omega
  have hd3 : decide (2147483647 < code) = false := by simp; omega
  have hv8 := hv.old M8
  go_wp2_with ((with_reducible show wpList _ _ _ (Oper.mk (some 124) _ _ _ _ _ :: _) _ _); refine wpList_copy_row (o := ⟨some 124, _, _, _, _, _⟩) rfl (.tmp 122) (.tmp 123) _ _ rfl 5 Try.underlying22 (by kernel_rfl) w8.heap.size 8 8 rfl (List.replicate 8 (.int .u8 0)) 5 (by exact Blk.new _ _ _) rfl (.slice Ab l.length cbd) l.length (l.map bv) rfl (by exact Row.alloc hv8 _) (bv_one _) ?_; intro w9 r9 hb9 hm9)
  obtain ⟨e8l, he8⟩ : ∃ e8l : List UInt8, e8l.length = 8 ∧ e8l.map bv = (l.map bv).take 8 ++ (List.replicate 8 (Value.int .u8 0)).drop (min l.length 8) := by
    refine ⟨l.take 8 ++ (List.replicate 8 0).drop (min l.length 8), by simp; omega, ?_⟩
    rw [List.map_append, List.map_take, List.map_drop]
    rfl
  obtain ⟨hl8, hm8'⟩ := he8
  rw [← hm8'] at hb9
  have H8 := Lib.hid hl8
  have hE9 : Bytes w9 (.slice (some ⟨w8.heap.size, 0, none⟩) 8 8) e8l := Bytes.of_row (Row.of_blk hb9 8 1 8 (by simp [hl8]) (Nat.le_refl _) (by simp [maxLen])) hl8.symm
  clear hl8 hm8'
  have M9 : Mod None' w w9 := (M8.alloc _).trans hm9 (fun b e hb => by have := M8.size; omega)
  have hci9 : CI w9 cb c0 c1 c2 iv6 (.slice none 0 0) (.slice none 0 0) [] true := (hci8.old ((Mod.refl None' w8).alloc _)).keep hm9 (fun g e => by have := hci8.lt g e; omega)
  refine encode_ok 5 0 0 _ e8l _ _ (by omega) (by omega) (by omega) hE9 (by rw [H8.out]; omega) ?_
  intro A10 d10 w10 hF10
  go_wp2_with (fail)
  have hci10 := hci9.old hF10.mod
  refine ci_ping _ cb c0 c1 c2 _ _ _ _ _ e8l _ hci10 (Bytes.of_row hF10.row (by simp [frameBytes_length])) H8.out (by simp) ?_
  intro iv11 A11 d11 w11 hci11 hm11 hfp11
  simp only [List.length_nil, Nat.zero_add, List.nil_append] at hci11 hfp11
  go_wp2_with (fail)
  refine ci_out _ cb c0 c1 c2 _ A11 _ d11 _ _ _ _ hci11 ?_
  intro w12 hci12 ho12 hm12
  go_wp2_with (fail)
  refine frames_one _ 5 1 0 e8l _ _ (Bytes.of_row (Row.of_own ho12) (by simp [frameBytes_length])) (by omega) (by omega) (by omega) (by rw [H8.out]; omega) ?_
  intro F13 e13 A13 d13 w13 hF13 hB13 hm13 hn13 hn13'
  have hci13 := hci12.old hm13
  clear k0 k1
  obtain ⟨g13, rfl, hcell⟩ := own_cells hF13 (Nat.one_pos)
  have k0 : w13.cell? ⟨g13, 0, none⟩ = some (.int .i64 5) := hcell 0 _ rfl
  have k1 : w13.cell? ⟨g13, 1, none⟩ = some (.int .i64 1) := hcell 1 _ rfl
  have k3 : w13.cell? ⟨g13, 3, none⟩ = some (.slice A13 e8l.length d13) := hcell 3 _ rfl
  clear hcell
  have M10 := M9.then hF10.mod
  have hN10 : ∀ g, fp cb iv6 (.slice none 0 0) g → w.heap.size ≤ g := by
    rintro g (e | e | e)
    · omega
    · exact hN6 g (.inr (.inl e))
    · simp [Value.ownBlock] at e
  have M11 : Mod None' w w11 := M10.trans hm11 (fun b e hb => by have := hN10 b e; omega)
  have M12 : Mod None' w w12 := M11.trans hm12 (fun b e hb => by omega)
  have M13 := M12.then hm13
  have hE13 : Bytes w13 (.slice (some ⟨w8.heap.size, 0, none⟩) 8 8) e8l := by
    have h10 := Bytes.old hE9 hF10.mod
    have h11 := Bytes.mod h10 hm11 (fun g hg e => by
      simp [Value.ownBlock] at hg
      have hlt := hci8.lt g (by
        rcases e with e | e | e
        · exact .inl e
        · exact .inr (.inl e)
        · simp [Value.ownBlock] at e)
      omega)
    have h12 := Bytes.mod h11 hm12 (fun g hg e => by
      simp [Value.ownBlock] at hg
      have hlt := hci8.blk.lt
      omega)
    exact Bytes.old h12 hm13
  have hs1 : ∀ nq, (convert 22 9 (.slice A13 e8l.length d13)).run Try.prog (w13.drewN nq) = .ok (.string ⟨e8l.toArray⟩) (w13.drewN nq) := fun nq => run_convert_bytes_row _ _ _ 5 Try.underlying22 Try.underlying5 Try.underlying9 _ _ e8l (Row.drewN hB13 nq)
  have hs2 : ∀ nq, (convert 22 9 (.slice (some ⟨w8.heap.size, 0, none⟩) 8 8)).run Try.prog (w13.drewN nq) = .ok (.string ⟨e8l.toArray⟩) (w13.drewN nq) := fun nq => run_convert_bytes_row _ _ _ 5 Try.underlying22 Try.underlying5 Try.underlying9 _ _ e8l (Row.drewN hE13 nq)
  go_wp2_with (fail)
  go_quiet (fail)
  obtain ⟨i0, hi0, hz0, hz1, hz2⟩ := info_parts info_u8
  have hcode : ((unbe [UInt8.ofNat (code.toNat / 256 / 256 / 256), UInt8.ofNat (code.toNat / 256 / 256), UInt8.ofNat (code.toNat / 256), UInt8.ofNat code.toNat] : Nat) : Int) = code := by
    rw [← be4_eq, unbe_be4 _ (by omega)]; omega
  have HC := Lib.hid hcode
  clear hcode
  have hciQ : CI (w13.drewN nq) cb c0 c1 c2 iv11 (.slice none 0 0) (.slice none 0 0) [] true := ⟨hci13.blk, hci13.inn, hci13.out, hci13.ne⟩
  have MQ : Mod None' w (w13.drewN nq) := M13.drewN nq
  have hN11 : ∀ g, fp cb iv11 (.slice none 0 0) g → w.heap.size ≤ g := by
    rintro g (e | e | e)
    · omega
    · rcases hfp11 g (.inr (.inl e)) with h1 | h1
      · exact hN10 g h1
      · have := M10.size; omega
    · simp [Value.ownBlock] at e
  have hvQ : Bytes (w13.drewN nq) (.slice Ab l.length cbd) l := Bytes.old hv MQ
  clear k0 k1 k3 hs1 hs2
  by_cases hk7 : 7 < kind
  · go_wp2_with (fail)
    by_cases hok : kind ≤ 255 ∧ 0 ≤ flags ∧ flags ≤ 255 ∧ 0 ≤ stream ∧ stream ≤ 2147483647
    · obtain ⟨r1, r2, r3, r4, r5⟩ := hok
      refine encode_ok kind flags stream _ l _ _ (by omega) (by omega) (by omega) hvQ (by omega) ?_
      intro A14 d14 w14 hF14
      have hci14 := hciQ.old hF14.mod
      go_wp2_with (fail)
      refine ci_other _ cb c0 c1 c2 _ _ _ _ _ l kind flags stream _ hci14 (Bytes.of_row hF14.row (by simp [frameBytes_length])) (by omega) (by omega) (by omega) (by omega) ?_
      intro iv15 w15 hci15 hm15 hfp15
      go_wp2_with (fail)
      refine ci_out _ cb c0 c1 c2 _ none 0 0 _ _ _ _ hci15 ?_
      intro w16 hci16 _ hm16
      go_wp2_with (fail)
      refine over_any cb _ false _ _ hci16.blk rfl ?_
      have M14 := MQ.then hF14.mod
      have M15 : Mod None' w w15 := M14.trans hm15 (fun b e hb => by have := hN11 b e; omega)
      have M16 : Mod None' w w16 := M15.trans hm16 (fun b e hb => by omega)
      have hN16 : ∀ g, fp cb iv15 (.slice none 0 0) g → w.heap.size ≤ g := fun g e => by
        rcases hfp15 g e with h1 | h1
        · exact hN11 g h1
        · have := M14.size; omega
      go_wp2_with (fail)
      have hcode := HC.out
      refine lword 0 _ _ (by omega) (by omega) ?_
      intro A20 d20 w20 hF20
      go_wp2_with (fail)
      refine lword code _ _ (by omega) (by omega) ?_
      intro A21 d21 w21 hF21
      have hF20' := hF20.then hF21.mod
      go_wp2_with (at_builtin; refine wpList_app rfl (.tmp 206) (.tmp 208) _ rfl 5 i0 _ 1 1 Try.underlying22 hi0 hz0 hz1 hz2 rfl (by omega) (.slice A20 4 d20) 4 ((be 4 0).map bv) rfl hF20'.own (.slice A21 4 d21) 4 ((be 4 code.toNat).map bv) rfl hF21.row (bv_one _) 8 ((be 4 0 ++ be 4 code.toNat).map bv) rfl (by simp) (by simp only [maxLen]; omega) (by omega) ?_; intro A22 d22 w22 ho22 hg22 hat22)
      have hF22 := hF20'.next ho22 hg22 hat22
      refine encode_ok 6 0 0 _ (be 4 0 ++ be 4 code.toNat) _ _ (by omega) (by omega) (by omega) (Bytes.of_row hF22.row (by simp [be_length])) (by simp [be_length]) ?_
      intro A23 d23 w23 hF23
      have hci23 := (hci16.old hF22.mod).old hF23.mod
      go_wp2_with (fail)
      refine ci_bye _ cb c0 c1 c2 _ _ _ _ _ (UInt8.ofNat (0 / 256 / 256 / 256)) (UInt8.ofNat (0 / 256 / 256)) (UInt8.ofNat (0 / 256)) (UInt8.ofNat 0) (UInt8.ofNat (code.toNat / 256 / 256 / 256)) (UInt8.ofNat (code.toNat / 256 / 256)) (UInt8.ofNat (code.toNat / 256)) (UInt8.ofNat code.toNat) _ hci23 (Bytes.of_row hF23.row (by simp [frameBytes_length, be_length])) ?_
      intro A24 d24 w24 he24 hb24 hm24
      obtain ⟨cs24, hb24, h11⟩ := hb24
      rw [hcode] at he24
      obtain ⟨g24, rfl, hcell⟩ := own_cells he24 (Nat.one_pos)
      have q0 : w24.cell? ⟨g24, 0, none⟩ = some (.int .i64 5) := hcell 0 _ rfl
      have q2 : w24.cell? ⟨g24, 2, none⟩ = some (.int .i64 code) := hcell 2 _ rfl
      clear hcell
      go_wp2_with (fail)
      refine over_any cb cs24 false _ _ hb24 h11 ?_
      go_wp2_with (fail)
      exact HE.out _ ((((M16).then hF22.mod).then hF23.mod).trans hm24 (fun b e hb => by have := hN16 b e; omega))
    · refine encode_range kind flags stream _ _ _ (by omega) ?_
      intro w16 hm16
      have hci16 := hciQ.old hm16
      have M16 := MQ.then hm16
      go_wp2_with (fail)
      have hcode := HC.out
      refine lword 0 _ _ (by omega) (by omega) ?_
      intro A20 d20 w20 hF20
      go_wp2_with (fail)
      refine lword code _ _ (by omega) (by omega) ?_
      intro A21 d21 w21 hF21
      have hF20' := hF20.then hF21.mod
      go_wp2_with (at_builtin; refine wpList_app rfl (.tmp 206) (.tmp 208) _ rfl 5 i0 _ 1 1 Try.underlying22 hi0 hz0 hz1 hz2 rfl (by omega) (.slice A20 4 d20) 4 ((be 4 0).map bv) rfl hF20'.own (.slice A21 4 d21) 4 ((be 4 code.toNat).map bv) rfl hF21.row (bv_one _) 8 ((be 4 0 ++ be 4 code.toNat).map bv) rfl (by simp) (by simp only [maxLen]; omega) (by omega) ?_; intro A22 d22 w22 ho22 hg22 hat22)
      have hF22 := hF20'.next ho22 hg22 hat22
      refine encode_ok 6 0 0 _ (be 4 0 ++ be 4 code.toNat) _ _ (by omega) (by omega) (by omega) (Bytes.of_row hF22.row (by simp [be_length])) (by simp [be_length]) ?_
      intro A23 d23 w23 hF23
      have hci23 := (hci16.old hF22.mod).old hF23.mod
      go_wp2_with (fail)
      refine ci_bye _ cb c0 c1 c2 _ _ _ _ _ (UInt8.ofNat (0 / 256 / 256 / 256)) (UInt8.ofNat (0 / 256 / 256)) (UInt8.ofNat (0 / 256)) (UInt8.ofNat 0) (UInt8.ofNat (code.toNat / 256 / 256 / 256)) (UInt8.ofNat (code.toNat / 256 / 256)) (UInt8.ofNat (code.toNat / 256)) (UInt8.ofNat code.toNat) _ hci23 (Bytes.of_row hF23.row (by simp [frameBytes_length, be_length])) ?_
      intro A24 d24 w24 he24 hb24 hm24
      obtain ⟨cs24, hb24, h11⟩ := hb24
      rw [hcode] at he24
      obtain ⟨g24, rfl, hcell⟩ := own_cells he24 (Nat.one_pos)
      have q0 : w24.cell? ⟨g24, 0, none⟩ = some (.int .i64 5) := hcell 0 _ rfl
      have q2 : w24.cell? ⟨g24, 2, none⟩ = some (.int .i64 code) := hcell 2 _ rfl
      clear hcell
      go_wp2_with (fail)
      refine over_any cb cs24 false _ _ hb24 h11 ?_
      go_wp2_with (fail)
      exact HE.out _ ((((M16).then hF22.mod).then hF23.mod).trans hm24 (fun b e hb => by have := hN11 b e; omega))
  · have hk7' : kind ≤ 7 := by omega
    go_wp2_with (fail)
    have hcode := HC.out
    refine lword 0 _ _ (by omega) (by omega) ?_
    intro A20 d20 w20 hF20
    go_wp2_with (fail)
    refine lword code _ _ (by omega) (by omega) ?_
    intro A21 d21 w21 hF21
    have hF20' := hF20.then hF21.mod
    go_wp2_with (at_builtin; refine wpList_app rfl (.tmp 206) (.tmp 208) _ rfl 5 i0 _ 1 1 Try.underlying22 hi0 hz0 hz1 hz2 rfl (by omega) (.slice A20 4 d20) 4 ((be 4 0).map bv) rfl hF20'.own (.slice A21 4 d21) 4 ((be 4 code.toNat).map bv) rfl hF21.row (bv_one _) 8 ((be 4 0 ++ be 4 code.toNat).map bv) rfl (by simp) (by simp only [maxLen]; omega) (by omega) ?_; intro A22 d22 w22 ho22 hg22 hat22)
    have hF22 := hF20'.next ho22 hg22 hat22
    refine encode_ok 6 0 0 _ (be 4 0 ++ be 4 code.toNat) _ _ (by omega) (by omega) (by omega) (Bytes.of_row hF22.row (by simp [be_length])) (by simp [be_length]) ?_
    intro A23 d23 w23 hF23
    have hci23 := (hciQ.old hF22.mod).old hF23.mod
    go_wp2_with (fail)
    refine ci_bye _ cb c0 c1 c2 _ _ _ _ _ (UInt8.ofNat (0 / 256 / 256 / 256)) (UInt8.ofNat (0 / 256 / 256)) (UInt8.ofNat (0 / 256)) (UInt8.ofNat 0) (UInt8.ofNat (code.toNat / 256 / 256 / 256)) (UInt8.ofNat (code.toNat / 256 / 256)) (UInt8.ofNat (code.toNat / 256)) (UInt8.ofNat code.toNat) _ hci23 (Bytes.of_row hF23.row (by simp [frameBytes_length, be_length])) ?_
    intro A24 d24 w24 he24 hb24 hm24
    obtain ⟨cs24, hb24, h11⟩ := hb24
    rw [hcode] at he24
    obtain ⟨g24, rfl, hcell⟩ := own_cells he24 (Nat.one_pos)
    have q0 : w24.cell? ⟨g24, 0, none⟩ = some (.int .i64 5) := hcell 0 _ rfl
    have q2 : w24.cell? ⟨g24, 2, none⟩ = some (.int .i64 code) := hcell 2 _ rfl
    clear hcell
    go_wp2_with (fail)
    refine over_any cb cs24 false _ _ hb24 h11 ?_
    go_wp2_with (fail)
    exact HE.out _ ((((MQ).then hF22.mod).then hF23.mod).trans hm24 (fun b e hb => by have := hN11 b e; omega))
end Go.Proofs.Ytnoolamgbmnmfaa
