/- A frame that is written is read; Feed of one right frame. -/
import Derived.Test.YtnoolamgbmnmfaaHear
namespace Go.Proofs.Ytnoolamgbmnmfaa
open Go Go.RowKit
set_option maxRecDepth 100000

theorem unbe_be3 (n : Nat) (h : n < 16777216) : unbe (be 3 n) = n := by
  rw [be3_eq, unbe3]; simp only [UInt8.toNat_ofNat']; omega
theorem unbe_be4 (n : Nat) (h : n < 4294967296) : unbe (be 4 n) = n := by
  rw [be4_eq, unbe4]; simp only [UInt8.toNat_ofNat']; omega
theorem frameBytes_length (k f s : Int) (l : List UInt8) : (frameBytes k f s l).length = 9 + l.length := by simp [frameBytes, be_length]; omega

theorem fread_frame (v : Value) (k f s : Int) (l rest : List UInt8) (w : World) (R : Ending → World → Prop) (hv : Bytes w v (frameBytes k f s l ++ rest))
    (hk : 0 ≤ k ∧ k ≤ 255) (hf : 0 ≤ f ∧ f ≤ 255) (hs : 0 ≤ s ∧ s ≤ 2147483647) (hl : l.length ≤ 1024)
    (h : ∀ A c w', Fresh 5 1 w w' (.slice A l.length c) l.length (l.map bv) →
      R (.returned (.tuple #[.agg #[.int .i64 k, .int .i64 f, .int .i64 s, .slice A l.length c], .int .i64 (9 + (l.length : Nat)), .nilIface])) w') :
    Calls Try.prog 15 #[v] w R := by
  have e3 := unbe_be3 l.length (by omega)
  have e4 := unbe_be4 s.toNat (by omega)
  rw [be3_eq] at e3
  rw [be4_eq] at e4
  have hk' := toNat_byte k hk.1 hk.2
  have hf' := toNat_byte f hf.1 hf.2
  have hs' : s = ((s.toNat : Nat) : Int) := by omega
  have hv' : Bytes w v (UInt8.ofNat (l.length / 256 / 256) :: UInt8.ofNat (l.length / 256) :: UInt8.ofNat l.length :: UInt8.ofNat k.toNat :: UInt8.ofNat f.toNat :: UInt8.ofNat (s.toNat / 256 / 256 / 256) :: UInt8.ofNat (s.toNat / 256 / 256) :: UInt8.ofNat (s.toNat / 256) :: UInt8.ofNat s.toNat :: (l ++ rest)) := by
    have : frameBytes k f s l ++ rest = UInt8.ofNat (l.length / 256 / 256) :: UInt8.ofNat (l.length / 256) :: UInt8.ofNat l.length :: UInt8.ofNat k.toNat :: UInt8.ofNat f.toNat :: UInt8.ofNat (s.toNat / 256 / 256 / 256) :: UInt8.ofNat (s.toNat / 256 / 256) :: UInt8.ofNat (s.toNat / 256) :: UInt8.ofNat s.toNat :: (l ++ rest) := by
      simp [frameBytes, be3_eq, be4_eq]
    rwa [this] at hv
  refine fread_ok v _ _ _ _ _ _ _ _ _ (l ++ rest) w R hv' (by rw [e3]; exact hl) (by rw [e3]; simp) (by rw [e4]; omega) ?_
  rw [e3, e4]
  intro A c w' hF
  rw [List.take_left' rfl] at hF
  rw [← hk', ← hf', ← hs']
  exact h A c w' hF

theorem feed_one (cb : Nat) (cs : Array Value) (iv x : Value) (k f s : Int) (l : List UInt8) (w : World) (R : Ending → World → Prop) (Q : World → World → Array Value → Value → Prop)
    (hb : Blk w cb 55 cs) (h4 : cs[4]? = some iv) (hi : w.ownsRow 0 5 1 iv 0 []) (h11 : cs[11]? = some (.bool false)) (h13 : 13 < cs.size)
    (hx : Bytes w x (frameBytes k f s l)) (hk : 0 ≤ k ∧ k ≤ 255) (hf : 0 ≤ f ∧ f ≤ 255) (hs : 0 ≤ s ∧ s ≤ 2147483647) (hl : l.length ≤ 1024)
    (hhear : ∀ A c B c' w1, Blk w1 cb 55 ((cs.setIfInBounds 13 (.slice none 0 0)).setIfInBounds 4 (.slice B 0 c')) → Bytes w1 (.slice A l.length c) l → w1.ownsRow 0 5 1 (.slice B 0 c') 0 [] →
      Mod (fun g => g = cb ∨ iv.ownBlock = some g) w w1 → (∀ g, (Value.slice A l.length c).ownBlock = some g → w.heap.size ≤ g) → (∀ g, (Value.slice B 0 c').ownBlock = some g → w.heap.size ≤ g) →
      ∀ R' : Ending → World → Prop, (∀ w2 cs2 ev, Blk w2 cb 55 cs2 → cs2[4]? = some (.slice B 0 c') → w2.ownsRow 0 5 1 (.slice B 0 c') 0 [] → cs2[11]? = some (.bool false) → cs2[13]? = some ev → Q w1 w2 cs2 ev → R' (.returned (.tuple #[])) w2) →
        Calls Try.prog 20 #[.pointer (some ⟨cb, 0, none⟩), .agg #[.int .i64 k, .int .i64 f, .int .i64 s, .slice A l.length c]] w1 R')
    (hend : ∀ w1 w2 w3 cs2 ev, Q w1 w2 cs2 ev → Mod (fun g => g = cb ∨ iv.ownBlock = some g) w w1 → Mod None' w2 w3 → R (.returned ev) w3) :
    Calls Try.prog 9 #[.pointer (some ⟨cb, 0, none⟩), x] w R := by
  obtain ⟨i0, hi0, hz0, hz1, hz2⟩ := info_parts info_u8
  obtain ⟨A0, c0, rfl, hc0, hm0⟩ := own_form hi
  obtain ⟨A1, c1, rfl, hc1, hm1⟩ := hx.form
  have hxr : Row w (.slice A1 (9 + l.length) c1) (9 + l.length) 1 ((frameBytes k f s l).map bv) := by rw [← frameBytes_length k f s l]; exact hx
  rw [frameBytes_length]
  have hne := own_blk_ne hi hb (by decide)
  have hcb := hb.lt
  have e4 := cell_of_get hb h4
  have e11 := cell_of_get hb h11
  have ff := hb.frozen
  obtain ⟨ev0, h13'⟩ : ∃ ev0, cs[13]? = some ev0 := ⟨_, Array.getElem?_eq_getElem h13⟩
  have H13 := Lib.hid h13'
  have H4 := Lib.hid h4
  have H11 := Lib.hid h11
  have HH := Lib.hid hhear
  clear h4 h11 h13' hx hhear hc1
  go_enter Try.func9, Try.ntmps9
  go_wp2_with (at_builtin; refine wpList_app rfl (.tmp 16) (.tmp 17) _ rfl 5 i0 _ 1 1 Try.underlying22 hi0 hz0 hz1 hz2 rfl (by omega) (.slice A0 0 c0) 0 [] rfl hi (.slice A1 (9 + l.length) c1) (9 + l.length) ((frameBytes k f s l).map bv) rfl hxr (bv_one _) (9 + l.length) ((frameBytes k f s l).map bv) (Nat.zero_add _) rfl (by simp only [maxLen]; omega) (by omega) ?_; intro A3 c3 w3 ho3 hg3 hat3; have hb3 := hb.mod hg3 (fun e => hne _ e rfl); have e3 := cell_of_get hb3 H13.out; have e3' := cell_of_get hb3 H4.out; have e3'' := cell_of_get hb3 H11.out; have f3 := hb3.frozen)
  refine wp_loop_rounds 2 ?_
  rw [rounds_succ]
  go_wp2_with (fail)
  obtain ⟨q1, q2, q3, q4⟩ := app_store (i := 4) (Mod.refl None' w) hb hne ho3 hg3 hat3
  have n3 : ∀ g, (Value.slice A3 (9 + l.length) c3).ownBlock = some g → g ≠ cb := own_blk_ne q2 q1 (by decide)
  have m4 : Mod (fun g => g = cb) (w3.setCell ⟨cb, 4, none⟩ (.slice A3 (9 + l.length) c3)) ((w3.setCell ⟨cb, 4, none⟩ (.slice A3 (9 + l.length) c3)).setCell ⟨cb, 13, none⟩ (.slice none 0 0)) := Mod.setCell (F := fun g => g = cb) (Mod.refl _ _) (.inl rfl) _
  have hb4 := q1.set_ 13 (.slice none 0 0)
  have ho4 := own_keep q2 m4 (fun g hg e => n3 g hg e)
  have hm4 : Mod (fun g => g = cb ∨ (Value.slice A0 0 c0).ownBlock = some g) w ((w3.setCell ⟨cb, 4, none⟩ (.slice A3 (9 + l.length) c3)).setCell ⟨cb, 13, none⟩ (.slice none 0 0)) := q3.trans m4 (fun g e _ => .inl e)
  refine fread_frame _ k f s l [] _ _ (by rw [List.append_nil]; exact Bytes.of_row (Row.of_own ho4) (frameBytes_length k f s l).symm) hk hf hs hl ?_
  intro A5 c5 w5 hF5
  have hb5 := hb4.old hF5.mod
  have ho5 := own_keep ho4 hF5.mod (fun _ _ f => f)
  have h4s : 4 < cs.size := (Array.getElem?_eq_some_iff.1 H4.out).1
  have g4 := cell_of_get (i := 4) (v := .slice A3 (9 + l.length) c3) hb5 (by rw [Array.getElem?_setIfInBounds_ne (by decide)]; exact Array.getElem?_setIfInBounds_self_of_lt h4s)
  have g11 := cell_of_get (i := 11) (v := .bool false) hb5 (by rw [Array.getElem?_setIfInBounds_ne (by decide), Array.getElem?_setIfInBounds_ne (by decide)]; exact H11.out)
  have gf := hb5.frozen
  have gz := hb5.lt
  have hm3 := (own_form ho5)
  obtain ⟨_, _, hv3, hc3, hmx3⟩ := hm3
  injection hv3 with _ _ hv3
  subst hv3
  go_wp2_with (fail)
  all_goals
    refine clone_bytes _ [] _ _ ⟨by simp, _, _, rfl, by simp, by unfold maxLen at hmx3 ⊢; omega, by simp⟩ (by simp) ?_
    intro B c' w6 hF6
    have hb6 := (hb5.alloc (.cells #[Value.int .i64 k, .int .i64 f, .int .i64 s, .slice A5 l.length c5] 30)).old hF6.mod
    have hx6 : Blk w6 w5.heap.size 30 #[Value.int .i64 k, .int .i64 f, .int .i64 s, .slice A5 l.length c5] := (Blk.new w5 _ _).old hF6.mod
    have j4 := cell_of_get (i := 4) (v := .slice A3 (9 + l.length) c3) hb6 (by rw [Array.getElem?_setIfInBounds_ne (by decide)]; exact Array.getElem?_setIfInBounds_self_of_lt h4s)
    have jf := hb6.frozen
    have jx := hx6.cell
    have nx1 : ¬ w5.heap.size = cb := by omega
    have nx2 : ¬ cb = w5.heap.size := by omega
    go_wp2_with (fail)
    have m7 : Mod (fun g => g = cb) w6 (w6.setCell ⟨cb, 4, none⟩ (.slice B 0 c')) := Mod.setCell (F := fun g => g = cb) (Mod.refl _ _) (.inl rfl) _
    have hb7 := hb6.set_ 4 (.slice B 0 c')
    rw [Array.setIfInBounds_comm _ _ (by decide : (13 : Nat) ≠ 4), Array.setIfInBounds_setIfInBounds, Array.setIfInBounds_comm _ _ (by decide : (4 : Nat) ≠ 13)] at hb7
    have m56 := hF5.mod.then (((Mod.refl None' w5).alloc (.cells #[Value.int .i64 k, .int .i64 f, .int .i64 s, .slice A5 l.length c5] 30)).then hF6.mod)
    have hs4 := hm4.size
    have hs5 := hF5.mod.size
    have nA : ∀ g, (Value.slice A5 l.length c5).ownBlock = some g → w.heap.size ≤ g := fun g hg => by have := hF5.new g hg; omega
    have nB : ∀ g, (Value.slice B 0 c').ownBlock = some g → w.heap.size ≤ g := fun g hg => by have := hF6.new g hg; simp only [World.size_alloc] at this; omega
    have hA6 : Bytes w6 (.slice A5 l.length c5) l := Bytes.old (Row.of_own hF5.own) (((Mod.refl None' w5).alloc _).then hF6.mod)
    have hA7 := Bytes.mod hA6 m7 (fun g hg e => by have := nA g hg; omega)
    have hB7 := own_keep hF6.own m7 (fun g hg e => by have := nB g hg; omega)
    have hm7 := (hm4.trans m56 (fun g e _ => e.elim)).trans m7 (fun g e _ => .inl e)
    clear j4 jf jx hx6 hb6
    refine HH.out A5 c5 B c' _ hb7 hA7 hB7 hm7 nA nB _ ?_
    intro w8 cs2 ev hb8 h84 ho8 h811 h813 hQ
    have k4 := cell_of_get hb8 h84
    have k11 := cell_of_get hb8 h811
    have K13 := Lib.hid h813
    clear h84 h811 h813
    go_wp2_with (fail)
    rw [rounds_succ]
    go_wp2_with (fail)
    refine fread_short _ [] _ _ ⟨by simp, _, _, rfl, by simp, by obtain ⟨_, _, e, _, h⟩ := own_form ho8; injection e with _ _ e; subst e; exact h, by simp⟩ (by simp) ?_
    intro w9 hm9
    have hb9 := hb8.old hm9
    have l13 := cell_of_get hb9 K13.out
    have lz := hb9.lt
    have heq := run_eql_errno
    simp only [frame0]
    go_wp2_with (fail)
    refine hend _ w8 _ cs2 ev hQ hm7 ?_
    exact hm9.alloc _
end Go.Proofs.Ytnoolamgbmnmfaa
