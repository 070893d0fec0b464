/- Feed of one right frame, kind by kind, in one word for a connection with no streams. -/
import Derived.Test.YtnoolamgbmnmfaaFrames
import Derived.Test.YtnoolamgbmnmfaaNew
namespace Go.Proofs.Ytnoolamgbmnmfaa
open Go Go.RowKit
set_option maxRecDepth 100000

/-- a connection with no streams, nothing that came in part -/
structure CI (w : World) (cb : Nat) (c0 c1 c2 iv ov ev : Value) (lo : List UInt8) (began : Bool) : Prop where
  blk : Blk w cb 55 #[c0, c1, c2, .slice none 0 0, iv, ov, .int .i64 2000, .int .i64 2000, .int .i64 2000, .int .i64 0, .bool began, .bool false, .pointer none, ev]
  inn : w.ownsRow 0 5 1 iv 0 []
  out : w.ownsRow 0 5 1 ov lo.length (lo.map bv)
  ne : ∀ g, iv.ownBlock = some g → ov.ownBlock ≠ some g
def fp (cb : Nat) (iv ov : Value) (g : Nat) : Prop := g = cb ∨ iv.ownBlock = some g ∨ ov.ownBlock = some g

theorem CI.lt {w : World} {cb : Nat} {c0 c1 c2 iv ov ev : Value} {lo : List UInt8} {b : Bool} (h : CI w cb c0 c1 c2 iv ov ev lo b) : ∀ g, fp cb iv ov g → g < w.heap.size := by
  rintro g (rfl | h1 | h1)
  · exact h.blk.lt
  · exact own_lt h.inn g h1
  · exact own_lt h.out g h1
theorem CI.old {w w' : World} {cb : Nat} {c0 c1 c2 iv ov ev : Value} {lo : List UInt8} {b : Bool} (h : CI w cb c0 c1 c2 iv ov ev lo b) (hm : Mod None' w w') : CI w' cb c0 c1 c2 iv ov ev lo b :=
  ⟨h.blk.old hm, own_keep h.inn hm (fun _ _ f => f), own_keep h.out hm (fun _ _ f => f), h.ne⟩

theorem ci_out (w : World) (cb : Nat) (c0 c1 c2 iv : Value) (A : Option Addr) (n c : Nat) (ev : Value) (lo : List UInt8) (b : Bool) (R : Ending → World → Prop) (hci : CI w cb c0 c1 c2 iv (.slice A n c) ev lo b)
    (h : ∀ w', CI w' cb c0 c1 c2 iv (.slice none 0 0) ev [] b → w'.ownsRow 0 5 1 (.slice A n c) lo.length (lo.map bv) → Mod (fun g => g = cb) w w' → R (.returned (.slice A n c)) w') :
    Calls Try.prog 6 #[.pointer (some ⟨cb, 0, none⟩)] w R := by
  refine out_any cb _ A n c w R hci.blk rfl ?_
  intro w' hb' hm'
  have n1 := own_blk_ne hci.inn hci.blk (by decide)
  have n2 := own_blk_ne hci.out hci.blk (by decide)
  exact h w' ⟨hb', own_keep hci.inn hm' (fun g hg e => n1 g hg e), World.ownsRow_nil _ _ _ _, fun g _ e => by simp [Value.ownBlock] at e⟩ (own_keep hci.out hm' (fun g hg e => n2 g hg e)) hm'

theorem ci_new (w : World) (R : Ending → World → Prop)
    (h : ∀ cb c0 c1 c2 A c w', CI w' cb c0 c1 c2 (.slice none 0 0) (.slice A 9 c) (.slice none 0 0) (frameBytes 4 0 0 []) false → Mod None' w w' → w.heap.size ≤ cb → (∀ g, (Value.slice A 9 c).ownBlock = some g → w.heap.size ≤ g) → R (.returned (.pointer (some ⟨cb, 0, none⟩))) w') :
    Calls Try.prog 4 #[] w R := by
  refine new_any w R ?_
  intro cb c0 c1 c2 A c w' hb ho hm hc hA
  exact h cb c0 c1 c2 A c w' ⟨hb, World.ownsRow_nil _ _ _ _, ho, fun g e => by simp [Value.ownBlock] at e⟩ hm hc hA

theorem ci_set (w : World) (cb : Nat) (c0 c1 c2 iv ov ev x : Value) (lo : List UInt8) (b : Bool) (R : Ending → World → Prop) (hci : CI w cb c0 c1 c2 iv ov ev lo b) (hx : Bytes w x (frameBytes 4 0 0 [])) (hlo : lo.length ≤ 100000)
    (hend : ∀ iv' A c w', CI w' cb c0 c1 c2 iv' (.slice A (lo.length + 9) c) (.slice none 0 0) (lo ++ frameBytes 4 1 0 []) true → Mod (fp cb iv ov) w w' → (∀ g, fp cb iv' (.slice A (lo.length + 9) c) g → fp cb iv ov g ∨ w.heap.size ≤ g) → R (.returned (.slice none 0 0)) w') :
    Calls Try.prog 9 #[.pointer (some ⟨cb, 0, none⟩), x] w R := by
  have n1 := own_blk_ne hci.inn hci.blk (by decide)
  have n2 := own_blk_ne hci.out hci.blk (by decide)
  refine feed_one cb _ iv x 4 0 0 [] w R (fun w1 w2 cs2 ev2 => ev2 = .slice none 0 0 ∧ ∃ iv' A c, CI w2 cb c0 c1 c2 iv' (.slice A (lo.length + 9) c) (.slice none 0 0) (lo ++ frameBytes 4 1 0 []) true ∧ Mod (fun g => g = cb ∨ ov.ownBlock = some g) w1 w2 ∧
      (∀ g, fp cb iv' (.slice A (lo.length + 9) c) g → fp cb iv ov g ∨ w.heap.size ≤ g)) hci.blk rfl hci.inn rfl (by simp) hx (by omega) (by omega) (by omega) (by simp) ?_ ?_
  · intro A c B c' w1 hb1 hA1 hB1 hm1 nA nB R' hR'
    have ho1 : w1.ownsRow 0 5 1 ov lo.length (lo.map bv) := own_keep hci.out hm1 (fun g hg e => by
      rcases e with e | e
      · exact n2 g hg e
      · exact hci.ne g e hg)
    have hb1' : Blk w1 cb 55 #[c0, c1, c2, .slice none 0 0, .slice B 0 c', ov, .int .i64 2000, .int .i64 2000, .int .i64 2000, .int .i64 0, .bool b, .bool false, .pointer none, .slice none 0 0] := by simpa using hb1
    refine hear_set cb _ ov lo _ b w1 R' hb1' rfl rfl rfl rfl ho1 (by omega) hA1 ?_
    intro A2 c2' w2 hb2 ho2 hm2 hat2
    have hb2' : Blk w2 cb 55 #[c0, c1, c2, .slice none 0 0, .slice B 0 c', .slice A2 (lo.length + 9) c2', .int .i64 2000, .int .i64 2000, .int .i64 2000, .int .i64 0, .bool true, .bool false, .pointer none, .slice none 0 0] := by simpa using hb2
    have hne1 := own_blk_ne hB1 hb1 (by decide)
    have hB2 := own_keep hB1 hm2 (fun g hg e => by
      rcases e with e | e
      · exact hne1 g hg e
      · have := own_lt hci.out g e; have := nB g hg; omega)
    refine hR' w2 _ _ hb2' rfl hB2 rfl rfl ⟨rfl, _, A2, c2', ⟨hb2', hB2, ?_, ?_⟩, hm2, ?_⟩
    · simpa [frameBytes_length] using ho2
    · intro g hg e
      have h1 := nB g hg
      rcases hat2 g e with e | e
      · have := own_lt hci.out g e; omega
      · have := own_lt hB1 g hg; omega
    · rintro g (rfl | e | e)
      · exact .inl (.inl rfl)
      · exact .inr (nB g e)
      · rcases hat2 g e with e | e
        · exact .inl (.inr (.inr e))
        · exact .inr (by have := hm1.size; omega)
  · rintro w1 w2 w3 cs2 ev2 ⟨rfl, iv', A, c, hci2, hm2, hfp⟩ hm1 hm3
    refine hend iv' A c w3 (hci2.old hm3) ?_ hfp
    refine ((hm1.weaken (G := fp cb iv ov) ?_).trans hm2 ?_).trans hm3 (fun _ f _ => f.elim)
    · rintro g (e | e) _
      · exact .inl e
      · exact .inr (.inl e)
    · rintro g (e | e) _
      · exact .inl e
      · exact .inr (.inr e)

theorem ci_ping (w : World) (cb : Nat) (c0 c1 c2 iv ov ev x : Value) (lo l : List UInt8) (R : Ending → World → Prop) (hci : CI w cb c0 c1 c2 iv ov ev lo true) (hx : Bytes w x (frameBytes 5 0 0 l)) (hl : l.length = 8) (hlo : lo.length ≤ 100000)
    (hend : ∀ iv' A c w', CI w' cb c0 c1 c2 iv' (.slice A (lo.length + (9 + l.length)) c) (.slice none 0 0) (lo ++ frameBytes 5 1 0 l) true → Mod (fp cb iv ov) w w' → (∀ g, fp cb iv' (.slice A (lo.length + (9 + l.length)) c) g → fp cb iv ov g ∨ w.heap.size ≤ g) → R (.returned (.slice none 0 0)) w') :
    Calls Try.prog 9 #[.pointer (some ⟨cb, 0, none⟩), x] w R := by
  have n1 := own_blk_ne hci.inn hci.blk (by decide)
  have n2 := own_blk_ne hci.out hci.blk (by decide)
  have hcb := hci.blk.lt
  refine feed_one cb _ iv x 5 0 0 l w R (fun w1 w2 cs2 ev2 => ev2 = .slice none 0 0 ∧ ∃ iv' A c, CI w2 cb c0 c1 c2 iv' (.slice A (lo.length + (9 + l.length)) c) (.slice none 0 0) (lo ++ frameBytes 5 1 0 l) true ∧ Mod (fun g => g = cb ∨ ov.ownBlock = some g) w1 w2 ∧
      (∀ g, fp cb iv' (.slice A (lo.length + (9 + l.length)) c) g → fp cb iv ov g ∨ w.heap.size ≤ g)) hci.blk rfl hci.inn rfl (by simp) hx (by omega) (by omega) (by omega) (by omega) ?_ ?_
  · intro A c B c' w1 hb1 hA1 hB1 hm1 nA nB R' hR'
    have ho1 : w1.ownsRow 0 5 1 ov lo.length (lo.map bv) := own_keep hci.out hm1 (fun g hg e => by
      rcases e with e | e
      · exact n2 g hg e
      · exact hci.ne g e hg)
    have hb1' : Blk w1 cb 55 #[c0, c1, c2, .slice none 0 0, .slice B 0 c', ov, .int .i64 2000, .int .i64 2000, .int .i64 2000, .int .i64 0, .bool true, .bool false, .pointer none, .slice none 0 0] := by simpa using hb1
    refine hear_ping cb _ ov lo _ l w1 R' hb1' rfl rfl rfl ho1 (by omega) hA1 hl (fun g hg e => by have := nA g hg; omega) ?_
    intro A2 c2' w2 hb2 ho2 hm2 hat2
    have hb2' : Blk w2 cb 55 #[c0, c1, c2, .slice none 0 0, .slice B 0 c', .slice A2 (lo.length + (9 + l.length)) c2', .int .i64 2000, .int .i64 2000, .int .i64 2000, .int .i64 0, .bool true, .bool false, .pointer none, .slice none 0 0] := by simpa using hb2
    have hne1 := own_blk_ne hB1 hb1 (by decide)
    have hB2 := own_keep hB1 hm2 (fun g hg e => by
      rcases e with e | e
      · exact hne1 g hg e
      · have := own_lt hci.out g e; have := nB g hg; omega)
    refine hR' w2 _ _ hb2' rfl hB2 rfl rfl ⟨rfl, _, A2, c2', ⟨hb2', hB2, ?_, ?_⟩, hm2, ?_⟩
    · simpa [frameBytes_length] using ho2
    · intro g hg e
      have h1 := nB g hg
      rcases hat2 g e with e | e
      · have := own_lt hci.out g e; omega
      · have := own_lt hB1 g hg; omega
    · rintro g (rfl | e | e)
      · exact .inl (.inl rfl)
      · exact .inr (nB g e)
      · rcases hat2 g e with e | e
        · exact .inl (.inr (.inr e))
        · exact .inr (by have := hm1.size; omega)
  · rintro w1 w2 w3 cs2 ev2 ⟨rfl, iv', A, c, hci2, hm2, hfp⟩ hm1 hm3
    refine hend iv' A c w3 (hci2.old hm3) ?_ hfp
    refine ((hm1.weaken (G := fp cb iv ov) ?_).trans hm2 ?_).trans hm3 (fun _ f _ => f.elim)
    · rintro g (e | e) _
      · exact .inl e
      · exact .inr (.inl e)
    · rintro g (e | e) _
      · exact .inl e
      · exact .inr (.inr e)

theorem ci_other (w : World) (cb : Nat) (c0 c1 c2 iv ov ev x : Value) (lo l : List UInt8) (k f s : Int) (R : Ending → World → Prop) (hci : CI w cb c0 c1 c2 iv ov ev lo true) (hx : Bytes w x (frameBytes k f s l))
    (hk : 7 < k ∧ k ≤ 255) (hf : 0 ≤ f ∧ f ≤ 255) (hs : 0 ≤ s ∧ s ≤ 2147483647) (hl : l.length ≤ 1024)
    (hend : ∀ iv' w', CI w' cb c0 c1 c2 iv' ov (.slice none 0 0) lo true → Mod (fp cb iv ov) w w' → (∀ g, fp cb iv' ov g → fp cb iv ov g ∨ w.heap.size ≤ g) → R (.returned (.slice none 0 0)) w') :
    Calls Try.prog 9 #[.pointer (some ⟨cb, 0, none⟩), x] w R := by
  have n1 := own_blk_ne hci.inn hci.blk (by decide)
  have n2 := own_blk_ne hci.out hci.blk (by decide)
  have hcb := hci.blk.lt
  refine feed_one cb _ iv x k f s l w R (fun w1 w2 cs2 ev2 => ev2 = .slice none 0 0 ∧ ∃ iv', CI w2 cb c0 c1 c2 iv' ov (.slice none 0 0) lo true ∧ Mod (fun g => g = cb) w1 w2 ∧
      (∀ g, fp cb iv' ov g → fp cb iv ov g ∨ w.heap.size ≤ g)) hci.blk rfl hci.inn rfl (by simp) hx (by omega) hf hs hl ?_ ?_
  · intro A c B c' w1 hb1 hA1 hB1 hm1 nA nB R' hR'
    have ho1 : w1.ownsRow 0 5 1 ov lo.length (lo.map bv) := own_keep hci.out hm1 (fun g hg e => by
      rcases e with e | e
      · exact n2 g hg e
      · exact hci.ne g e hg)
    have hb1' : Blk w1 cb 55 #[c0, c1, c2, .slice none 0 0, .slice B 0 c', ov, .int .i64 2000, .int .i64 2000, .int .i64 2000, .int .i64 0, .bool true, .bool false, .pointer none, .slice none 0 0] := by simpa using hb1
    refine hear_other cb _ k f s _ l w1 R' hb1' rfl rfl hA1 (by omega) ?_
    intro w2 hb2 hm2
    have hb2' : Blk w2 cb 55 #[c0, c1, c2, .slice none 0 0, .slice B 0 c', ov, .int .i64 2000, .int .i64 2000, .int .i64 2000, .int .i64 0, .bool true, .bool false, .pointer none, .slice none 0 0] := by simpa using hb2
    have hne1 := own_blk_ne hB1 hb1 (by decide)
    have hB2 := own_keep hB1 hm2 (fun g hg e => hne1 g hg e)
    refine hR' w2 _ _ hb2' rfl hB2 rfl rfl ⟨rfl, _, ⟨hb2', hB2, own_keep ho1 hm2 (fun g hg e => n2 g hg e), ?_⟩, hm2, ?_⟩
    · intro g hg e
      have h1 := nB g hg
      have := own_lt hci.out g e; omega
    · rintro g (rfl | e | e)
      · exact .inl (.inl rfl)
      · exact .inr (nB g e)
      · exact .inl (.inr (.inr e))
  · rintro w1 w2 w3 cs2 ev2 ⟨rfl, iv', hci2, hm2, hfp⟩ hm1 hm3
    refine hend iv' w3 (hci2.old hm3) ?_ hfp
    refine ((hm1.weaken (G := fp cb iv ov) ?_).trans hm2 ?_).trans hm3 (fun _ f _ => f.elim)
    · rintro g (e | e) _
      · exact .inl e
      · exact .inr (.inl e)
    · rintro g e _
      exact .inl e

theorem ci_bye (w : World) (cb : Nat) (c0 c1 c2 iv ov ev x : Value) (lo : List UInt8) (b0 b1 b2 b3 b4 b5 b6 b7 : UInt8) (R : Ending → World → Prop) (hci : CI w cb c0 c1 c2 iv ov ev lo true) (hx : Bytes w x (frameBytes 6 0 0 [b0, b1, b2, b3, b4, b5, b6, b7]))
    (hend : ∀ A c w', w'.ownsRow 0 41 6 (.slice A 1 c) 1 [.int .i64 5, .int .i64 0, .int .i64 (unbe [b4, b5, b6, b7]), .slice none 0 0, .slice none 0 0, .bool false] → (∃ cs, Blk w' cb 55 cs ∧ cs[11]? = some (.bool false)) → Mod (fp cb iv ov) w w' → R (.returned (.slice A 1 c)) w') :
    Calls Try.prog 9 #[.pointer (some ⟨cb, 0, none⟩), x] w R := by
  have n1 := own_blk_ne hci.inn hci.blk (by decide)
  have n2 := own_blk_ne hci.out hci.blk (by decide)
  have hcb := hci.blk.lt
  refine feed_one cb _ iv x 6 0 0 [b0, b1, b2, b3, b4, b5, b6, b7] w R (fun w1 w2 cs2 ev2 => ∃ A c, ev2 = .slice A 1 c ∧ w2.ownsRow 0 41 6 (.slice A 1 c) 1 [.int .i64 5, .int .i64 0, .int .i64 (unbe [b4, b5, b6, b7]), .slice none 0 0, .slice none 0 0, .bool false] ∧
      (∃ cs, Blk w2 cb 55 cs ∧ cs[11]? = some (.bool false)) ∧ Mod (fun g => g = cb) w1 w2) hci.blk rfl hci.inn rfl (by simp) hx (by omega) (by omega) (by omega) (by simp) ?_ ?_
  · intro A c B c' w1 hb1 hA1 hB1 hm1 nA nB R' hR'
    have hb1' : Blk w1 cb 55 #[c0, c1, c2, .slice none 0 0, .slice B 0 c', ov, .int .i64 2000, .int .i64 2000, .int .i64 2000, .int .i64 0, .bool true, .bool false, .pointer none, .slice none 0 0] := by simpa using hb1
    refine hear_bye cb _ (.slice none 0 0) 0 _ b0 b1 b2 b3 b4 b5 b6 b7 w1 R' hb1' rfl rfl rfl (World.ownsRow_nil _ _ _ _) hA1 (fun g hg e => by have := nA g hg; omega) ?_
    intro A2 c2' w2 hb2 he2 hm2 hat2
    have hb2' : Blk w2 cb 55 #[c0, c1, c2, .slice none 0 0, .slice B 0 c', ov, .int .i64 2000, .int .i64 2000, .int .i64 2000, .int .i64 0, .bool true, .bool false, .pointer none, .slice A2 1 c2'] := by simpa using hb2
    have hm2' : Mod (fun g => g = cb) w1 w2 := hm2.weaken (fun g e _ => by
      rcases e with e | e
      · exact e
      · simp [Value.ownBlock] at e)
    have hne1 := own_blk_ne hB1 hb1 (by decide)
    refine hR' w2 _ _ hb2' rfl (own_keep hB1 hm2' (fun g hg e => hne1 g hg e)) rfl rfl ⟨A2, c2', rfl, he2, ⟨_, hb2', rfl⟩, hm2'⟩
  · rintro w1 w2 w3 cs2 ev2 ⟨A, c, rfl, he2, ⟨cs3, hb3, h11⟩, hm2⟩ hm1 hm3
    refine hend A c w3 (own_keep he2 hm3 (fun _ _ f => f)) ⟨cs3, hb3.old hm3, h11⟩ ?_
    refine ((hm1.weaken (G := fp cb iv ov) ?_).trans hm2 ?_).trans hm3 (fun _ f _ => f.elim)
    · rintro g (e | e) _
      · exact .inl e
      · exact .inr (.inl e)
    · rintro g e _
      exact .inl e

end Go.Proofs.Ytnoolamgbmnmfaa
