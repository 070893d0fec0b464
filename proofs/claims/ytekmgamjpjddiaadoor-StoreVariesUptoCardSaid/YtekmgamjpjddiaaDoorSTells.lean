/- The walk of StoreTells. -/
import Derived.Test.YtekmgamjpjddiaaDoorSSame
namespace Go.Proofs.YtekmgamjpjddiaaDoor
open Go Go.RowKit
set_option maxRecDepth 100000

def factL : Fs := [(⟨#[99, 97, 99, 104, 101]⟩, ⟨#[109, 97, 120, 45, 51, 48]⟩)]
theorem factL_life : lifeOf factL = 30 := by decide +kernel
theorem factL_small : Small factL := by
  refine ⟨by decide, fun x hx => ?_⟩
  simp only [factL, List.mem_singleton] at hx
  subst hx
  exact ⟨by decide, by decide⟩
theorem differs_self (a : Fs) (n : ByteArray) : differs a a n = false := by simp [differs]

set_option maxHeartbeats 3200000 in
theorem tells_out (m p o : ByteArray) (Ar Av Ab Abb Ap : Option Addr) (nr cr nv cv nb cb nbb cbb np cp : Nat) (code now later : Int) (w : World) (R : Ending → World → Prop) (hG : Glob w) (hno : ¬ (0 ≤ now ∧ now ≤ 100000 ∧ 0 ≤ later ∧ later ≤ 100000))
    (hR : ∀ w', Mod None' w w' → R (.returned (.bool true)) w') :
    Calls Tryd.prog 3 #[.agg #[.string m, .string p, .string o, .slice Ar nr cr, .slice Abb nbb cbb], .agg #[.int .i64 code, .slice Av nv cv, .slice Ab nb cb], .int .i64 now, .int .i64 later, .slice Ap np cp] w R := by
  have m2 := (((Mod.refl None' w).alloc (.cells #[.string m, .string p, .string o, .slice Ar nr cr, .slice Abb nbb cbb] 25)).alloc (.cells #[.int .i64 code, .slice Av nv cv, .slice Ab nb cb] 27)).alloc (.cells #[.string ⟨#[99, 97, 99, 104, 101]⟩, .string ⟨#[109, 97, 120, 45, 51, 48]⟩] 31)
  go_enter Tryd.func3, Tryd.ntmps3
  go_upto_region 2 with (go_at_call 5; refine life_spec factL _ _ _ _ _ (Row.of_blk (Blk.at (t := 31) (cs := #[.string ⟨#[99, 97, 99, 104, 101]⟩, .string ⟨#[109, 97, 120, 45, 51, 48]⟩]) (by simp)) 1 2 1 rfl (by omega) (by simp [maxLen])) factL_small (hG.old m2) ?_; intro w1 m1)
  rw [factL_life]
  go_wp2_with (fail)
  all_goals first
    | exact m2.then m1
    | (exfalso; apply hno; constructor <;> omega)
    | trace_state

theorem Mod.start_size {F G : Nat → Prop} {a b c : World} (h : Mod F a b) (_ : Mod G b c) : a.heap.size ≤ b.heap.size := h.size
theorem Row.inside {w : World} {v : Value} {n : Nat} {l : Fs} (h : Row w v n 2 (fcells l)) : n = 0 ∨ ∀ g, v.ownBlock = some g → g < w.heap.size := by
  rcases Nat.eq_zero_or_pos n with h0 | h0
  · exact .inl h0
  · have hl : l.length = n := by have := h.1; rw [fcells_length] at this; omega
    obtain ⟨_, g, o, c, rfl, _, _, hc⟩ := h.field (by omega)
    right
    intro g' hg'
    simp only [Value.ownBlock, Option.some.injEq] at hg'
    subst hg'
    exact cell_lt (hc 0 (by omega)).1
theorem IsKV.form {x : KV} {m p o : ByteArray} {fs l : Fs} {body : List UInt8} {now : Int} (h : IsKV x m p o fs l body now) : ∃ f rf rb v, x = ⟨m, p, o, fs, 200, l, body, varyOf l, now, f, rf, rb, v⟩ := by
  obtain ⟨xm, xp, xo, xfs, xcode, xrfs, xbody, xvary, xat, xf, xrf, xrb, xv⟩ := x
  obtain ⟨h1, h2, h3, h4, h5, h6, h7, h8, h9⟩ := h
  dsimp only at h1 h2 h3 h4 h5 h6 h7 h8 h9
  subst h1 h2 h3 h4 h5 h6 h7 h8 h9
  exact ⟨_, _, _, _, rfl⟩
theorem getB_put {x : KV} {m p o : ByteArray} {fs l : Fs} {body : List UInt8} {now t : Int} (h : IsKV x m p o fs l body now) (hget : m.toList = [71, 69, 84]) : getB x m o p fs t = (decide (0 ≤ t - now) && decide (t - now < lifeOf l)) := by
  unfold getB fitsB
  rw [h.o, h.p, h.fs, h.at_, h.rfs, decide_eq_true hget]
  have : x.vary.any (differs fs fs) = false := by rw [List.any_eq_false]; intro n _; simp [differs_self]
  rw [this]
  simp
theorem lastOf_one (x : KV) (m o p : ByteArray) (l : Fs) (t : Int) : lastOf [x] m o p l t = if getB x m o p l t = true then some x else none := by
  unfold lastOf
  simp only [List.reverse_singleton, List.find?_cons, List.find?_nil]
  cases getB x m o p l t <;> rfl

theorem lastOf_other (xs : List KV) (m o q : ByteArray) (l : Fs) (t : Int) (h : ∀ x ∈ xs, (x.p.toList == q.toList) = false) : lastOf xs m o q l t = none := by
  unfold lastOf
  rw [List.find?_eq_none]
  intro x hx
  have := h x (List.mem_reverse.1 hx)
  simp [getB, fitsB, this]

set_option maxHeartbeats 6400000 in
theorem tells_kept (m p o : ByteArray) (rf rb af ab pv : Value) (now later : Int) (fs l : Fs) (body : List UInt8) (paths : List ByteArray) (w : World) (R : Ending → World → Prop) (hG : Glob w)
    (hn0 : 0 ≤ now) (hn1 : now ≤ 100000) (hl0 : 0 ≤ later) (hl1 : later ≤ 100000)
    (hr : Row w rf fs.length 2 (fcells fs)) (hv : Row w af l.length 2 (fcells l)) (hb : Bytes w ab body) (hpv : Row w pv paths.length 1 (paths.map .string)) (hrb : ∃ A n c, rb = .slice A n c) (hfs : Small fs) (hs : Small l) (hlb : body.length ≤ 1048576) (hpl : paths.length ≤ 1048576)
    (hget : m.toList = [71, 69, 84]) (hlf : (lifeOf l == 0) = false)
    (hR : ∀ w', Mod None' w w' → R (.returned (.bool true)) w') :
    Calls Tryd.prog 3 #[.agg #[.string m, .string p, .string o, rf, rb], .agg #[.int .i64 200, af, ab], .int .i64 now, .int .i64 later, pv] w R := by
  obtain ⟨Ar, cr, rfl, _, _⟩ := hr.form
  obtain ⟨Av, cv, rfl, _, _⟩ := hv.form
  obtain ⟨Ab, cb, rfl, _, _⟩ := hb.form
  obtain ⟨Ap, cp, rfl, _, _⟩ := hpv.form
  obtain ⟨Abb, nbb, cbb, rfl⟩ := hrb
  have m2 := (((Mod.refl None' w).alloc (.cells #[.string m, .string p, .string o, .slice Ar fs.length cr, .slice Abb nbb cbb] 25)).alloc (.cells #[.int .i64 200, .slice Av l.length cv, .slice Ab body.length cb] 27)).alloc (.cells #[.string ⟨#[99, 97, 99, 104, 101]⟩, .string ⟨#[109, 97, 120, 45, 51, 48]⟩] 31)
  have hq5 := ((Blk.new w 25 #[.string m, .string p, .string o, .slice Ar fs.length cr, .slice Abb nbb cbb]).alloc (.cells #[.int .i64 200, .slice Av l.length cv, .slice Ab body.length cb] 27)).alloc (.cells #[.string ⟨#[99, 97, 99, 104, 101]⟩, .string ⟨#[109, 97, 120, 45, 51, 48]⟩] 31)
  have hq6 : Blk _ (w.heap.size + 1) 27 #[.int .i64 200, .slice Av l.length cv, .slice Ab body.length cb] := (Blk.at (w := w.alloc (.cells #[.string m, .string p, .string o, .slice Ar fs.length cr, .slice Abb nbb cbb] 25)) (by simp)).alloc (.cells #[.string ⟨#[99, 97, 99, 104, 101]⟩, .string ⟨#[109, 97, 120, 45, 51, 48]⟩] 31)
  go_enter Tryd.func3, Tryd.ntmps3
  go_upto_region 2 with (go_at_call 5; refine life_spec factL _ _ _ _ _ (Row.of_blk (Blk.at (t := 31) (cs := #[.string ⟨#[99, 97, 99, 104, 101]⟩, .string ⟨#[109, 97, 120, 45, 51, 48]⟩]) (by simp)) 1 2 1 rfl (by omega) (by simp [maxLen])) factL_small (hG.old m2) ?_; intro w1 m1)
  rw [factL_life]
  have k5 := hq5.old m1
  have k6 := hq6.old m1
  have mw1 := m2.then m1
  have hr1 := hr.old mw1
  have hv1 := hv.old mw1
  have hb1 := hb.old mw1
  have hpv1 := hpv.old mw1
  have hG1 := hG.old mw1
  clear hq5 hq6 m2 m1
  go_upto_region 7 with (go_at_call 6; refine new_spec _ _ ?_; intro w2 pb hpb m2 hH2)
  have ht : (decide (0 ≤ now) && decide (now ≤ 1000000)) = true := by simp; omega
  have j5 := (k5.old m2).cell
  have j6 := (k6.old m2).cell
  go_upto_region 8 with (go_at_call 7; refine put_yes pb m p o _ _ now _ _ (.slice none 0 0) fs l body [] _ _ ht (hr1.old m2) (hv1.old m2) (hb1.old m2) hfs hs hlb (hG1.old m2) hget hlf ⟨_, _, _, rfl⟩ hH2 (.inr (by simp [Value.ownBlock])) ?_; intro w3 sv X hX hH3 m3 hn3)
  have hH3' : Holds' w3 pb sv [X] := hH3
  have ma : Mod None' w1 w3 := m2.trans m3 fun b hb hlt => by rcases hb with rfl | hb; omega; simp [Value.ownBlock] at hb
  have hnb : ∀ g, sv.ownBlock = some g → w1.heap.size ≤ g := fun g hg => by
    rcases hn3 g hg with h1 | h1
    · simp [Value.ownBlock] at h1
    · have := m2.size; omega
  clear j5 j6 hH3 m3 hn3 hH2
  have k5' := k5.old ma
  have k6' := k6.old ma
  have j5 := k5'.cell
  have j6 := k6'.cell
  have hlife := lifeText_bounds ((firstOf l ⟨#[99, 97, 99, 104, 101]⟩).getD ByteArray.empty)
  have hlf1 : decide (lifeOf l < 1) = false := by
    have h0 : lifeOf l ≠ 0 := by simpa using hlf
    have h1 : 0 ≤ lifeOf l := hlife.1
    simp; omega
  have hget' : (m.toList != [71, 69, 84]) = false := by simp [hget]
  have hv3 := hv1.old ma
  have hG3 := hG1.old ma
  obtain ⟨Xf, Xrf, Xrb, Xv, hXe⟩ := hX.form
  have hgl : lastOf [X] m o p fs (now + later) = if later < lifeOf l then some X else none := by
    rw [lastOf_one, getB_put hX hget]
    have e1 : now + later - now = later := by omega
    rw [e1, decide_eq_true hl0, Bool.true_and]
    by_cases hlt : later < lifeOf l <;> simp [hlt]
  have ht2 : (decide (0 ≤ now + later) && decide (now + later ≤ 1000000)) = true := by simp; omega
  have hf0 : decide (now < 0) = false := by simp; omega
  have hf1 : decide (100000 < now) = false := by simp; omega
  have hf2 : decide (later < 0) = false := by simp; omega
  have hf3 : decide (100000 < later) = false := by simp; omega
  have mwa := mw1.then ma
  have hw01 := mw1.size
  have hrfl : fs.length = 0 ∨ ∀ g, (Value.slice Ar fs.length cr).ownBlock = some g → g < w1.heap.size := hr1.inside
  have hw1a := ma.size
  have he1 : now + later - now = later := by omega
  by_cases hlt : later < lifeOf l
  case' pos =>
    rw [if_pos hlt] at hgl
    go_upto_region 20 with (first
      | (go_at_call 8; refine len_spec pb sv [X] _ _ hH3' ?_)
      | (go_at_call 5; refine life_spec l _ _ _ _ _ hv3 hs hG3 ?_; intro w4 m4; have i5 := (k5'.old m4).cell; have i6 := (k6'.old m4).cell; have hr4 := (hr1.old ma).old m4; have hG4 := hG3.old m4; have hH4 := hH3'.old m4)
      | (go_at_call 9; refine get_spec pb m p o _ _ (now + later) sv fs [X] _ _ ht2 hr4 hfs hG4 ⟨_, _, _, rfl⟩ hH4 ?_; intro w5 v5 m5 htold; rw [hgl, hXe] at htold; obtain ⟨fv, bd, hve, ho1, ho2⟩ := htold; dsimp only at ho1 ho2 hve; rw [he1] at hve; subst hve; obtain ⟨G1, e1, rfl, _, _⟩ := ho1.form; obtain ⟨G2, e2, rfl, _, _⟩ := ho2.form; have i6' := ((k6'.old m4).old m5).cell; have l6 := ((k6'.old m4).old m5).lt)
      | (go_at_call 10; refine sameReply_spec 200 l body _ _ _ _ _ _ (ho1.row.alloc _) (((hv3.old m4).old m5).alloc _) (by have := hs.1; omega) (ho2.row.alloc _) ((((hb1.old ma).old m4).old m5).alloc _) ?_; intro w6 m6))
    have mc : Mod None' w3 w6 := ((m4.then m5).alloc _).then m6
    have hHx := hH3'.old mc
    have mx := ma.then mc
    clear m4 m5 m6 mc i5 i6 i6' l6 hr4 hG4 hH4 ho1 ho2 hgl
  case' neg =>
    rw [if_neg hlt] at hgl
    have hdl : decide (later < lifeOf l) = false := by simp; omega
    go_upto_region 20 with (first
      | (go_at_call 8; refine len_spec pb sv [X] _ _ hH3' ?_)
      | (go_at_call 5; refine life_spec l _ _ _ _ _ hv3 hs hG3 ?_; intro w4 m4; have i5 := (k5'.old m4).cell; have i6 := (k6'.old m4).cell; have hr4 := (hr1.old ma).old m4; have hG4 := hG3.old m4; have hH4 := hH3'.old m4)
      | (go_at_call 9; refine get_spec pb m p o _ _ (now + later) sv fs [X] _ _ ht2 hr4 hfs hG4 ⟨_, _, _, rfl⟩ hH4 ?_; intro w5 v5 m5 htold; rw [hgl] at htold; cases htold))
    have mc : Mod None' w3 _ := (m4.then m5).alloc (.cells #[.int .i64 0, .slice none 0 0, .slice none 0 0] 27)
    have hHx := hH3'.old mc
    have mx := ma.then mc
    clear m4 m5 mc i5 i6 hr4 hG4 hH4 hgl
  all_goals
    obtain ⟨xsx, hxsx⟩ : ∃ z, z = [X] := ⟨_, rfl⟩
    obtain ⟨svx, hsvx⟩ : ∃ z, z = sv := ⟨_, rfl⟩
    rw [← hxsx, ← hsvx] at hHx
    have hxp : ∀ x ∈ xsx, x.p = p := fun x hx => by rw [hxsx, List.mem_singleton] at hx; rw [hx]; exact hX.p
    have hnbx := hnb
    rw [← hsvx] at hnbx
    clear hH3' hnb hsvx hxsx j5 j6
    go_wp2_with (fail)
    go_loopw [20] (fun i wr => ∃ (k : Nat) (sv : Value) (xs : List KV), k ≤ paths.length ∧ i = .int .i64 k ∧ Holds' wr pb sv xs ∧ (k = 0 → ∀ x ∈ xs, x.p = p) ∧ Mod None' w1 wr ∧ (∀ g, sv.ownBlock = some g → w1.heap.size ≤ g)) (fun i _ => paths.length - (intOf i).toNat)
    case atStart => exact ⟨0, svx, xsx, Nat.zero_le _, rfl, hHx, fun _ => hxp, mx, hnbx⟩
    case round =>
      clear hHx hxp mx hnbx
      obtain ⟨k, sw, ys, hk, rfl, hHr, hkp, mr, hnr⟩ := hrel
      have k5r := k5.old mr
      have k6r := k6.old mr
      have l5 := k5r.lt
      have j50 := k5r.cell 0
      have j51 := k5r.cell 1
      have j52 := k5r.cell 2
      have j53 := k5r.cell 3
      have j54 := k5r.cell 4
      have l6 := k6r.lt
      have j60 := k6r.cell 0
      have j61 := k6r.cell 1
      have j62 := k6r.cell 2
      by_cases hkl : k < paths.length
      · by_cases h40 : k < 40
        · obtain ⟨gp, op, cp', hsp, hcp⟩ := hpv1.text (by omega)
          injection hsp with e1 _ e2
          subst e1 e2
          have hpc : wr.cell? ⟨gp, op + k, none⟩ = some (.string paths[k]) := (mr.none_cell _ _ (cell_lt (hcp k hkl))).trans (hcp k hkl)
          have hpcl := cell_lt hpc
          dsimp only at hpcl
          clear hcp
          have hxr : ∀ {W : World}, Mod None' w1 W → Row W (.slice Ar fs.length cr) fs.length 2 (fcells fs) := fun hm => hr1.old hm
          have hki0 : (0 : Int) ≤ k := by omega
          have hki1 : (k : Int) < paths.length := by omega
          have hwr := mr.size
          have hpe1 : k < 40 := h40
          have hki2 : decide ((k : Int) < 40) = true := by simp; omega
          by_cases hpe : (paths[k].toList == p.toList) = true
          · have hpe2 : (paths[k].toList != p.toList) = false := by simp [bne, hpe]
            go_wp2_with (fail)
            go_quiet (fail)
            go_wp2_with (first | (go_at_call 7; refine put_yes pb m paths[k] o _ _ now _ _ sw fs l body ys _ _ ht (Row.old hr1 (mr.then (by with_reducible (repeat (first | exact Mod.refl _ _ | assumption | apply Mod.drewN | apply Mod.drew | apply Mod.alloc))))) (Row.old hv1 (mr.then (by with_reducible (repeat (first | exact Mod.refl _ _ | assumption | apply Mod.drewN | apply Mod.drew | apply Mod.alloc))))) (Bytes.old hb1 (mr.then (by with_reducible (repeat (first | exact Mod.refl _ _ | assumption | apply Mod.drewN | apply Mod.drew | apply Mod.alloc))))) hfs hs hlb (Glob.old hG1 (mr.then (by with_reducible (repeat (first | exact Mod.refl _ _ | assumption | apply Mod.drewN | apply Mod.drew | apply Mod.alloc))))) hget hlf ⟨_, _, _, rfl⟩ (Holds'.old hHr (by with_reducible (repeat (first | exact Mod.refl _ _ | assumption | apply Mod.drewN | apply Mod.drew | apply Mod.alloc)))) (hrfl.imp id fun hh g hg e => by have := hh g hg; have := hnr g e; omega) ?_; intro w8 sv8 X8 hX8 hH8 m8 hn8; have mwr := (mr.then (by with_reducible (repeat (first | exact Mod.refl _ _ | assumption | apply Mod.drewN | apply Mod.drew | apply Mod.alloc)))).trans m8 (fun b hb hlt => by rcases hb with rfl | hb; omega; have := hnr b hb; omega); have mb8 : Mod None' w1 w8 := mwr; have hsz8 := Mod.start_size (mr.then (by with_reducible (repeat (first | exact Mod.refl _ _ | assumption | apply Mod.drewN | apply Mod.drew | apply Mod.alloc)))) m8; have hnb8 : ∀ g, sv8.ownBlock = some g → w1.heap.size ≤ g := (fun g hg => (hn8 g hg).elim (fun h1 => hnr g h1) (fun h1 => by omega)); obtain ⟨zs, hH8z⟩ : ∃ zs, Holds' w8 pb sv8 zs := ⟨_, hH8⟩; have hfew := hH8z.few) | (go_at_call 8; refine len_spec pb sv8 zs _ _ hH8z ?_))
            go_roundw
            case rel => exact ⟨k + 1, sv8, zs, by omega, by go_num, hH8z, fun h => by omega, mb8, hnb8⟩
            case measure => simp [intOf]; omega
          · have hpe0 : (paths[k].toList == p.toList) = false := by simpa using hpe
            have hpe2 : (paths[k].toList != p.toList) = true := by simp [bne, hpe0]
            by_cases hk0 : k = 0
            · have hz0 : ((k : Int) == 0) = true := by simp; omega
              have hgn : lastOf ys m o paths[k] fs now = none := lastOf_other _ _ _ _ _ _ fun x hx => by rw [hkp hk0 x hx]; simpa [BEq.comm] using hpe0
              clear hk0
              go_wp2_with (fail)
              go_quiet (fail)
              go_wp2_with (first | (go_at_call 9; refine get_spec pb m paths[k] o _ _ now sw fs ys _ _ ht (Row.old hr1 (mr.then (by with_reducible (repeat (first | exact Mod.refl _ _ | assumption | apply Mod.drewN | apply Mod.drew | apply Mod.alloc))))) hfs (Glob.old hG1 (mr.then (by with_reducible (repeat (first | exact Mod.refl _ _ | assumption | apply Mod.drewN | apply Mod.drew | apply Mod.alloc))))) ⟨_, _, _, rfl⟩ (Holds'.old hHr (by with_reducible (repeat (first | exact Mod.refl _ _ | assumption | apply Mod.drewN | apply Mod.drew | apply Mod.alloc)))) ?_; intro w7 v7 m7 htold; have mr7 : Mod None' wr w7 := Mod.then (by with_reducible (repeat (first | exact Mod.refl _ _ | assumption | apply Mod.drewN | apply Mod.drew | apply Mod.alloc))) m7; rw [hgn] at htold; cases htold; have l67 := (k6r.old mr7).lt; have j70 := (k6r.old mr7).cell 0; have j71 := (k6r.old mr7).cell 1; have j72 := (k6r.old mr7).cell 2; have hx7 := (((Blk.new wr 25 #[.string m, .string paths[k], .string o, .slice Ar fs.length cr, .slice Abb nbb cbb]).drewN _).old m7); have lx7 := hx7.lt; have x70 := hx7.cell 0; have x71 := hx7.cell 1; have x72 := hx7.cell 2; have x73 := hx7.cell 3; have x74 := hx7.cell 4) | (go_at_call 7; refine put_yes pb m paths[k] o _ _ now _ _ sw fs l body ys _ _ ht (Row.old hr1 (mr.then (by with_reducible (repeat (first | exact Mod.refl _ _ | assumption | apply Mod.drewN | apply Mod.drew | apply Mod.alloc))))) (Row.old hv1 (mr.then (by with_reducible (repeat (first | exact Mod.refl _ _ | assumption | apply Mod.drewN | apply Mod.drew | apply Mod.alloc))))) (Bytes.old hb1 (mr.then (by with_reducible (repeat (first | exact Mod.refl _ _ | assumption | apply Mod.drewN | apply Mod.drew | apply Mod.alloc))))) hfs hs hlb (Glob.old hG1 (mr.then (by with_reducible (repeat (first | exact Mod.refl _ _ | assumption | apply Mod.drewN | apply Mod.drew | apply Mod.alloc))))) hget hlf ⟨_, _, _, rfl⟩ (Holds'.old hHr (by with_reducible (repeat (first | exact Mod.refl _ _ | assumption | apply Mod.drewN | apply Mod.drew | apply Mod.alloc)))) (hrfl.imp id fun hh g hg e => by have := hh g hg; have := hnr g e; omega) ?_; intro w8 sv8 X8 hX8 hH8 m8 hn8; have mwr := (mr.then (by with_reducible (repeat (first | exact Mod.refl _ _ | assumption | apply Mod.drewN | apply Mod.drew | apply Mod.alloc)))).trans m8 (fun b hb hlt => by rcases hb with rfl | hb; omega; have := hnr b hb; omega); have mb8 : Mod None' w1 w8 := mwr; have hsz8 := Mod.start_size (mr.then (by with_reducible (repeat (first | exact Mod.refl _ _ | assumption | apply Mod.drewN | apply Mod.drew | apply Mod.alloc)))) m8; have hnb8 : ∀ g, sv8.ownBlock = some g → w1.heap.size ≤ g := (fun g hg => (hn8 g hg).elim (fun h1 => hnr g h1) (fun h1 => by omega)); obtain ⟨zs, hH8z⟩ : ∃ zs, Holds' w8 pb sv8 zs := ⟨_, hH8⟩; have hfew := hH8z.few) | (go_at_call 8; refine len_spec pb sv8 zs _ _ hH8z ?_))
              go_roundw
              case rel => exact ⟨k + 1, sv8, zs, by omega, by go_num, hH8z, fun h => by omega, mb8, hnb8⟩
              case measure => simp [intOf]; omega
            · have hz0 : ((k : Int) == 0) = false := by simp; omega
              clear hk0
              go_wp2_with (fail)
              go_quiet (fail)
              go_wp2_with (first | (go_at_call 7; refine put_yes pb m paths[k] o _ _ now _ _ sw fs l body ys _ _ ht (Row.old hr1 (mr.then (by with_reducible (repeat (first | exact Mod.refl _ _ | assumption | apply Mod.drewN | apply Mod.drew | apply Mod.alloc))))) (Row.old hv1 (mr.then (by with_reducible (repeat (first | exact Mod.refl _ _ | assumption | apply Mod.drewN | apply Mod.drew | apply Mod.alloc))))) (Bytes.old hb1 (mr.then (by with_reducible (repeat (first | exact Mod.refl _ _ | assumption | apply Mod.drewN | apply Mod.drew | apply Mod.alloc))))) hfs hs hlb (Glob.old hG1 (mr.then (by with_reducible (repeat (first | exact Mod.refl _ _ | assumption | apply Mod.drewN | apply Mod.drew | apply Mod.alloc))))) hget hlf ⟨_, _, _, rfl⟩ (Holds'.old hHr (by with_reducible (repeat (first | exact Mod.refl _ _ | assumption | apply Mod.drewN | apply Mod.drew | apply Mod.alloc)))) (hrfl.imp id fun hh g hg e => by have := hh g hg; have := hnr g e; omega) ?_; intro w8 sv8 X8 hX8 hH8 m8 hn8; have mwr := (mr.then (by with_reducible (repeat (first | exact Mod.refl _ _ | assumption | apply Mod.drewN | apply Mod.drew | apply Mod.alloc)))).trans m8 (fun b hb hlt => by rcases hb with rfl | hb; omega; have := hnr b hb; omega); have mb8 : Mod None' w1 w8 := mwr; have hsz8 := Mod.start_size (mr.then (by with_reducible (repeat (first | exact Mod.refl _ _ | assumption | apply Mod.drewN | apply Mod.drew | apply Mod.alloc)))) m8; have hnb8 : ∀ g, sv8.ownBlock = some g → w1.heap.size ≤ g := (fun g hg => (hn8 g hg).elim (fun h1 => hnr g h1) (fun h1 => by omega)); obtain ⟨zs, hH8z⟩ : ∃ zs, Holds' w8 pb sv8 zs := ⟨_, hH8⟩; have hfew := hH8z.few) | (go_at_call 8; refine len_spec pb sv8 zs _ _ hH8z ?_))
              go_roundw
              case rel => exact ⟨k + 1, sv8, zs, by omega, by go_num, hH8z, fun h => by omega, mb8, hnb8⟩
              case measure => simp [intOf]; omega
        · have hd40 : decide ((k : Int) < 40) = false := by simp; omega
          go_wp2_with (fail)
          exact mw1.then mr
      · obtain rfl : k = paths.length := by omega
        go_wp2_with (fail)
        all_goals exact mw1.then mr

set_option maxHeartbeats 6400000 in
theorem tells_no (m p o : ByteArray) (rf rb af ab pv : Value) (now later : Int) (fs l : Fs) (body : List UInt8) (paths : List ByteArray) (code : Int) (w : World) (R : Ending → World → Prop) (hG : Glob w)
    (hn0 : 0 ≤ now) (hn1 : now ≤ 100000) (hl0 : 0 ≤ later) (hl1 : later ≤ 100000)
    (hr : Row w rf fs.length 2 (fcells fs)) (hv : Row w af l.length 2 (fcells l)) (hb : Bytes w ab body) (hpv : Row w pv paths.length 1 (paths.map .string)) (hrb : ∃ A n c, rb = .slice A n c) (hfs : Small fs) (hs : Small l) (hlb : body.length ≤ 1048576) (hpl : paths.length ≤ 1048576)
    (hno : ¬ (m.toList = [71, 69, 84] ∧ code = 200 ∧ lifeOf l ≠ 0))
    (hR : ∀ w', Mod None' w w' → R (.returned (.bool true)) w') :
    Calls Tryd.prog 3 #[.agg #[.string m, .string p, .string o, rf, rb], .agg #[.int .i64 code, af, ab], .int .i64 now, .int .i64 later, pv] w R := by
  obtain ⟨Ar, cr, rfl, _, _⟩ := hr.form
  obtain ⟨Av, cv, rfl, _, _⟩ := hv.form
  obtain ⟨Ab, cb, rfl, _, _⟩ := hb.form
  obtain ⟨Ap, cp, rfl, _, _⟩ := hpv.form
  obtain ⟨Abb, nbb, cbb, rfl⟩ := hrb
  have m2 := (((Mod.refl None' w).alloc (.cells #[.string m, .string p, .string o, .slice Ar fs.length cr, .slice Abb nbb cbb] 25)).alloc (.cells #[.int .i64 code, .slice Av l.length cv, .slice Ab body.length cb] 27)).alloc (.cells #[.string ⟨#[99, 97, 99, 104, 101]⟩, .string ⟨#[109, 97, 120, 45, 51, 48]⟩] 31)
  have hq5 := ((Blk.new w 25 #[.string m, .string p, .string o, .slice Ar fs.length cr, .slice Abb nbb cbb]).alloc (.cells #[.int .i64 code, .slice Av l.length cv, .slice Ab body.length cb] 27)).alloc (.cells #[.string ⟨#[99, 97, 99, 104, 101]⟩, .string ⟨#[109, 97, 120, 45, 51, 48]⟩] 31)
  have hq6 : Blk _ (w.heap.size + 1) 27 #[.int .i64 code, .slice Av l.length cv, .slice Ab body.length cb] := (Blk.at (w := w.alloc (.cells #[.string m, .string p, .string o, .slice Ar fs.length cr, .slice Abb nbb cbb] 25)) (by simp)).alloc (.cells #[.string ⟨#[99, 97, 99, 104, 101]⟩, .string ⟨#[109, 97, 120, 45, 51, 48]⟩] 31)
  go_enter Tryd.func3, Tryd.ntmps3
  go_upto_region 2 with (go_at_call 5; refine life_spec factL _ _ _ _ _ (Row.of_blk (Blk.at (t := 31) (cs := #[.string ⟨#[99, 97, 99, 104, 101]⟩, .string ⟨#[109, 97, 120, 45, 51, 48]⟩]) (by simp)) 1 2 1 rfl (by omega) (by simp [maxLen])) factL_small (hG.old m2) ?_; intro w1 m1)
  rw [factL_life]
  have k5 := hq5.old m1
  have k6 := hq6.old m1
  have mw1 := m2.then m1
  have hr1 := hr.old mw1
  have hv1 := hv.old mw1
  have hb1 := hb.old mw1
  have hpv1 := hpv.old mw1
  have hG1 := hG.old mw1
  clear hq5 hq6 m2 m1
  go_upto_region 7 with (go_at_call 6; refine new_spec _ _ ?_; intro w2 pb hpb m2 hH2)
  have ht : (decide (0 ≤ now) && decide (now ≤ 1000000)) = true := by simp; omega
  have ht2 : (decide (0 ≤ now + later) && decide (now + later ≤ 1000000)) = true := by simp; omega
  have hf0 : decide (now < 0) = false := by simp; omega
  have hf1 : decide (100000 < now) = false := by simp; omega
  have hf2 : decide (later < 0) = false := by simp; omega
  have hf3 : decide (100000 < later) = false := by simp; omega
  have hgl : lastOf [] m o p fs (now + later) = none := rfl
  have j5 := (k5.old m2).cell
  have j6 := (k6.old m2).cell
  go_upto_region 20 with (first
    | (go_at_call 7; refine put_no pb m p o _ _ _ now _ _ l _ _ ht (hv1.old m2) hs (hG1.old m2) hno ?_; intro w3 m3; have ma : Mod None' w1 w3 := m2.then m3; have k5' := k5.old ma; have k6' := k6.old ma; have j5' := k5'.cell; have j6' := k6'.cell; have hH3' := hH2.old m3; have hv3 := hv1.old ma; have hG3 := hG1.old ma)
    | (go_at_call 8; refine len_spec pb (.slice none 0 0) [] _ _ hH3' ?_)
    | (go_at_call 5; refine life_spec l _ _ _ _ _ hv3 hs hG3 ?_; intro w4 m4; have i5 := (k5'.old m4).cell; have i6 := (k6'.old m4).cell; have hr4 := (hr1.old ma).old m4; have hG4 := hG3.old m4; have hH4 := hH3'.old m4)
    | (go_at_call 9; refine get_spec pb m p o _ _ (now + later) (.slice none 0 0) fs [] _ _ ht2 hr4 hfs hG4 ⟨_, _, _, rfl⟩ hH4 ?_; intro w5 v5 m5 htold; rw [hgl] at htold; cases htold))
  have mc : Mod None' w3 _ := (m4.then m5).alloc (.cells #[.int .i64 0, .slice none 0 0, .slice none 0 0] 27)
  have hHx := hH3'.old mc
  have mx := ma.then mc
  clear m4 m5 mc i5 i6 hr4 hG4 hH4 hgl hH3' hv3 hG3 j5 j6 j5' j6'
  all_goals
    go_wp2_with (fail)
    go_loopw [20] (fun i wr => ∃ (k : Nat), k ≤ paths.length ∧ i = .int .i64 k ∧ Holds' wr pb (.slice none 0 0) [] ∧ Mod None' w1 wr) (fun i _ => paths.length - (intOf i).toNat)
    case atStart => exact ⟨0, Nat.zero_le _, rfl, hHx, mx⟩
    case round =>
      clear hHx mx
      obtain ⟨k, hk, rfl, hHr, mr⟩ := hrel
      have k5r := k5.old mr
      have k6r := k6.old mr
      have l5 := k5r.lt
      have j50 := k5r.cell 0
      have j51 := k5r.cell 1
      have j52 := k5r.cell 2
      have j53 := k5r.cell 3
      have j54 := k5r.cell 4
      have l6 := k6r.lt
      have j60 := k6r.cell 0
      have j61 := k6r.cell 1
      have j62 := k6r.cell 2
      by_cases hkl : k < paths.length
      · by_cases h40 : k < 40
        · obtain ⟨gp, op, cp', hsp, hcp⟩ := hpv1.text (by omega)
          injection hsp with e1 _ e2
          subst e1 e2
          have hpc : wr.cell? ⟨gp, op + k, none⟩ = some (.string paths[k]) := (mr.none_cell _ _ (cell_lt (hcp k hkl))).trans (hcp k hkl)
          have hpcl := cell_lt hpc
          dsimp only at hpcl
          clear hcp
          have hxr : ∀ {W : World}, Mod None' w1 W → Row W (.slice Ar fs.length cr) fs.length 2 (fcells fs) := fun hm => hr1.old hm
          have hki0 : (0 : Int) ≤ k := by omega
          have hki1 : (k : Int) < paths.length := by omega
          have hwr := mr.size
          have hpe1 : k < 40 := h40
          have hki2 : decide ((k : Int) < 40) = true := by simp; omega
          by_cases hpe : (paths[k].toList == p.toList) = true
          · have hpe2 : (paths[k].toList != p.toList) = false := by simp [bne, hpe]
            go_wp2_with (fail)
            go_quiet (fail)
            go_wp2_with (first | (go_at_call 7; refine put_no pb m paths[k] o _ _ _ now _ _ l _ _ ht (Row.old hv1 (mr.then (by with_reducible (repeat (first | exact Mod.refl _ _ | assumption | apply Mod.drewN | apply Mod.drew | apply Mod.alloc))))) hs (Glob.old hG1 (mr.then (by with_reducible (repeat (first | exact Mod.refl _ _ | assumption | apply Mod.drewN | apply Mod.drew | apply Mod.alloc))))) hno ?_; intro w8 m8; have mb8 : Mod None' w1 w8 := (mr.then (by with_reducible (repeat (first | exact Mod.refl _ _ | assumption | apply Mod.drewN | apply Mod.drew | apply Mod.alloc)))).then m8; have hH8z : Holds' w8 pb (.slice none 0 0) [] := Holds'.old (Holds'.old hHr (by with_reducible (repeat (first | exact Mod.refl _ _ | assumption | apply Mod.drewN | apply Mod.drew | apply Mod.alloc)))) m8; have hfew := hH8z.few) | (go_at_call 8; refine len_spec pb (.slice none 0 0) [] _ _ hH8z ?_))
            go_roundw
            case rel => exact ⟨k + 1, by omega, by go_num, hH8z, mb8⟩
            case measure => simp [intOf]; omega
          · have hpe0 : (paths[k].toList == p.toList) = false := by simpa using hpe
            have hpe2 : (paths[k].toList != p.toList) = true := by simp [bne, hpe0]
            by_cases hk0 : k = 0
            · have hz0 : ((k : Int) == 0) = true := by simp; omega
              have hgn : lastOf [] m o paths[k] fs now = none := rfl
              clear hk0
              go_wp2_with (fail)
              go_quiet (fail)
              go_wp2_with (first | (go_at_call 9; refine get_spec pb m paths[k] o _ _ now (.slice none 0 0) fs [] _ _ ht (Row.old hr1 (mr.then (by with_reducible (repeat (first | exact Mod.refl _ _ | assumption | apply Mod.drewN | apply Mod.drew | apply Mod.alloc))))) hfs (Glob.old hG1 (mr.then (by with_reducible (repeat (first | exact Mod.refl _ _ | assumption | apply Mod.drewN | apply Mod.drew | apply Mod.alloc))))) ⟨_, _, _, rfl⟩ (Holds'.old hHr (by with_reducible (repeat (first | exact Mod.refl _ _ | assumption | apply Mod.drewN | apply Mod.drew | apply Mod.alloc)))) ?_; intro w7 v7 m7 htold; have mr7 : Mod None' wr w7 := Mod.then (by with_reducible (repeat (first | exact Mod.refl _ _ | assumption | apply Mod.drewN | apply Mod.drew | apply Mod.alloc))) m7; rw [hgn] at htold; cases htold; have l67 := (k6r.old mr7).lt; have j70 := (k6r.old mr7).cell 0; have j71 := (k6r.old mr7).cell 1; have j72 := (k6r.old mr7).cell 2; have hx7 := (((Blk.new wr 25 #[.string m, .string paths[k], .string o, .slice Ar fs.length cr, .slice Abb nbb cbb]).drewN _).old m7); have lx7 := hx7.lt; have x70 := hx7.cell 0; have x71 := hx7.cell 1; have x72 := hx7.cell 2; have x73 := hx7.cell 3; have x74 := hx7.cell 4) | (go_at_call 7; refine put_no pb m paths[k] o _ _ _ now _ _ l _ _ ht (Row.old hv1 (mr.then (by with_reducible (repeat (first | exact Mod.refl _ _ | assumption | apply Mod.drewN | apply Mod.drew | apply Mod.alloc))))) hs (Glob.old hG1 (mr.then (by with_reducible (repeat (first | exact Mod.refl _ _ | assumption | apply Mod.drewN | apply Mod.drew | apply Mod.alloc))))) hno ?_; intro w8 m8; have mb8 : Mod None' w1 w8 := (mr.then (by with_reducible (repeat (first | exact Mod.refl _ _ | assumption | apply Mod.drewN | apply Mod.drew | apply Mod.alloc)))).then m8; have hH8z : Holds' w8 pb (.slice none 0 0) [] := Holds'.old (Holds'.old hHr (by with_reducible (repeat (first | exact Mod.refl _ _ | assumption | apply Mod.drewN | apply Mod.drew | apply Mod.alloc)))) m8; have hfew := hH8z.few) | (go_at_call 8; refine len_spec pb (.slice none 0 0) [] _ _ hH8z ?_))
              go_roundw
              case rel => exact ⟨k + 1, by omega, by go_num, hH8z, mb8⟩
              case measure => simp [intOf]; omega
            · have hz0 : ((k : Int) == 0) = false := by simp; omega
              clear hk0
              go_wp2_with (fail)
              go_quiet (fail)
              go_wp2_with (first | (go_at_call 7; refine put_no pb m paths[k] o _ _ _ now _ _ l _ _ ht (Row.old hv1 (mr.then (by with_reducible (repeat (first | exact Mod.refl _ _ | assumption | apply Mod.drewN | apply Mod.drew | apply Mod.alloc))))) hs (Glob.old hG1 (mr.then (by with_reducible (repeat (first | exact Mod.refl _ _ | assumption | apply Mod.drewN | apply Mod.drew | apply Mod.alloc))))) hno ?_; intro w8 m8; have mb8 : Mod None' w1 w8 := (mr.then (by with_reducible (repeat (first | exact Mod.refl _ _ | assumption | apply Mod.drewN | apply Mod.drew | apply Mod.alloc)))).then m8; have hH8z : Holds' w8 pb (.slice none 0 0) [] := Holds'.old (Holds'.old hHr (by with_reducible (repeat (first | exact Mod.refl _ _ | assumption | apply Mod.drewN | apply Mod.drew | apply Mod.alloc)))) m8; have hfew := hH8z.few) | (go_at_call 8; refine len_spec pb (.slice none 0 0) [] _ _ hH8z ?_))
              go_roundw
              case rel => exact ⟨k + 1, by omega, by go_num, hH8z, mb8⟩
              case measure => simp [intOf]; omega
        · have hd40 : decide ((k : Int) < 40) = false := by simp; omega
          go_wp2_with (fail)
          exact mw1.then mr
      · obtain rfl : k = paths.length := by omega
        go_wp2_with (fail)
        all_goals exact mw1.then mr
end Go.Proofs.YtekmgamjpjddiaaDoor
