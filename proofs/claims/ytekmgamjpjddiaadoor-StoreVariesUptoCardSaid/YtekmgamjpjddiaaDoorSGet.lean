/- Get: what is told again. -/
import Derived.Test.YtekmgamjpjddiaaDoorSBack
import Derived.Deep.DeepCutAuto
namespace Go.Proofs.YtekmgamjpjddiaaDoor
open Go Go.RowKit Go.Shelf
set_option maxRecDepth 100000

attribute [local go_sem] Oper.semAt_some

theorem calls_of_marks {P : Program} {f : FuncId} {fn : Func} {c : Code} {args : Array Value} {w : World} {R : Ending → World → Prop}
    (hf : P.funcs[f]? = some fn) (hb : fn.body = some c)
    (h : c.wp P (bodyPostM Fence.wide 0 P fn R) { tmps := args ++ Array.replicate (fn.ntmps - args.size) undef, defers := [] } w) : Calls P f args w R :=
  callsIn_wide.1 (callsIn_of_wp_marks (F := Fence.wide) (n := 0) hf hb trivial (wpIn_wide.2 h))
theorem postM_ret0 {P : Program} {fn : Func} {R : Ending → World → Prop} {a : Act} {w : World} {v : Value}
    (hr : (results fn a.tmps).run P w = .ok v w) (hd : a.defers = []) (hR : R (.returned v) w) : bodyPostM Fence.wide 0 P fn R .ret a w := by
  simp only [bodyPostM, hd, LeavesInM, LeavesIn]
  exact ⟨v, hr, hR⟩
theorem postM_ret1 {P : Program} {fn : Func} {R : Ending → World → Prop} {a : Act} {w : World} {v : Value} {D : Nat}
    (hd : a.defers = [{ target := .collected D, args := #[] }]) (hk : w.heap[D]? = some (.deferred (some [])))
    (hr : (results fn a.tmps).run P (w.putObj D (.deferred none)) = .ok v (w.putObj D (.deferred none))) (hR : R (.returned v) (w.putObj D (.deferred none))) : bodyPostM Fence.wide 0 P fn R .ret a w := by
  simp only [bodyPostM, hd, LeavesInM, LeavesIn]
  exact ⟨by simp, .inl ⟨D, _, rfl, run_takeDeferred hk, v, hr, hR⟩⟩
theorem Mod.putObj {F : Nat → Prop} {w w1 : World} (h : Mod F w w1) {D : Nat} (hD : F D ∨ w.heap.size ≤ D) (o : Obj) : Mod F w (w1.putObj D o) :=
  h.trans (G := fun k => k = D) ⟨rfl, rfl, rfl, by simp, fun k _ hk => World.putObj_heap_other (fun e => hk e)⟩
    (fun b e hb => by subst e; rcases hD with hp | hp; exact hp; omega)

theorem Blk.ncell {A B : World} {row : Option Nat} {g t : Nat} {cs : Array Value} (h : Blk A g t cs) (hg : A.grownBy B row) (hn : ∀ r, row = some r → ∃ o : Obj, A.heap[r]? = some o ∧ o.isCells = false) : Blk B g t cs :=
  h.grown hg fun e => by
    obtain ⟨o, h1, h2⟩ := hn g e.symm
    unfold Blk at h
    rw [h] at h1
    injection h1 with h1
    subst h1
    cases h2
theorem Own.ncell {A B : World} {row : Option Nat} {e : TypeId} {k n : Nat} {v : Value} {xs : List Value} (h : Own A e k v n xs) (hg : A.grownBy B row) (hn : ∀ r, row = some r → ∃ o : Obj, A.heap[r]? = some o ∧ o.isCells = false) : Own B e k v n xs := by
  refine ⟨h.1, ?_⟩
  rcases h.2 with h0 | ⟨g, o, cap, cur, rfl, hh, rest⟩
  · exact .inl h0
  · exact .inr ⟨g, o, cap, cur, rfl, (Blk.ncell (t := e) hh hg hn), rest⟩
/-- whether a kept reply may be told at that time -/
def getB (x : KV) (m o p : ByteArray) (l : Fs) (now : Int) : Bool := decide (m.toList = [71, 69, 84]) && (fitsB x o p l && decide (0 ≤ now - x.at_) && decide (now - x.at_ < lifeOf x.rfs))

/-- which kept reply is told -/
def lastOf (xs : List KV) (m o p : ByteArray) (l : Fs) (now : Int) : Option KV := xs.reverse.find? fun x => getB x m o p l now
/-- what Get answers -/
def Told (w : World) (r : Option KV) (now : Int) (v : Value) : Prop := match r with
  | none => v = .tuple #[.agg #[.int .i64 0, .slice none 0 0, .slice none 0 0], .int .i64 0, .iface 55 (.int .i64 5)]
  | some x => ∃ fv bd, v = .tuple #[.agg #[.int .i64 x.code, fv, bd], .int .i64 (now - x.at_), .nilIface] ∧ Own w 31 2 fv x.rfs.length (fcells x.rfs) ∧ Own w 5 1 bd x.body.length (x.body.map bv)
theorem backs_map (xs : List KV) : (backs xs.length).map (fun i => xs[i]) = xs.reverse := by
  unfold backs
  rw [List.map_reverse]
  congr 1
  apply List.ext_getElem
  · simp
  · intro i h1 h2
    simp
theorem lastOf_some (xs : List KV) (m o p : ByteArray) (l : Fs) (now : Int) (i : Fin xs.length) (ys : List (Fin xs.length)) (h : ys ++ [i] <+: backs xs.length) (hn : ∀ j ∈ ys, getB xs[j] m o p l now = false) (hi : getB xs[i] m o p l now = true) :
    lastOf xs m o p l now = some xs[i] := by
  obtain ⟨t, ht⟩ := h
  unfold lastOf
  rw [← backs_map, ← ht]
  simp only [List.map_append, List.find?_append, List.map_cons, List.map_nil]
  have : (ys.map fun i => xs[i]).find? (fun x => getB x m o p l now) = none := by
    rw [List.find?_eq_none]
    intro x hx
    obtain ⟨j, hj, rfl⟩ := List.mem_map.1 hx
    rw [hn j hj]
    exact Bool.false_ne_true
  rw [this]
  simp only [Fin.getElem_fin] at hi
  simp [hi]
theorem keptFits_spec (x : KV) (m p o : ByteArray) (l : Fs) (f b : Value) (w : World) (R : Ending → World → Prop) (hx : KOk w x)
    (hf : Row w f l.length 2 (fcells l)) (hb : ∃ A n c, b = .slice A n c) (hl : l.length ≤ 1048576) (h : ∀ w', Mod None' w w' → R (.returned (.bool (fitsB x o p l))) w') :
    Calls Tryd.prog 23 #[x.agg, .agg #[.string m, .string p, .string o, f, b]] w R := by
  obtain ⟨A2, d2, hf2, _⟩ := hx.rf.form
  obtain ⟨A3, d3, hf3, _⟩ := hx.rb.form
  exact fits_spec x.fs l x.vary x.m x.p x.o m p o _ _ _ _ _ _ _ x.code x.at_ w R ⟨_, _, _, rfl⟩ hb ⟨_, _, _, hf2⟩ ⟨_, _, _, hf3⟩ hx.v.row (by have := hx.sv; omega) hx.f.row hf hx.sf.1 hl h

set_option maxHeartbeats 3200000 in
theorem get_spec (pb : Nat) (m p o : ByteArray) (rf rb : Value) (now : Int) (sv : Value) (fs : Fs) (xs : List KV) (w : World) (R : Ending → World → Prop) (ht : (decide (0 ≤ now) && decide (now ≤ 1000000)) = true)
    (hr : Row w rf fs.length 2 (fcells fs)) (hfs : Small fs) (hG : Glob w) (hrb : ∃ A n c, rb = .slice A n c)
    (hH : Holds' w pb sv xs)
    (hR : ∀ w' v, Mod None' w w' → Told w' (lastOf xs m o p fs now) now v → R (.returned v) w') :
    Calls Tryd.prog 9 #[.pointer (some ⟨pb, 0, none⟩), .agg #[.string m, .string p, .string o, rf, rb], .int .i64 now] w R := by
  obtain ⟨Ar, cr, rfl, _, _⟩ := hr.form
  obtain ⟨Abb, nbb, cbb, rfl⟩ := hrb
  obtain ⟨Asv, csv, hsv, _, _⟩ := hH.own.form
  subst hsv
  have hpbl := hH.ptr.lt
  have hnow : 0 ≤ now ∧ now ≤ 1000000 := by simpa using ht
  refine calls_of_marks Tryd.func9 rfl ?_
  simp only [Tryd.ntmps9, List.size_toArray, List.length_cons, List.length_nil, Nat.reduceAdd, Nat.reduceSub, Array.replicate_succ, Array.replicate_zero, List.push_toArray, List.append_toArray, List.nil_append, List.cons_append]
  go_upto_region 3 with (go_at_call 16; refine time_spec now _ _ ?_)
  go_cut [4, 5, 6, 7, 8, 21] from 12 to 50 (fun t4 t5 t6 t7 t8 t21 wx => ∃ b4 b5 b6 b7 b8 b21 : Nat, t4 = .pointer (some ⟨b4, 0, none⟩) ∧ t5 = .pointer (some ⟨b5, 0, none⟩) ∧ t6 = .pointer (some ⟨b6, 0, none⟩) ∧ t7 = .pointer (some ⟨b7, 0, none⟩) ∧ t8 = .pointer (some ⟨b8, 0, none⟩) ∧ t21 = .func (.func 41) #[] #[.pointer (some ⟨b21, 0, none⟩)] ∧
    Mod None' w wx ∧ w.heap.size ≤ b4 ∧ w.heap.size ≤ b6 ∧ w.heap.size ≤ b7 ∧ w.heap.size ≤ b8 ∧ Blk wx b4 25 #[.string m, .string p, .string o, .slice Ar fs.length cr, .slice Abb nbb cbb] ∧ Blk wx b5 3 #[.int .i64 now] ∧ Blk wx b6 27 #[.int .i64 0, .slice none 0 0, .slice none 0 0] ∧ Blk wx b7 3 #[.int .i64 0] ∧ b5 ≠ b7 ∧
    Blk wx b8 35 #[.nilIface] ∧ Blk wx b21 51 #[.slice Asv xs.length csv])
  case first =>
    have pc0 := hH.ptr.cell 0
    have l1 : pb < w.heap.size + 1 := by omega
    have l2 : pb < w.heap.size + 1 + 1 := by omega
    have l3 : pb < w.heap.size + 1 + 1 + 1 := by omega
    have l4 : pb < w.heap.size + 1 + 1 + 1 + 1 := by omega
    go_wp2_with (go_at_call 24; refine backward_spec _ _ _ _ _ ?_)
    go_meet
    refine ⟨_, _, _, _, _, _, rfl, rfl, rfl, rfl, rfl, rfl, ?_, ?_, ?_, ?_, ?_, ?_, ?_, ?_, ?_, ?_, ?_, ?_⟩
    all_goals first
      | exact (((((((Mod.refl _ w).alloc _).alloc _).alloc _).alloc _).alloc _).alloc _)
      | omega
      | (repeat (first | exact Blk.at (by simp) | apply Blk.alloc))
  case rest =>
    obtain ⟨b4, b5, b6, b7, b8, b21, rfl, rfl, rfl, rfl, rfl, rfl, m0, n4, n6, n7, n8, h4, h5, h6, h7, n57, h8, h21⟩ := hcut
    have hH0 := hH.old m0
    have hr0 := hr.old m0
    have hG0 := hG.old m0
    clear hH hr hG
    have hwc := m0.size
    have hsvl := hH0.own.lt
    have hen : ∀ args w, (callFunc 41 args).run Tryd.prog w = .ok (.enter 41 args) w := enters_of Tryd.func41 (by kernel_rfl) rfl
    have hst := backs_stops Fence.wide 5 trivial rfl (by omega) b21 xs _ hH0.few wc h21.lt hsvl (h21.cell 0) hH0.own.row
    go_wp2_with (fail)
    refine (wpIn_wide (n := 6)).1 ?_
    refine wpIn_rangeFunc_ownH (F := Fence.wide) (n := 6) rfl (by omega) (gf := 41) (lb := #[.pointer (some ⟨b21, 0, none⟩)]) rfl trivial hen hst belowK_t (belowK_b (Nat.le_refl _)) (Below.refl _ _) (fun _ => rfl)
      (fun pre W => Below wc.heap.size wc W ∧ ∀ i ∈ pre, getB xs[i] m o p fs now = false)
      (fun c pre W => c = .ret ∧ ∃ (i : Fin xs.length) (ys : List (Fin xs.length)) (fv bd : Value), pre = ys ++ [i] ∧ (∀ j ∈ ys, getB xs[j] m o p fs now = false) ∧ getB xs[i] m o p fs now = true ∧ Blk W b6 27 #[.int .i64 xs[i].code, fv, bd] ∧ Blk W b7 3 #[.int .i64 (now - xs[i].at_)] ∧ Blk W b8 35 #[.nilIface] ∧
        Own W 31 2 fv xs[i].rfs.length (fcells xs[i].rfs) ∧ Own W 5 1 bd xs[i].body.length (xs[i].body.map bv) ∧ Mod None' w W)
      ?hI ?hIx ⟨Below.refl _ _, by simp⟩
      (fun i a' W => ∃ Bx : Nat, wc.heap.size ≤ Bx ∧ Blk W Bx 58 #[.string xs[i].m, .string xs[i].p, .string xs[i].o, xs[i].f, .slice none 0 0, .int .i64 xs[i].code, xs[i].rf, xs[i].rb, xs[i].v, .int .i64 xs[i].at_] ∧ a' = { tmps := #[.pointer (some ⟨pb, 0, none⟩), .agg #[.string m, .string p, .string o, .slice Ar fs.length cr, .slice Abb nbb cbb], .int .i64 now, undef, .pointer (some ⟨b4, 0, none⟩), .pointer (some ⟨b5, 0, none⟩), .pointer (some ⟨b6, 0, none⟩), .pointer (some ⟨b7, 0, none⟩), .pointer (some ⟨b8, 0, none⟩), undef, .pointer (some ⟨Bx, 0, none⟩), undef, u12, u13, u14, u15, u16, u17, u18, u19, u20, .func (.func 41) #[] #[.pointer (some ⟨b21, 0, none⟩)], .int .i64 (i : Nat), xs[i].agg, u24, u25, u26, u27, u28, u29, u30, u31, u32, u33, u34, u35, u36, u37, u38, u39, u40, u41, u42, u43, u44, u45, u46, u47, u48, u49, u50], defers := [] })
      ?hAx ?assign ?body ?done ?stop
    case hI =>
      intro pre A B row hs hg hrow
      exact ⟨hs.1.grown hg hs.1.size fun k e => (hrow k e).1, hs.2⟩
    case hIx =>
      intro c pre A B row hs hg hrow
      obtain ⟨hc, i, ys, fv, bd, h1, h2, h3, k6, k7, k8, k9, k10, k11⟩ := hs
      have hn : ∀ r, row = some r → ∃ o : Obj, A.heap[r]? = some o ∧ o.isCells = false := fun r e => (hrow r e).2
      exact ⟨hc, i, ys, fv, bd, h1, h2, h3, k6.ncell hg hn, k7.ncell hg hn, k8.ncell hg hn, k9.ncell hg hn, k10.ncell hg hn, k11.trans (G := fun b => row = some b) ⟨hg.os, hg.tape, hg.output, hg.size, fun k hk hne => hg.block k hk (fun e => hne e.symm)⟩ fun b e hb => by have := (hrow b e).1; omega⟩
    case hAx =>
      intro i a' _ A B row hs hg hrow
      obtain ⟨Bx, h1, h2, h3⟩ := hs
      exact ⟨Bx, h1, h2.ncell hg fun r e => (hrow r e).2, h3⟩
    case assign =>
      intro l pre i W K hI hK
      have hkx := hH0.ok xs[i] (List.getElem_mem _)
      dsimp only [encK] at hK ⊢
      generalize xs[i] = x at hK hkx ⊢
      obtain ⟨xm, xp, xo, xfs, xcode, xrfs, xbody, xvary, xat, xf, xrf, xrb, xv⟩ := x
      obtain ⟨A1, d1, hf1, _⟩ := hkx.f.form
      obtain ⟨A2, d2, hf2, _⟩ := hkx.rf.form
      obtain ⟨A3, d3, hf3, _⟩ := hkx.rb.form
      obtain ⟨A4, d4, hf4, _⟩ := hkx.v.form
      dsimp only at hf1 hf2 hf3 hf4
      subst hf1 hf2 hf3 hf4
      dsimp only at hK ⊢
      gi_wp2
      refine hK _ _ ((KeepsOthers.alloc _ _).from _) ((Below.refl _ W).alloc hI.1.size _) ⟨hI.1.alloc hI.1.size _, hI.2⟩ ⟨W.heap.size, hI.1.size, Blk.new W _ _, rfl⟩
    case body =>
      intro l pre i a' W hl hrec hI hA hlen
      obtain ⟨Bx, hBx, bX, rfl⟩ := hA
      have hkx := hH0.ok xs[i] (List.getElem_mem _)
      have hIno := hI.2
      have m1 := Mod.of_below hI.1
      have hk1 := hkx.old m1
      have q4 := h4.old m1
      have q5 := h5.old m1
      have q6 := h6.old m1
      have q7 := h7.old m1
      have q8 := h8.old m1
      have hr1 := hr0.old m1
      have hG1 := hG0.old m1
      have hsz := hI.1.size
      have hb4 := h4.lt
      have hb5 := h5.lt
      have hb6 := h6.lt
      have hb7 := h7.lt
      have hb8 := h8.lt
      generalize hxi : xs[i] = x at bX hk1
      have hxs := hk1.srf
      have hxr := hk1.rf.row
      obtain ⟨xm, xp, xo, xfs, xcode, xrfs, xbody, xvary, xat, xf, xrf, xrb, xv⟩ := x
      obtain ⟨A1, d1, hf1, _⟩ := hk1.f.form
      obtain ⟨A2, d2, hf2, _⟩ := hk1.rf.form
      obtain ⟨A3, d3, hf3, _⟩ := hk1.rb.form
      obtain ⟨A4, d4, hf4, _⟩ := hk1.v.form
      dsimp only at hf1 hf2 hf3 hf4
      subst hf1 hf2 hf3 hf4
      dsimp only at bX hxs hxr
      have x0 := bX.cell 0
      have x1 := bX.cell 1
      have x2 := bX.cell 2
      have x3 := bX.cell 3
      have x4 := bX.cell 4
      have x5 := bX.cell 5
      have x6 := bX.cell 6
      have x7 := bX.cell 7
      have x8 := bX.cell 8
      have x9 := bX.cell 9
      have y0 := q4.cell 0
      have y1 := q4.cell 1
      have y2 := q4.cell 2
      have y3 := q4.cell 3
      have y4 := q4.cell 4
      have hn0 : 0 ≤ now := hnow.1
      have hn1 : now ≤ 1000000 := hnow.2
      have e67 : ¬ b6 = b7 := h6.ne_ h7 (by decide)
      have e68 : ¬ b6 = b8 := h6.ne_ h8 (by decide)
      have e78 : ¬ b7 = b8 := h7.ne_ h8 (by decide)
      have e76 : ¬ b7 = b6 := h7.ne_ h6 (by decide)
      have e86 : ¬ b8 = b6 := h8.ne_ h6 (by decide)
      have e87 : ¬ b8 = b7 := h8.ne_ h7 (by decide)
      have hxb := hk1.rb.row
      have hxl := hk1.srf.1
      have hxbl := hk1.sb
      have hat0 := hk1.t0
      have hat1 := hk1.t1
      dsimp only at hxb hxl hxbl hat0 hat1
      have hgx : getB ⟨xm, xp, xo, xfs, xcode, xrfs, xbody, xvary, xat, .slice A1 (List.length xfs) d1, .slice A2 (List.length xrfs) d2, .slice A3 xbody.length d3, .slice A4 xvary.length d4⟩ m o p fs now = (decide (m.toList = [71, 69, 84]) && (fitsB ⟨xm, xp, xo, xfs, xcode, xrfs, xbody, xvary, xat, .slice A1 (List.length xfs) d1, .slice A2 (List.length xrfs) d2, .slice A3 xbody.length d3, .slice A4 xvary.length d4⟩ o p fs && decide (0 ≤ now - xat) && decide (now - xat < lifeOf xrfs))) := rfl
      have goOn : ∀ W', Mod None' W W' → getB xs[i] m o p fs now = false → KeepsFrom wc.heap.size W W' ∧ Below wc.heap.size W W' ∧ (Below wc.heap.size wc W' ∧ ∀ j ∈ pre ++ [i], getB xs[j] m o p fs now = false) := fun W' hm hno => by
        have hb := hm.below wc.heap.size hsz (fun _ f => f.elim)
        refine ⟨⟨hm.size, fun k o' _ hk _ => (hm.block k (Array.getElem?_eq_some_iff.1 hk).1 fun f => f).trans hk⟩, hb, hI.1.trans hb, fun j hj => ?_⟩
        rcases List.mem_append.1 hj with hj | hj
        · exact hIno j hj
        · rw [List.mem_singleton.1 hj]; exact hno
      rw [hxi] at goOn
      by_cases hget : m.toList = [71, 69, 84]
      · skip
        by_cases hfit : fitsB ⟨xm, xp, xo, xfs, xcode, xrfs, xbody, xvary, xat, .slice A1 (List.length xfs) d1, .slice A2 (List.length xrfs) d2, .slice A3 xbody.length d3, .slice A4 xvary.length d4⟩ o p fs = true
        · by_cases hage : xat ≤ now
          · by_cases hlif : now - xat < lifeOf xrfs
            · have hgt : getB ⟨xm, xp, xo, xfs, xcode, xrfs, xbody, xvary, xat, .slice A1 (List.length xfs) d1, .slice A2 (List.length xrfs) d2, .slice A3 xbody.length d3, .slice A4 xvary.length d4⟩ m o p fs now = true := by rw [hgx, decide_eq_true hget, hfit, decide_eq_true (show 0 ≤ now - xat by omega), decide_eq_true hlif]; rfl
              clear goOn hgx
              gi_wp2_with (first | (refine ⟨trivial, ?_⟩; gi_at_call 23; refine CallsIn.inRound l (callsIn_wide.2 (keptFits_spec ⟨xm, xp, xo, xfs, xcode, xrfs, xbody, xvary, xat, .slice A1 (List.length xfs) d1, .slice A2 (List.length xrfs) d2, .slice A3 xbody.length d3, .slice A4 xvary.length d4⟩ m p o fs _ _ _ _ hk1 hr1 ⟨_, _, _, rfl⟩ hfs.1 ?_)); intro w1 mm1; have z5 := (q5.old mm1).cell 0; have v5 := (bX.old mm1).cell 5; have v6 := (bX.old mm1).cell 6; have v7 := (bX.old mm1).cell 7; have v9 := (bX.old mm1).cell 9) | (refine ⟨trivial, ?_⟩; gi_at_call 5; refine CallsIn.inRound l (callsIn_wide.2 (life_spec xrfs _ _ _ _ _ (hxr.old mm1) hxs (hG1.old mm1) ?_)); intro w2 mm2; have t5 := ((bX.old mm1).old mm2).cell 5; have t6 := ((bX.old mm1).old mm2).cell 6; have t7 := ((bX.old mm1).old mm2).cell 7) | (refine ⟨trivial, ?_⟩; gi_at_call 17; refine CallsIn.inRound l (callsIn_wide.2 (clone_spec _ xrfs xbody _ _ _ _ ((hxr.old mm1).old mm2) ((hxb.old mm1).old mm2) (by omega) (by omega) ?_)); intro fv bd w3 hfv hbd; obtain ⟨G1, e1, rfl, _, _⟩ := hfv.row.form; obtain ⟨G2, e2, rfl, _, _⟩ := hbd.row.form; have r6 := ((q6.old mm1).old mm2).old hfv.mod; have r7 := ((q7.old mm1).old mm2).old hfv.mod; have r8 := ((q8.old mm1).old mm2).old hfv.mod; have s6 := r6.cell; have s7 := r7.cell; have s8 := r8.cell; have u6 := r6.frozen; have u7 := r7.frozen; have u8 := r8.frozen; have l6 := r6.lt; have l7 := r7.lt; have l8 := r8.lt))
              have mm : Mod (fun b => b = b6 ∨ b = b7 ∨ b = b8) w3 (((((w3.setCell ⟨b6, 0, none⟩ (.int .i64 xcode)).setCell ⟨b6, 1, none⟩ (.slice G1 (List.length xrfs) e1)).setCell ⟨b6, 2, none⟩ (.slice G2 xbody.length e2)).setCell ⟨b7, 0, none⟩ (.int .i64 (now - xat))).setCell ⟨b8, 0, none⟩ .nilIface) :=
                Mod.setCell (F := fun b => b = b6 ∨ b = b7 ∨ b = b8) (p := ⟨b8, 0, none⟩) (Mod.setCell (F := fun b => b = b6 ∨ b = b7 ∨ b = b8) (p := ⟨b7, 0, none⟩) (Mod.setCell (F := fun b => b = b6 ∨ b = b7 ∨ b = b8) (p := ⟨b6, 2, none⟩) (Mod.setCell (F := fun b => b = b6 ∨ b = b7 ∨ b = b8) (p := ⟨b6, 1, none⟩) (Mod.setCell (F := fun b => b = b6 ∨ b = b7 ∨ b = b8) (p := ⟨b6, 0, none⟩) (Mod.refl _ _) (.inl (.inl rfl)) _) (.inl (.inl rfl)) _) (.inl (.inl rfl)) _) (.inl (.inr (.inl rfl))) _) (.inl (.inr (.inr rfl))) _
              have m3 : Mod None' W w3 := (mm1.then mm2).then hfv.mod
              have mw3 : Mod None' w w3 := (m0.then m1).then m3
              have hcell : ∀ k, k = b6 ∨ k = b7 ∨ k = b8 → ∃ cs t, Blk W k t cs := fun k hk => by
                rcases hk with rfl | rfl | rfl
                · exact ⟨_, _, q6⟩
                · exact ⟨_, _, q7⟩
                · exact ⟨_, _, q8⟩
              have hnb : ∀ {e : TypeId} {k n : Nat} {v : Value} {ys : List Value}, Own w3 e k v n ys → e ≠ 27 → e ≠ 3 → e ≠ 35 → ∀ g, v.ownBlock = some g → ¬ (g = b6 ∨ g = b7 ∨ g = b8) := fun ho n1 n2 n3 g hg hh => by
                rcases hh with rfl | rfl | rfl
                · exact ho.blk_ne r6 n1 _ hg rfl
                · exact ho.blk_ne r7 n2 _ hg rfl
                · exact ho.blk_ne r8 n3 _ hg rfl
              refine ⟨⟨Nat.le_trans m3.size mm.size, fun k ob _ hk hc => ?_⟩, rfl, i, pre, .slice G1 (List.length xrfs) e1, .slice G2 xbody.length e2, rfl, hIno, ?_⟩
              · have hkl := (Array.getElem?_eq_some_iff.1 hk).1
                have hkn : ¬ (k = b6 ∨ k = b7 ∨ k = b8) := fun hh => by
                  obtain ⟨cs, t, hb⟩ := hcell k hh
                  unfold Blk at hb
                  rw [hb] at hk
                  injection hk with hk
                  subst hk
                  cases hc
                exact ((mm.block k (Nat.lt_of_lt_of_le hkl m3.size) hkn).trans (m3.block k hkl fun f => f)).trans hk
              · rw [hxi]
                refine ⟨hgt, ?_, ?_, ?_, (Own.of_own hfv.own).mod mm (hnb (Own.of_own hfv.own) (by decide) (by decide) (by decide)), (Own.of_own hbd.own).mod mm (hnb (Own.of_own hbd.own) (by decide) (by decide) (by decide)), mw3.trans mm fun b hb hlt => by omega⟩
                · exact ((((r6.set_ 0 _).set_ 1 _).set_ 2 _).far (p := ⟨b7, 0, none⟩) e67 _).far (p := ⟨b8, 0, none⟩) e68 _
                · have := ((((r7.far (p := ⟨b6, 0, none⟩) e76 (.int .i64 xcode)).far (p := ⟨b6, 1, none⟩) e76 (.slice G1 (List.length xrfs) e1)).far (p := ⟨b6, 2, none⟩) e76 (.slice G2 xbody.length e2)).set_ 0 (.int .i64 (now - xat))).far (p := ⟨b8, 0, none⟩) e78 .nilIface
                  exact this
                · have := ((((r8.far (p := ⟨b6, 0, none⟩) e86 (.int .i64 xcode)).far (p := ⟨b6, 1, none⟩) e86 (.slice G1 (List.length xrfs) e1)).far (p := ⟨b6, 2, none⟩) e86 (.slice G2 xbody.length e2)).far (p := ⟨b7, 0, none⟩) e87 (.int .i64 (now - xat))).set_ 0 .nilIface
                  exact this
            · have hgf : getB ⟨xm, xp, xo, xfs, xcode, xrfs, xbody, xvary, xat, .slice A1 (List.length xfs) d1, .slice A2 (List.length xrfs) d2, .slice A3 xbody.length d3, .slice A4 xvary.length d4⟩ m o p fs now = false := by rw [hgx, decide_eq_false hlif, Bool.and_false, Bool.and_false]
              clear hgx
              gi_wp2_with (first | (refine ⟨trivial, ?_⟩; gi_at_call 23; refine CallsIn.inRound l (callsIn_wide.2 (keptFits_spec ⟨xm, xp, xo, xfs, xcode, xrfs, xbody, xvary, xat, .slice A1 (List.length xfs) d1, .slice A2 (List.length xrfs) d2, .slice A3 xbody.length d3, .slice A4 xvary.length d4⟩ m p o fs _ _ _ _ hk1 hr1 ⟨_, _, _, rfl⟩ hfs.1 ?_)); intro w1 mm1; have z5 := (q5.old mm1).cell 0; have v5 := (bX.old mm1).cell 5; have v6 := (bX.old mm1).cell 6; have v7 := (bX.old mm1).cell 7; have v9 := (bX.old mm1).cell 9) | (refine ⟨trivial, ?_⟩; gi_at_call 5; refine CallsIn.inRound l (callsIn_wide.2 (life_spec xrfs _ _ _ _ _ (hxr.old mm1) hxs (hG1.old mm1) ?_)); intro w2 mm2; have t5 := ((bX.old mm1).old mm2).cell 5; have t6 := ((bX.old mm1).old mm2).cell 6; have t7 := ((bX.old mm1).old mm2).cell 7))
              exact goOn _ (mm1.then mm2) hgf
          · have hgf : getB ⟨xm, xp, xo, xfs, xcode, xrfs, xbody, xvary, xat, .slice A1 (List.length xfs) d1, .slice A2 (List.length xrfs) d2, .slice A3 xbody.length d3, .slice A4 xvary.length d4⟩ m o p fs now = false := by rw [hgx, decide_eq_false (show ¬ 0 ≤ now - xat by omega), Bool.and_false, Bool.false_and, Bool.and_false]
            have hlt : now < xat := by omega
            have hdf : decide (xat ≤ now) = false := decide_eq_false hage
            clear hgx
            gi_wp2_with (first | (refine ⟨trivial, ?_⟩; gi_at_call 23; refine CallsIn.inRound l (callsIn_wide.2 (keptFits_spec ⟨xm, xp, xo, xfs, xcode, xrfs, xbody, xvary, xat, .slice A1 (List.length xfs) d1, .slice A2 (List.length xrfs) d2, .slice A3 xbody.length d3, .slice A4 xvary.length d4⟩ m p o fs _ _ _ _ hk1 hr1 ⟨_, _, _, rfl⟩ hfs.1 ?_)); intro w1 mm1; have z5 := (q5.old mm1).cell 0; have v5 := (bX.old mm1).cell 5; have v6 := (bX.old mm1).cell 6; have v7 := (bX.old mm1).cell 7; have v9 := (bX.old mm1).cell 9))
            refine ⟨trivial, ?_⟩
            gi_wp2
            exact goOn _ mm1 hgf
        · have hff : fitsB ⟨xm, xp, xo, xfs, xcode, xrfs, xbody, xvary, xat, .slice A1 (List.length xfs) d1, .slice A2 (List.length xrfs) d2, .slice A3 xbody.length d3, .slice A4 xvary.length d4⟩ o p fs = false := by simpa using hfit
          have hgf : getB ⟨xm, xp, xo, xfs, xcode, xrfs, xbody, xvary, xat, .slice A1 (List.length xfs) d1, .slice A2 (List.length xrfs) d2, .slice A3 xbody.length d3, .slice A4 xvary.length d4⟩ m o p fs now = false := by rw [hgx, hff, Bool.false_and, Bool.false_and, Bool.and_false]
          clear hgx
          gi_wp2_with (first | (refine ⟨trivial, ?_⟩; gi_at_call 23; refine CallsIn.inRound l (callsIn_wide.2 (keptFits_spec ⟨xm, xp, xo, xfs, xcode, xrfs, xbody, xvary, xat, .slice A1 (List.length xfs) d1, .slice A2 (List.length xrfs) d2, .slice A3 xbody.length d3, .slice A4 xvary.length d4⟩ m p o fs _ _ _ _ hk1 hr1 ⟨_, _, _, rfl⟩ hfs.1 ?_)); intro w1 mm1; have z5 := (q5.old mm1).cell 0; have v5 := (bX.old mm1).cell 5; have v6 := (bX.old mm1).cell 6; have v7 := (bX.old mm1).cell 7; have v9 := (bX.old mm1).cell 9))
          exact goOn _ mm1 hgf
      · have hgf : getB ⟨xm, xp, xo, xfs, xcode, xrfs, xbody, xvary, xat, .slice A1 (List.length xfs) d1, .slice A2 (List.length xrfs) d2, .slice A3 xbody.length d3, .slice A4 xvary.length d4⟩ m o p fs now = false := by rw [hgx, decide_eq_false hget, Bool.false_and]
        clear hgx
        gi_wp2
        refine ⟨trivial, ?_⟩
        gi_wp2
        exact goOn _ (Mod.refl _ _) hgf
    case done =>
      intro D ys W hD hys hI hdf
      have m1 := m0.then (Mod.of_below hI.1)
      have q6 := h6.old (Mod.of_below hI.1)
      have q7 := h7.old (Mod.of_below hI.1)
      have q8 := h8.old (Mod.of_below hI.1)
      have hno : ∀ x ∈ xs, getB x m o p fs now = false := fun x hx => by
        obtain ⟨j, hj, rfl⟩ := List.getElem_of_mem hx
        exact hI.2 ⟨j, hj⟩ (by rw [hys]; simp [backs])
      have hlast : lastOf xs m o p fs now = none := by
        unfold lastOf
        rw [List.find?_eq_none]
        intro x hx
        rw [hno x (List.mem_reverse.1 hx)]
        exact Bool.false_ne_true
      have s6 := q6.cell
      have s7 := q7.cell
      have s8 := q8.cell
      have u6 := q6.frozen
      have u7 := q7.frozen
      have u8 := q8.frozen
      have l6 := q6.lt
      have l7 := q7.lt
      have l8 := q8.lt
      have e67 : ¬ b6 = b7 := h6.ne_ h7 (by decide)
      have e68 : ¬ b6 = b8 := h6.ne_ h8 (by decide)
      have e78 : ¬ b7 = b8 := h7.ne_ h8 (by decide)
      have e76 : ¬ b7 = b6 := h7.ne_ h6 (by decide)
      have e86 : ¬ b8 = b6 := h8.ne_ h6 (by decide)
      have e87 : ¬ b8 = b7 := h8.ne_ h7 (by decide)
      have hdn : ∀ {g t : Nat} {cs : Array Value}, Blk W g t cs → D ≠ g := fun hb e => by
        subst e
        unfold Blk at hb
        rw [hdf] at hb
        cases hb
      gi_wp2
      go_wp2_with (fail)
      have mm : Mod (fun b => b = b6 ∨ b = b7 ∨ b = b8) W (((((W.setCell ⟨b6, 0, none⟩ (.int .i64 0)).setCell ⟨b6, 1, none⟩ (.slice none 0 0)).setCell ⟨b6, 2, none⟩ (.slice none 0 0)).setCell ⟨b7, 0, none⟩ (.int .i64 0)).setCell ⟨b8, 0, none⟩ (.iface 55 (.int .i64 5))) :=
        Mod.setCell (F := fun b => b = b6 ∨ b = b7 ∨ b = b8) (p := ⟨b8, 0, none⟩) (Mod.setCell (F := fun b => b = b6 ∨ b = b7 ∨ b = b8) (p := ⟨b7, 0, none⟩) (Mod.setCell (F := fun b => b = b6 ∨ b = b7 ∨ b = b8) (p := ⟨b6, 2, none⟩) (Mod.setCell (F := fun b => b = b6 ∨ b = b7 ∨ b = b8) (p := ⟨b6, 1, none⟩) (Mod.setCell (F := fun b => b = b6 ∨ b = b7 ∨ b = b8) (p := ⟨b6, 0, none⟩) (Mod.refl _ _) (.inl (.inl rfl)) _) (.inl (.inl rfl)) _) (.inl (.inl rfl)) _) (.inl (.inr (.inl rfl))) _) (.inl (.inr (.inr rfl))) _
      have hdl : D < W.heap.size := (Array.getElem?_eq_some_iff.1 hdf).1
      have hdV := (mm.block D hdl fun hh => by rcases hh with hh | hh | hh; exact hdn q6 hh; exact hdn q7 hh; exact hdn q8 hh).trans hdf
      have v6 := ((((q6.set_ 0 (.int .i64 0)).set_ 1 (.slice none 0 0)).set_ 2 (.slice none 0 0)).far (p := ⟨b7, 0, none⟩) e67 (.int .i64 0)).far (p := ⟨b8, 0, none⟩) e68 (.iface 55 (.int .i64 5))
      have v7 := ((((q7.far (p := ⟨b6, 0, none⟩) e76 (.int .i64 0)).far (p := ⟨b6, 1, none⟩) e76 (.slice none 0 0)).far (p := ⟨b6, 2, none⟩) e76 (.slice none 0 0)).set_ 0 (.int .i64 0)).far (p := ⟨b8, 0, none⟩) e78 (.iface 55 (.int .i64 5))
      have v8 := ((((q8.far (p := ⟨b6, 0, none⟩) e86 (.int .i64 0)).far (p := ⟨b6, 1, none⟩) e86 (.slice none 0 0)).far (p := ⟨b6, 2, none⟩) e86 (.slice none 0 0)).far (p := ⟨b7, 0, none⟩) e87 (.int .i64 0)).set_ 0 (.iface 55 (.int .i64 5))
      have mv : Mod None' w _ := m1.trans mm fun b hb hlt => by omega
      generalize (((((W.setCell ⟨b6, 0, none⟩ (.int .i64 0)).setCell ⟨b6, 1, none⟩ (.slice none 0 0)).setCell ⟨b6, 2, none⟩ (.slice none 0 0)).setCell ⟨b7, 0, none⟩ (.int .i64 0)).setCell ⟨b8, 0, none⟩ (.iface 55 (.int .i64 5))) = V at hdV v6 v7 v8 mv ⊢
      have hcl : ∀ r, some D = some r → ∃ ob : Obj, V.heap[r]? = some ob ∧ ob.isCells = false := fun r e => by cases e; exact ⟨_, hdV, rfl⟩
      have hgr := grownBy_putObj' V D (.deferred none)
      have c6 := (v6.ncell hgr hcl).cell
      have c7 := (v7.ncell hgr hcl).cell
      have c8 := (v8.ncell hgr hcl).cell
      refine postM_ret1 (v := .tuple #[.agg #[.int .i64 0, .slice none 0 0, .slice none 0 0], .int .i64 0, .iface 55 (.int .i64 5)]) rfl hdV ?_ ?_
      · simp [results, Tryd.results9, go_sem, c6, c7, c8]
      · refine hR _ _ (Mod.putObj mv (.inr (by omega)) _) ?_
        rw [hlast]
        rfl
    case stop =>
      intro D c pre W hD hpre hIx hdf
      obtain ⟨rfl, i, ys, fv, bd, rfl, h2, h3, k6, k7, k8, k9, k10, k11⟩ := hIx
      obtain ⟨G1, e1, rfl, _, _⟩ := k9.form
      obtain ⟨G2, e2, rfl, _, _⟩ := k10.form
      have hlast := lastOf_some xs m o p fs now i ys hpre h2 h3
      have hcl : ∀ r, some D = some r → ∃ ob : Obj, W.heap[r]? = some ob ∧ ob.isCells = false := fun r e => by cases e; exact ⟨_, hdf, rfl⟩
      have hgr := grownBy_putObj' W D (.deferred none)
      have c6 := (k6.ncell hgr hcl).cell
      have c7 := (k7.ncell hgr hcl).cell
      have c8 := (k8.ncell hgr hcl).cell
      gi_wp2
      refine postM_ret1 (v := .tuple #[.agg #[.int .i64 xs[i].code, .slice G1 xs[i].rfs.length e1, .slice G2 xs[i].body.length e2], .int .i64 (now - xs[i].at_), .nilIface]) rfl hdf ?_ ?_
      · simp [results, Tryd.results9, go_sem, c6, c7, c8]
      · refine hR _ _ (Mod.putObj k11 (.inr (by omega)) _) ?_
        rw [hlast]
        exact ⟨_, _, rfl, k9.ncell hgr hcl, k10.ncell hgr hcl⟩

theorem get_time (pb : Nat) (m p o : ByteArray) (rf rb : Value) (now : Int) (w : World) (R : Ending → World → Prop) (ht : (decide (0 ≤ now) && decide (now ≤ 1000000)) = false)
    (h : ∀ w', Mod None' w w' → R (.returned (.tuple #[.agg #[.int .i64 0, .slice none 0 0, .slice none 0 0], .int .i64 0, .iface 55 (.int .i64 1)])) w') :
    Calls Tryd.prog 9 #[.pointer (some ⟨pb, 0, none⟩), .agg #[.string m, .string p, .string o, rf, rb], .int .i64 now] w R := by
  refine calls_of_marks Tryd.func9 rfl ?_
  simp only [Tryd.ntmps9, List.size_toArray, List.length_cons, List.length_nil, Nat.reduceAdd, Nat.reduceSub, Array.replicate_succ, Array.replicate_zero, List.push_toArray, List.append_toArray, List.nil_append, List.cons_append]
  go_wp2_with (go_at_call 16; refine time_spec now _ _ ?_)
  refine postM_ret0 (v := .tuple #[.agg #[.int .i64 0, .slice none 0 0, .slice none 0 0], .int .i64 0, .iface 55 (.int .i64 1)]) ?_ rfl ?_
  · simp [results, Tryd.results9, go_sem]
  · refine h _ ?_
    repeat (first | exact Mod.refl _ _ | apply Mod.alloc | refine Mod.setCell ?_ (.inr (by simp; omega)) _)
end Go.Proofs.YtekmgamjpjddiaaDoor
