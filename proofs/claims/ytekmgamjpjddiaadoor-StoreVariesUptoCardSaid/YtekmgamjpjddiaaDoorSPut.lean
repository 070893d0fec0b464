/- Put: what is kept. -/
import Derived.Test.YtekmgamjpjddiaaDoorSTok
import Derived.Lib.SplitLaws
namespace Go.Proofs.YtekmgamjpjddiaaDoor
open Go Go.RowKit
set_option maxRecDepth 100000

def sepText : ByteArray := ⟨#[44, 32]⟩
def splitOf (s : ByteArray) : List ByteArray := Lib.splitB sepText 0 (Lib.countB s sepText) s
theorem splitB_small (sep : ByteArray) (save : Nat) : ∀ (k : Nat) (s : ByteArray), ∀ x ∈ Lib.splitB sep save k s, x.size ≤ s.size
  | 0, s, x, hx => by simp only [Lib.splitB_zero, List.mem_singleton] at hx; subst hx; exact Nat.le_refl _
  | k + 1, s, x, hx => by
    unfold Lib.splitB at hx
    split at hx
    · simp only [List.mem_singleton] at hx; subst hx; exact Nat.le_refl _
    · rcases List.mem_cons.1 hx with rfl | hx
      · rw [ByteArray.size_extract]; omega
      · have := splitB_small sep save k _ x hx
        rw [ByteArray.size_extract] at this
        omega
theorem splitOf_small (s : ByteArray) : ∀ x ∈ splitOf s, x.size ≤ s.size := splitB_small _ _ _ _
theorem splitOf_length (s : ByteArray) : (splitOf s).length = Lib.countB s sepText + 1 := Lib.splitB_all sepText (by decide) 0 _ s rfl
theorem splitOf_le (s : ByteArray) : (splitOf s).length ≤ s.size + 1 := by
  rw [splitOf_length]
  have := Lib.countB_le sepText (by decide) s.size s (Nat.le_refl _)
  omega
theorem split_spec (s : ByteArray) (w : World) (R : Ending → World → Prop) (hs : s.size ≤ 1048576) (hG : Glob w)
    (h : ∀ A c w', Fresh 9 1 w w' (.slice A (splitOf s).length c) (splitOf s).length ((splitOf s).map .string) → R (.returned (.slice A (splitOf s).length c)) w') :
    Calls Tryd.prog 19 #[.string s, .string ⟨#[44, 32]⟩] w R := by
  obtain ⟨m, hm⟩ := hG.max
  refine (Tryd.strings_Split s sepText m w (by omega) hm (by decide)).mono ?_
  rintro e w' ⟨rfl, rfl⟩
  have hl := splitOf_length s
  have hle := splitOf_le s
  rw [← hl]
  exact h _ _ _ (Fresh.lit _ _ _ _ _ _ _ (Mod.refl _ _) (by simp only [maxLen]; omega) (by simp [splitOf]) (by simp [splitOf]))

/-- the names in a reply's vary -/
def varyText (s : ByteArray) : List ByteArray := (splitOf s).filter tokenB
def varyOf (l : Fs) : List ByteArray := match firstOf l ⟨#[118, 97, 114, 121]⟩ with
  | some s => varyText s
  | none => []

theorem varyOf_len (l : Fs) (hs : Small l) : (varyOf l).length ≤ 1048577 := by
  have h := firstOf_small l ⟨#[118, 97, 114, 121]⟩ hs
  unfold varyOf
  cases hf : firstOf l ⟨#[118, 97, 114, 121]⟩ with
  | none => simp
  | some s =>
    rw [hf] at h
    simp only [Option.getD_some] at h
    have h1 : (varyText s).length ≤ (splitOf s).length := List.length_filter_le _ _
    have := splitOf_le s
    simp only []
    omega
/-- What a store holds. -/
structure Holds' (w : World) (pb : Nat) (sv : Value) (xs : List KV) : Prop where
  ptr : Blk w pb 53 #[sv]
  own : Own w 58 10 sv xs.length (kcells xs)
  ok : ∀ x ∈ xs, KOk w x
  few : xs.length ≤ 20
theorem Holds'.old {w w' : World} {pb : Nat} {sv : Value} {xs : List KV} (h : Holds' w pb sv xs) (hm : Mod None' w w') : Holds' w' pb sv xs :=
  ⟨h.ptr.old hm, h.own.old hm, fun x hx => (h.ok x hx).old hm, h.few⟩

theorem put_time (pb : Nat) (m p o : ByteArray) (rf rb : Value) (code now : Int) (af ab : Value) (w : World) (R : Ending → World → Prop) (ht : (decide (0 ≤ now) && decide (now ≤ 1000000)) = false)
    (h : ∀ w', Mod None' w w' → R (.returned (.tuple #[.bool false, .iface 55 (.int .i64 1)])) w') :
    Calls Tryd.prog 7 #[.pointer (some ⟨pb, 0, none⟩), .agg #[.string m, .string p, .string o, rf, rb], .agg #[.int .i64 code, af, ab], .int .i64 now] w R := by
  go_enter Tryd.func7, Tryd.ntmps7
  go_wp2_with (go_at_call 16; refine time_spec now _ _ ?_)
  exact ((Mod.refl _ w).alloc _).alloc _

theorem put_no (pb : Nat) (m p o : ByteArray) (rf rb : Value) (code now : Int) (af ab : Value) (l : Fs) (w : World) (R : Ending → World → Prop) (ht : (decide (0 ≤ now) && decide (now ≤ 1000000)) = true)
    (hv : Row w af l.length 2 (fcells l)) (hs : Small l) (hG : Glob w) (hno : ¬ (m.toList = [71, 69, 84] ∧ code = 200 ∧ lifeOf l ≠ 0))
    (h : ∀ w', Mod None' w w' → R (.returned (.tuple #[.bool false, .nilIface])) w') :
    Calls Tryd.prog 7 #[.pointer (some ⟨pb, 0, none⟩), .agg #[.string m, .string p, .string o, rf, rb], .agg #[.int .i64 code, af, ab], .int .i64 now] w R := by
  go_enter Tryd.func7, Tryd.ntmps7
  go_wp2_with (first | (go_at_call 16; refine time_spec now _ _ ?_) | (go_at_call 5; refine life_spec l _ _ _ _ _ ((hv.alloc _).alloc _) hs ((hG.old ((Mod.refl _ _).alloc _)).old ((Mod.refl _ _).alloc _)) ?_; intro w1 m1))
  all_goals first
    | exact ((Mod.refl _ w).alloc _).alloc _
    | exact (((Mod.refl _ w).alloc _).alloc _).then m1
    | (exfalso; have hx : (lifeOf l == 0) = false := by assumption
       have hm : m.toList = [71, 69, 84] := by assumption
       exact hno ⟨hm, by first | rfl | assumption, by simpa using hx⟩)

theorem Blk.there {w : World} {g t : Nat} {cs : Array Value} (h : Blk w g t cs) (o n : Nat) (hn : o + n ≤ cs.size) : w.there g o n := fun j hj => by
  refine ⟨?_, h.frozen _⟩
  rw [h.cell, Array.getElem?_eq_getElem (by omega)]
  rfl
theorem Blk.setCells {w : World} {g t : Nat} {cs : Array Value} (h : Blk w g t cs) (vs : List Value) (hn : cs.size = vs.length) : Blk (w.setCells g 0 vs) g t vs.toArray := by
  obtain ⟨cur', h1, h2, h3⟩ := setCells_heap g t vs 0 cs w h (by omega)
  have : cur' = vs.toArray := by
    apply Array.ext'
    rw [h3]
    simp [List.drop_eq_nil_of_le (show cs.toList.length ≤ vs.length by simp; omega)]
  rw [this] at h1
  exact h1
theorem Row.modOr {F : Nat → Prop} {w w' : World} {v : Value} {n k : Nat} {xs : List Value} (h : Row w v n k xs) (hm : Mod F w w') (hF : n = 0 ∨ ∀ g, v.ownBlock = some g → ¬ F g) : Row w' v n k xs := by
  rcases hF with rfl | hF
  · obtain ⟨h0, A, c, rfl, h1, h2, _⟩ := h
    exact ⟨h0, A, c, rfl, h1, h2, fun hn => absurd hn (by omega)⟩
  · exact h.mod hm hF
theorem KOk.arr {w w' : World} {x : KV} {v : Value} {n : Nat} {ys : List Value} (h : KOk w x) (ho : Own w 58 10 v n ys) (hm : Mod (fun b => v.ownBlock = some b) w w') : KOk w' x := by
  refine h.mod hm fun g hg => ?_
  rcases ho.2 with ⟨rfl, _⟩ | ⟨g', o', _, cur, rfl, hh, _⟩
  · simp [Value.ownBlock] at hg
  · simp only [Value.ownBlock, Option.some.injEq] at hg
    subst hg
    exact ⟨_, _, hh, by decide, by decide, by decide⟩
theorem Fresh.far {e : TypeId} {k n g : Nat} {w w1 w2 : World} {v : Value} {xs : List Value} (h : Fresh e k w w1 v n xs) (m : Mod (fun b => b = g) w1 w2) (hg : w.heap.size ≤ g) (hne : ∀ k, v.ownBlock = some k → k ≠ g) : Fresh e k w w2 v n xs :=
  ⟨own_keep h.own m hne, h.new, h.mod.trans m fun b e hb => by omega⟩
/-- what Put has put -/
structure IsKV (x : KV) (m p o : ByteArray) (fs l : Fs) (body : List UInt8) (now : Int) : Prop where
  m : x.m = m
  p : x.p = p
  o : x.o = o
  fs : x.fs = fs
  code : x.code = 200
  rfs : x.rfs = l
  body : x.body = body
  vary : x.vary = varyOf l
  at_ : x.at_ = now
theorem kcells_drop (l : List KV) (i : Nat) : (kcells l).drop (i * 10) = kcells (l.drop i) := by
  by_cases h : i ≤ l.length
  · have hlen : (kcells (l.take i)).length = i * 10 := by rw [kcells_length, List.length_take]; omega
    conv => lhs; rw [← List.take_append_drop i l, kcells_append]
    rw [List.drop_left' hlen]
  · rw [List.drop_eq_nil_of_le (by rw [kcells_length]; omega), List.drop_eq_nil_of_le (by omega)]
    rfl
def keep20 (l : List KV) : List KV := if l.length > 20 then l.drop 1 else l
abbrev Z10 : Array Value := #[.string ⟨#[]⟩, .string ⟨#[]⟩, .string ⟨#[]⟩, .slice none 0 0, .slice none 0 0, .int .i64 0, .slice none 0 0, .slice none 0 0, .slice none 0 0, .int .i64 0]
set_option maxHeartbeats 3200000 in
theorem put_yes (pb : Nat) (m p o : ByteArray) (rf rb : Value) (now : Int) (af ab sv : Value) (fs l : Fs) (body : List UInt8) (xs : List KV) (w : World) (R : Ending → World → Prop) (ht : (decide (0 ≤ now) && decide (now ≤ 1000000)) = true)
    (hr : Row w rf fs.length 2 (fcells fs)) (hv : Row w af l.length 2 (fcells l)) (hb : Bytes w ab body) (hfs : Small fs) (hs : Small l) (hlb : body.length ≤ 1048576) (hG : Glob w) (hget : m.toList = [71, 69, 84]) (hlf : (lifeOf l == 0) = false) (hrb : ∃ A n c, rb = .slice A n c)
    (hH : Holds' w pb sv xs) (hrn : fs.length = 0 ∨ ∀ g, rf.ownBlock = some g → sv.ownBlock ≠ some g)
    (hR : ∀ w' sv' X, IsKV X m p o fs l body now → Holds' w' pb sv' (keep20 ((xs.filter fun x => !fitsB x o p fs) ++ [X])) → Mod (fun b => b = pb ∨ sv.ownBlock = some b) w w' →
      (∀ g, sv'.ownBlock = some g → sv.ownBlock = some g ∨ w.heap.size ≤ g) → R (.returned (.tuple #[.bool true, .nilIface])) w') :
    Calls Tryd.prog 7 #[.pointer (some ⟨pb, 0, none⟩), .agg #[.string m, .string p, .string o, rf, rb], .agg #[.int .i64 200, af, ab], .int .i64 now] w R := by
  obtain ⟨Ar, cr, rfl, _, _⟩ := hr.form
  obtain ⟨Av, cv, rfl, _, _⟩ := hv.form
  obtain ⟨Ab, cb, rfl, _, _⟩ := hb.form
  obtain ⟨Abb, nbb, cbb, rfl⟩ := hrb
  have hsvl := hH.own.lt
  have hpbl := hH.ptr.lt
  have hnow : 0 ≤ now ∧ now ≤ 1000000 := by simpa using ht
  go_enter Tryd.func7, Tryd.ntmps7
  go_upto_region 5 with (first | (go_at_call 16; refine time_spec now _ _ ?_) | (go_at_call 5; refine life_spec l _ _ _ _ _ ((hv.alloc _).alloc _) hs ((hG.old ((Mod.refl _ _).alloc _)).old ((Mod.refl _ _).alloc _)) ?_; intro w1 m1; have hq0 := (((Blk.new w 25 #[.string m, .string p, .string o, .slice Ar fs.length cr, .slice Abb nbb cbb]).alloc (.cells #[.int .i64 200, .slice Av l.length cv, .slice Ab body.length cb] 27)).old m1)))
  have hp0 : Blk w1 (w.heap.size + 1) 27 #[.int .i64 200, .slice Av l.length cv, .slice Ab body.length cb] := by
    have := (Blk.at (w := w.alloc (.cells #[.string m, .string p, .string o, .slice Ar fs.length cr, .slice Abb nbb cbb] 25)) (t := 27) (cs := #[.int .i64 200, .slice Av l.length cv, .slice Ab body.length cb]) (g := w.heap.size + 1) (by simp)).old m1
    exact this
  have hm1 : Mod None' w w1 := (((Mod.refl _ w).alloc _).alloc _).then m1
  have hz1 : w.heap.size + 1 < w1.heap.size := hp0.lt
  have hv1 := hv.old hm1
  have hb1 := hb.old hm1
  have hr1 := hr.old hm1
  have hG1 := hG.old hm1
  have hH1 := hH.old hm1
  clear hG hv hb hr hH m1
  have q0 := hq0.cell 0
  have q1 := hq0.cell 1
  have q2 := hq0.cell 2
  have q3 := hq0.cell 3
  have q4 := hq0.cell 4
  have p0 := hp0.cell 0
  have p1 := hp0.cell 1
  have p2 := hp0.cell 2
  have hl1 : l.length ≤ 1048576 := hs.1
  go_cut [10] (fun t wx => ∃ (b10 : Nat) (A1 A2 : Option Addr) (c1 c2 : Nat), t = .pointer (some ⟨b10, 0, none⟩) ∧ w1.heap.size ≤ b10 ∧ Mod None' w1 wx ∧
    Blk wx b10 58 #[.string m, .string p, .string o, .slice Ar fs.length cr, .slice Abb nbb cbb, .int .i64 200, .slice A1 l.length c1, .slice A2 body.length c2, .slice none 0 0, .int .i64 now] ∧
    Fresh 31 2 w1 wx (.slice A1 l.length c1) l.length (fcells l) ∧ Fresh 5 1 w1 wx (.slice A2 body.length c2) body.length (body.map bv))
  case first =>
    have hS : ∀ w', Mod None' w1 w' → (w'.cell? ⟨w.heap.size, 0, none⟩ = some (.string m) ∧ w'.cell? ⟨w.heap.size, 1, none⟩ = some (.string p) ∧ w'.cell? ⟨w.heap.size, 2, none⟩ = some (.string o) ∧ w'.cell? ⟨w.heap.size, 3, none⟩ = some (.slice Ar fs.length cr) ∧ w'.cell? ⟨w.heap.size, 4, none⟩ = some (.slice Abb nbb cbb) ∧
        w'.cell? ⟨w.heap.size + 1, 0, none⟩ = some (.int .i64 200) ∧ w'.cell? ⟨w.heap.size + 1, 1, none⟩ = some (.slice Av l.length cv) ∧ w'.cell? ⟨w.heap.size + 1, 2, none⟩ = some (.slice Ab body.length cb)) := fun w' hm => ⟨(hq0.old hm).cell 0, (hq0.old hm).cell 1, (hq0.old hm).cell 2, (hq0.old hm).cell 3, (hq0.old hm).cell 4, (hp0.old hm).cell 0, (hp0.old hm).cell 1, (hp0.old hm).cell 2⟩
    refine wp_region_noPanic ?_
    refine wp_region_held_drew (S := fun w' => w'.cell? ⟨w.heap.size, 0, none⟩ = some (.string m) ∧ w'.cell? ⟨w.heap.size, 1, none⟩ = some (.string p) ∧ w'.cell? ⟨w.heap.size, 2, none⟩ = some (.string o) ∧ w'.cell? ⟨w.heap.size, 3, none⟩ = some (.slice Ar fs.length cr) ∧ w'.cell? ⟨w.heap.size, 4, none⟩ = some (.slice Abb nbb cbb) ∧
        w'.cell? ⟨w.heap.size + 1, 0, none⟩ = some (.int .i64 200) ∧ w'.cell? ⟨w.heap.size + 1, 1, none⟩ = some (.slice Av l.length cv) ∧ w'.cell? ⟨w.heap.size + 1, 2, none⟩ = some (.slice Ab body.length cb)) (by kernel_rfl) ⟨q0, q1, q2, q3, q4, p0, p1, p2⟩ (fun hHeld => ?_)
    refine wpAnyH_take (i := 0) (v := ?_) rfl (by kernel_rfl) (by kernel_rfl) (by kernel_rfl) (fun _ _ _ h => h) (Or.inl ⟨by rfl, ?_⟩) (by assumption) ?_
    rotate_left
    · intro w hSw
      (try obtain ⟨x0, x1, x2, x3, x4, y0, y1, y2⟩ := hSw)
      go_simp
      with_reducible rfl
    simp only [Act.put, List.setIfInBounds_toArray, List.set_cons_zero, List.set_cons_succ]
    refine wpAnyH_take (i := 1) (v := ?_) rfl (by kernel_rfl) (by kernel_rfl) (by kernel_rfl) (fun _ _ _ h => h) (Or.inl ⟨by rfl, ?_⟩) (by assumption) ?_
    rotate_left
    · intro w hSw
      (try obtain ⟨x0, x1, x2, x3, x4, y0, y1, y2⟩ := hSw)
      go_simp
      with_reducible rfl
    simp only [Act.put, List.setIfInBounds_toArray, List.set_cons_zero, List.set_cons_succ]
    refine wpAnyH_take (i := 3) (v := ?_) rfl (by kernel_rfl) (by kernel_rfl) (by kernel_rfl) (fun _ _ _ h => h) (Or.inl ⟨by rfl, ?_⟩) (by assumption) ?_
    rotate_left
    · intro w hSw
      (try obtain ⟨x0, x1, x2, x3, x4, y0, y1, y2⟩ := hSw)
      go_simp
      with_reducible rfl
    simp only [Act.put, List.setIfInBounds_toArray, List.set_cons_zero, List.set_cons_succ]
    have hsz : (Tryd.prog.info? 58).map (·.size) = some 10 := by kernel_rfl
    refine wpAnyH_ready (rs := [2, 5]) (by kernel_rfl) (by simp) ?_
    refine AllReadyH.cons rfl (fun K hK => ?_) (AllReadyH.cons rfl (fun K hK => ?_) AllReadyH.nil)
    · go_simp
      refine clone_spec _ l body _ _ _ _ (Row.old hv1 (by with_reducible (repeat (first | exact Mod.refl _ _ | apply Mod.drew | apply Mod.alloc)))) (Bytes.old hb1 (by with_reducible (repeat (first | exact Mod.refl _ _ | apply Mod.drew | apply Mod.alloc)))) (by omega) (by omega) ?_
      intro fv' bd' w3 hf3 hb3
      have m3 : Mod None' w1 w3 := Mod.then (by with_reducible (repeat (first | exact Mod.refl _ _ | apply Mod.drew | apply Mod.alloc))) hf3.mod
      obtain ⟨A1, c1, rfl, _, _⟩ := hf3.row.form
      obtain ⟨A2, c2, rfl, _, _⟩ := hb3.row.form
      refine hK.out _ _ (hS _ m3) (fun hHeld => ?_)
      clear hK K
      try simp only [Act.put, List.setIfInBounds_toArray, List.set_cons_zero, List.set_cons_succ]
      refine wpAnyH_take (i := 4) (v := ?_) rfl (by kernel_rfl) (by kernel_rfl) (by kernel_rfl) (fun _ _ _ h => h) (Or.inl ⟨by rfl, ?_⟩) (by assumption) ?_
      rotate_left
      · intro w hSw
        go_simp
        with_reducible rfl
      try simp only [Act.put, List.setIfInBounds_toArray, List.set_cons_zero, List.set_cons_succ]
      refine wpAnyH_ready (rs := [5]) (by kernel_rfl) (by simp) ?_
      refine AllReadyH.cons rfl (fun K hK => ?_) AllReadyH.nil
      go_simp
      refine hK.out _ _ (hS _ (m3.alloc _)) (fun hHeld => ?_)
      clear hK K
      try simp only [Act.put, List.setIfInBounds_toArray, List.set_cons_zero, List.set_cons_succ]
      have hb5 := Blk.new w3 58 Z10
      have m5 : Mod None' w1 (w3.alloc (.cells Z10 58)) := m3.alloc _
      have hm5 : w1.heap.size ≤ w3.heap.size := m3.size
      refine wpAnyH_ready (rs := [6]) (by kernel_rfl) (by simp) ?_
      refine AllReadyH.cons rfl (fun K hK => ?_) AllReadyH.nil
      rw [if_pos (by rfl)]
      refine wp_store_mid _ _ _ rfl _ _ #[.string m, .string p, .string o, .slice Ar fs.length cr, .slice Abb nbb cbb, .int .i64 200, .slice A1 l.length c1, .slice A2 body.length c2, .slice none 0 0, .int .i64 now] rfl rfl (hb5.there 0 10 (by simp)) hsz (by simp [Value.oneCell']) ?_
      have hb6 := hb5.setCells #[.string m, .string p, .string o, .slice Ar fs.length cr, .slice Abb nbb cbb, .int .i64 200, .slice A1 l.length c1, .slice A2 body.length c2, .slice none 0 0, .int .i64 now].toList rfl
      have m6 : Mod None' w1 (World.setCells (w3.alloc (.cells Z10 58)) w3.heap.size 0 #[.string m, .string p, .string o, .slice Ar fs.length cr, .slice Abb nbb cbb, .int .i64 200, .slice A1 l.length c1, .slice A2 body.length c2, .slice none 0 0, .int .i64 now].toList) := m5.trans (setCells_mod _ _ _ _) (fun b e hb => by have := hm5; omega)
      refine hK.out _ _ (hS _ m6) (fun hHeld => ?_)
      clear hK K
      try simp only [Act.put, List.setIfInBounds_toArray, List.set_cons_zero, List.set_cons_succ]
      refine wpAnyH_done (by kernel_rfl) ?_ _
      refine NoPanic.normal ?_
      go_wp2_with (fail)
      go_meet
      exact ⟨w3.heap.size, A1, A2, c1, c2, rfl, hm5, m6, hb6, (hf3.after (by with_reducible (repeat (first | exact Mod.refl _ _ | apply Mod.drew | apply Mod.alloc)))).far (by exact ((Mod.refl _ w3).alloc (.cells Z10 58)).any _ |>.trans (setCells_mod _ _ _ _) fun _ h _ => h) hm5 (fun g hg => by have := own_lt hf3.own g hg; omega), (hb3.after (by with_reducible (repeat (first | exact Mod.refl _ _ | apply Mod.drew | apply Mod.alloc)))).far (by exact ((Mod.refl _ w3).alloc (.cells Z10 58)).any _ |>.trans (setCells_mod _ _ _ _) fun _ h _ => h) hm5 (fun g hg => by have := own_lt hb3.own g hg; omega)⟩
    · go_simp
      refine hK.out _ _ (hS _ (((Mod.refl _ w1).drew).alloc _)) (fun hHeld => ?_)
      clear hK K
      try simp only [Act.put, List.setIfInBounds_toArray, List.set_cons_zero, List.set_cons_succ]
      refine wpAnyH_ready (rs := [2]) (by kernel_rfl) (by simp) ?_
      refine AllReadyH.cons rfl (fun K hK => ?_) AllReadyH.nil
      go_simp
      refine clone_spec _ l body _ _ _ _ (Row.old hv1 (by with_reducible (repeat (first | exact Mod.refl _ _ | apply Mod.drew | apply Mod.alloc)))) (Bytes.old hb1 (by with_reducible (repeat (first | exact Mod.refl _ _ | apply Mod.drew | apply Mod.alloc)))) (by omega) (by omega) ?_
      intro fv' bd' w3 hf3 hb3
      have m3 : Mod None' w1 w3 := Mod.then (by with_reducible (repeat (first | exact Mod.refl _ _ | apply Mod.drew | apply Mod.alloc))) hf3.mod
      obtain ⟨A1, c1, rfl, _, _⟩ := hf3.row.form
      obtain ⟨A2, c2, rfl, _, _⟩ := hb3.row.form
      refine hK.out _ _ (hS _ m3) (fun hHeld => ?_)
      clear hK K
      try simp only [Act.put, List.setIfInBounds_toArray, List.set_cons_zero, List.set_cons_succ]
      refine wpAnyH_take (i := 4) (v := ?_) rfl (by kernel_rfl) (by kernel_rfl) (by kernel_rfl) (fun _ _ _ h => h) (Or.inl ⟨by rfl, ?_⟩) (by assumption) ?_
      rotate_left
      · intro w hSw
        go_simp
        with_reducible rfl
      try simp only [Act.put, List.setIfInBounds_toArray, List.set_cons_zero, List.set_cons_succ]
      have hb5 := (Blk.new w1 58 Z10).drew.old hf3.mod
      have m5 : Mod None' w1 w3 := m3
      have hm5 : w1.heap.size ≤ w1.heap.size := Nat.le_refl _
      refine wpAnyH_ready (rs := [6]) (by kernel_rfl) (by simp) ?_
      refine AllReadyH.cons rfl (fun K hK => ?_) AllReadyH.nil
      rw [if_pos (by rfl)]
      refine wp_store_mid _ _ _ rfl _ _ #[.string m, .string p, .string o, .slice Ar fs.length cr, .slice Abb nbb cbb, .int .i64 200, .slice A1 l.length c1, .slice A2 body.length c2, .slice none 0 0, .int .i64 now] rfl rfl (hb5.there 0 10 (by simp)) hsz (by simp [Value.oneCell']) ?_
      have hb6 := hb5.setCells #[.string m, .string p, .string o, .slice Ar fs.length cr, .slice Abb nbb cbb, .int .i64 200, .slice A1 l.length c1, .slice A2 body.length c2, .slice none 0 0, .int .i64 now].toList rfl
      have m6 : Mod None' w1 (World.setCells w3 w1.heap.size 0 #[.string m, .string p, .string o, .slice Ar fs.length cr, .slice Abb nbb cbb, .int .i64 200, .slice A1 l.length c1, .slice A2 body.length c2, .slice none 0 0, .int .i64 now].toList) := m5.trans (setCells_mod _ _ _ _) (fun b e hb => by have := hm5; omega)
      refine hK.out _ _ (hS _ m6) (fun hHeld => ?_)
      clear hK K
      try simp only [Act.put, List.setIfInBounds_toArray, List.set_cons_zero, List.set_cons_succ]
      refine wpAnyH_done (by kernel_rfl) ?_ _
      refine NoPanic.normal ?_
      go_wp2_with (fail)
      go_meet
      exact ⟨w1.heap.size, A1, A2, c1, c2, rfl, hm5, m6, hb6, (hf3.after (by with_reducible (repeat (first | exact Mod.refl _ _ | apply Mod.drew | apply Mod.alloc)))).far (by exact setCells_mod _ _ _ _) hm5 (own_blk_ne hf3.own hb5 (by decide)), (hb3.after (by with_reducible (repeat (first | exact Mod.refl _ _ | apply Mod.drew | apply Mod.alloc)))).far (by exact setCells_mod _ _ _ _) hm5 (own_blk_ne hb3.own hb5 (by decide))⟩
  case rest =>
    obtain ⟨b10, A1, A2, c1, c2, rfl, hb10, m2, hk2, hfa2, hfb2⟩ := hcut
    rename_i w2
    have hr2 := hr1.old m2
    have hq2 := hq0.old m2
    have hp2 := hp0.old m2
    go_upto_region 6 with (fail)
    go_cut [10] (fun t wx => ∃ (A3 : Option Addr) (c3 : Nat), t = .pointer (some ⟨b10, 0, none⟩) ∧ Mod None' w1 wx ∧ 
      Blk wx b10 58 #[.string m, .string p, .string o, .slice A3 fs.length c3, .slice none 0 0, .int .i64 200, .slice A1 l.length c1, .slice A2 body.length c2, .slice none 0 0, .int .i64 now] ∧
      Fresh 31 2 w1 wx (.slice A3 fs.length c3) fs.length (fcells fs) ∧ Fresh 31 2 w1 wx (.slice A1 l.length c1) l.length (fcells l) ∧ Fresh 5 1 w1 wx (.slice A2 body.length c2) body.length (body.map bv))
    case first =>
      have q3 := hq2.cell 3
      go_wp2_with (go_at_call 18; refine clone_fields _ fs _ _ hr2 (by have := hfs.1; omega) ?_; intro A3 c3 w3 hf3; have hk3 := hk2.old hf3.mod; have hck3 := hk3.cell; have hfk3 := hk3.frozen; have hzk3 := hk3.lt)
      go_meet
      have mm : Mod (fun b => b = b10) w3 ((w3.setCell ⟨b10, 3, none⟩ (.slice A3 fs.length c3)).setCell ⟨b10, 4, none⟩ (.slice none 0 0)) := Mod.setCell (F := fun b => b = b10) (Mod.setCell (F := fun b => b = b10) (Mod.refl _ _) (.inl rfl) _) (.inl rfl) _
      have m3 : Mod None' w1 w3 := m2.then hf3.mod
      exact ⟨A3, c3, rfl, m3.trans mm fun b e hb => by omega, (hk3.set_ 3 _).set_ 4 _, (hf3.after m2).far mm hb10 (own_blk_ne hf3.own hk3 (by decide)), (hfa2.then hf3.mod).far mm hb10 (own_blk_ne (hfa2.then hf3.mod).own hk3 (by decide)),
        (hfb2.then hf3.mod).far mm hb10 (own_blk_ne (hfb2.then hf3.mod).own hk3 (by decide))⟩
    case rest =>
      obtain ⟨A3, c3, rfl, m4, hk4, hfc4, hfa4, hfb4⟩ := hcut
      rename_i w4
      clear hk2 hfa2 hfb2 hr2 hq2 hp2 m2
      have hp4 := hp0.old m4
      have pc1 := hp4.cell 1
      have hv4 := hv1.old m4
      have hsm := firstOf_small l ⟨#[118, 97, 114, 121]⟩ hs
      have hvt : varyOf l = match firstOf l ⟨#[118, 97, 114, 121]⟩ with
        | some s => varyText s
        | none => [] := rfl
      go_upto_region 8 with (go_at_call 12; refine first_spec l ⟨#[118, 97, 114, 121]⟩ _ _ _ hv4 (by omega) ?_; intro w5 m5)
      have m6 := m4.then m5
      have hk5 := hk4.old m5
      have hfc5 := hfc4.then m5
      have hfa5 := hfa4.then m5
      have hfb5 := hfb4.then m5
      have hG5 := hG1.old m6
      clear hk4 hfc4 hfa4 hfb4 hp4 pc1 hv4 m5 m4
      go_upto_if 50 with (fail)
      go_cut [10, 11, 12] (fun t _ _ wx => ∃ (B : Option Addr) (d : Nat), t = .pointer (some ⟨b10, 0, none⟩) ∧ Mod None' w1 wx ∧
        Blk wx b10 58 #[.string m, .string p, .string o, .slice A3 fs.length c3, .slice none 0 0, .int .i64 200, .slice A1 l.length c1, .slice A2 body.length c2, .slice B (varyOf l).length d, .int .i64 now] ∧ Own wx 9 1 (.slice B (varyOf l).length d) (varyOf l).length ((varyOf l).map .string) ∧ (∀ g, (Value.slice B (varyOf l).length d).ownBlock = some g → w1.heap.size ≤ g) ∧
        Fresh 31 2 w1 wx (.slice A3 fs.length c3) fs.length (fcells fs) ∧ Fresh 31 2 w1 wx (.slice A1 l.length c1) l.length (fcells l) ∧ Fresh 5 1 w1 wx (.slice A2 body.length c2) body.length (body.map bv))
      case first =>
        cases hfo : firstOf l ⟨#[118, 97, 114, 121]⟩ with
        | none =>
          have hvn : varyOf l = [] := by rw [hvt, hfo]
          simp only [hfo, Option.isSome_none]
          go_wp2_with (fail)
          go_meet
          rw [hvn]
          exact ⟨none, 0, rfl, m6, hk5, Own.nil_ _ _ _, by simp [Value.ownBlock], hfc5, hfa5, hfb5⟩
        | some s =>
          have hvn : varyOf l = varyText s := by rw [hvt, hfo]
          rw [hfo] at hsm
          simp only [hfo, Option.isSome_some, Option.getD_some] at hsm ⊢
          clear hvt hfo
          go_wp2_with (go_at_call 19; refine split_spec s _ _ hsm hG5 ?_; intro S sc w7 hf7)
          have hS7 := hf7.row
          have hk7 := hk5.old hf7.mod
          have hm7 := m6.then hf7.mod
          have hle := splitOf_le s
          have hPs := splitOf_small s
          have hvs : varyText s = (splitOf s).filter tokenB := rfl
          have hSn := hf7.new
          have hw65 : w1.heap.size ≤ w5.heap.size := m6.size
          have hb10l : b10 < w5.heap.size := hk5.lt
          have hb10m : b10 < w7.heap.size := hk7.lt
          generalize hP : splitOf s = P at hS7 hle hPs hvs hf7 hSn
          obtain ⟨i0, hi0, hz0, hz1, hz2⟩ := info_parts info_string
          clear hP
          go_wp2_with (fail)
          go_loopw [54] (fun i wr => ∃ (k : Nat) (B : Option Addr) (d : Nat), k ≤ P.length ∧ i = .int .i64 k ∧
            Blk wr b10 58 #[.string m, .string p, .string o, .slice A3 fs.length c3, .slice none 0 0, .int .i64 200, .slice A1 l.length c1, .slice A2 body.length c2, .slice B ((P.take k).filter tokenB).length d, .int .i64 now] ∧
            wr.ownsRow 0 9 1 (.slice B ((P.take k).filter tokenB).length d) ((P.take k).filter tokenB).length (((P.take k).filter tokenB).map .string) ∧ (∀ g, (Value.slice B ((P.take k).filter tokenB).length d).ownBlock = some g → w7.heap.size ≤ g) ∧ Mod (fun b => b = b10) w7 wr) (fun i _ => P.length - (intOf i).toNat)
          case atStart =>
            refine ⟨0, none, 0, Nat.zero_le _, rfl, by simpa using hk7, by simpa using World.ownsRow_nil _ _ _ _, by simp [Value.ownBlock], Mod.refl _ _⟩
          case round =>
            obtain ⟨k, B, d, hk, rfl, hkr, hor, hnr, hmr⟩ := hrel
            by_cases hlt : k < P.length
            · obtain ⟨g, o', c', hs', hcell⟩ := hS7.text (by omega)
              injection hs' with hA _ hC
              subst hA hC
              have hgn : g ≠ b10 := by have := hSn g rfl; omega
              have hc1 : wr.cell? ⟨g, o' + k, none⟩ = some (.string P[k]) := (hmr.cell (a := ⟨g, o' + k, none⟩) (cell_lt (hcell k hlt)) hgn).trans (hcell k hlt)
              have hps := hPs _ (List.getElem_mem hlt)
              have htk : (P.take (k + 1)).filter tokenB = (P.take k).filter tokenB ++ if tokenB P[k] = true then [P[k]] else [] := by
                rw [List.take_add_one, List.getElem?_eq_getElem hlt, Option.toList_some, List.filter_append]
                congr 1
                cases hp : tokenB P[k] <;> simp [hp]
              have hn : ((P.take k).filter tokenB).length ≤ k := Nat.le_trans (List.length_filter_le _ _) (by simp; omega)
              have hbr := hkr.lt
              clear hcell
              by_cases htok : tokenB P[k] = true
              · rw [if_pos htok] at htk
                generalize hV : (P.take k).filter tokenB = V at htk hn hkr hor hnr
                clear hV
                go_wp2_with (first
                  | (go_at_call 20; refine token_spec _ _ _ (by omega) ?_; intro w8 m8; have hk8 := hkr.old m8; have kc8 := hk8.cell 8; have hbk8 := hk8.lt; have kf8 := hk8.frozen 8)
                  | (at_builtin; refine wpList_app rfl (.tmp 61) (.tmp 63) _ rfl 9 i0 _ 1 16 Tryd.underlying28 hi0 hz0 hz1 hz2 rfl (by omega) (.slice B V.length d) V.length (V.map .string) rfl ((own_keep hor m8 (fun _ _ f => f)).alloc _) (.slice (some ⟨w8.heap.size, 0, none⟩) 1 1) 1 [.string P[k]] rfl (Row.of_blk (Blk.at (t := 9) (cs := #[.string P[k]]) (by simp)) 1 1 1 rfl (by omega) (by simp [maxLen])) (by simp [Value.oneCell']) (V.length + 1) _ rfl rfl (by simp only [maxLen]; omega) (by omega) ?_; intro B' d' w9 ho9 hm9 hat9; have hk9 := (hk8.alloc (.cells #[.string P[k]] 9)).mod hm9 (fun e => by have := hnr _ e; omega); have kc9 := hk9.cell 8; have kf9 := hk9.frozen 8; have hb9 := hk9.lt))
                go_roundw
                case rel =>
                  have mm : Mod (fun b => b = b10) w9 (w9.setCell ⟨b10, 8, none⟩ (.slice B' (V.length + 1) d')) := Mod.setCell (F := fun b => b = b10) (Mod.refl _ _) (.inl rfl) _
                  have hs87 := hmr.size
                  have hs88 := m8.size
                  have hn9 : ∀ g, (Value.slice B' (V.length + 1) d').ownBlock = some g → w7.heap.size ≤ g := fun g hg => by
                    rcases hat9 g hg with h1 | h1
                    · exact hnr g h1
                    · simp at h1; omega
                  refine ⟨k + 1, B', d', by omega, by go_num, ?_⟩
                  rw [htk]
                  refine ⟨?_, ?_, ?_, ?_⟩
                  · simpa using hk9.set_ 8 (.slice B' (V.length + 1) d')
                  · have := own_keep ho9 mm (fun g hg => by have := hn9 g hg; omega)
                    simpa using this
                  · simpa using hn9
                  · have h1 : Mod (fun b => b = b10 ∨ w7.heap.size ≤ b) w7 w9 := ((hmr.trans m8 fun _ f _ => f.elim).alloc _ |>.weaken fun b hb _ => Or.inl hb).trans hm9 fun b hb _ => Or.inr (hnr b hb)
                    exact (h1.weaken fun b hb hlt => by rcases hb with hb | hb; exact hb; omega).trans mm fun b hb _ => hb
                case measure => simp [intOf]; omega
              · have htf : tokenB P[k] = false := by simpa using htok
                rw [if_neg htok, List.append_nil] at htk
                go_wp2_with (go_at_call 20; refine token_spec _ _ _ (by omega) ?_; intro w8 m8)
                go_roundw
                case rel =>
                  refine ⟨k + 1, B, d, by omega, by go_num, ?_⟩
                  rw [htk]
                  exact ⟨hkr.old m8, own_keep hor m8 (fun _ _ f => f), hnr, hmr.trans m8 fun _ f _ => f.elim⟩
                case measure => simp [intOf]; omega
            · obtain rfl : k = P.length := by omega
              rw [List.take_length, ← hvs] at hkr hor hnr
              go_wp2_with (fail)
              go_meet
              rw [hvn]
              have hne : ∀ {e : TypeId} {k n : Nat} {v : Value} {xs : List Value}, w7.ownsRow 0 e k v n xs → e ≠ 58 → ∀ g, v.ownBlock = some g → g ≠ b10 := fun ho he => own_blk_ne ho hk7 he
              have f3 := hfc5.then hf7.mod
              have f1 := hfa5.then hf7.mod
              have f2 := hfb5.then hf7.mod
              exact ⟨B, d, rfl, hm7.trans hmr fun b hb _ => by omega, hkr, .of_own hor, fun g hg => by have := hnr g hg; have := hm7.size; omega, f3.far hmr hb10 (hne f3.own (by decide)), f1.far hmr hb10 (hne f1.own (by decide)), f2.far hmr hb10 (hne f2.own (by decide))⟩
      case rest =>
        obtain ⟨B, d, rfl, m10, hk10, hvo, hvn', hfc, hfa, hfb⟩ := hcut
        rename_i w10
        have hH10 := hH1.old m10
        have hq10 := hq0.old m10
        have hr10 := hr1.old m10
        clear hvt hsm hk5 hfc5 hfa5 hfb5 hG5 m6
        have mw10 := hm1.then m10
        obtain ⟨Asv, csv, hsv, _, _⟩ := hH10.own.form
        subst hsv
        have hpn : ∀ g, (Value.slice Asv xs.length csv).ownBlock = some g → g ≠ pb := fun g hg => hH10.own.blk_ne hH10.ptr (by decide) g hg
        go_upto_region 15 with (fail)
        go_cut [10] (fun t wx => ∃ (E : Option Addr) (c9 : Nat), t = .pointer (some ⟨b10, 0, none⟩) ∧ Mod (fun b => b = pb ∨ (Value.slice Asv xs.length csv).ownBlock = some b) w wx ∧
          Blk wx pb 53 #[.slice E (xs.filter fun x => !fitsB x o p fs).length c9] ∧ Own wx 58 10 (.slice E (xs.filter fun x => !fitsB x o p fs).length c9) (xs.filter fun x => !fitsB x o p fs).length (kcells (xs.filter fun x => !fitsB x o p fs)) ∧
          (∀ g, (Value.slice E (xs.filter fun x => !fitsB x o p fs).length c9).ownBlock = some g → (Value.slice Asv xs.length csv).ownBlock = some g) ∧
          Blk wx b10 58 #[.string m, .string p, .string o, .slice A3 fs.length c3, .slice none 0 0, .int .i64 200, .slice A1 l.length c1, .slice A2 body.length c2, .slice B (varyOf l).length d, .int .i64 now] ∧
          (∀ x ∈ xs, KOk wx x) ∧ KOk wx ⟨m, p, o, fs, 200, l, body, varyOf l, now, .slice A3 fs.length c3, .slice A1 l.length c1, .slice A2 body.length c2, .slice B (varyOf l).length d⟩)
        case first =>
          have pc0 := hH10.ptr.cell 0
          have hpl := hH10.ptr.lt
          have hcap : ∀ w', Mod (fun b => (Value.slice Asv xs.length csv).ownBlock = some b) wc w' → Blk w' w.heap.size 25 #[.string m, .string p, .string o, .slice Ar fs.length cr, .slice Abb nbb cbb] := fun w' hm => hq10.mod hm fun e => by have := hsvl _ e; omega
          go_wp2_with (go_at_call 21; refine deleteKept_spec (fun x => fitsB x o p fs) _ _ xs _ _ _ hH10.own (by have := hH10.few; omega) hH10.ok (enters_of Tryd.func22 (by kernel_rfl) rfl) (fun w' x R' hm hx hc => put1_spec x m p o fs w.heap.size _ _ w' R' ((hH10.ok x hx).arr hH10.own hm) (hcap w' hm) (hr10.modOr hm (hrn.imp id fun hh g hg e => hh g hg e)) ⟨_, _, _, rfl⟩ hfs.1 hc) ?_; intro v' w11 ho11 hm11 hs11; obtain ⟨E, c9, rfl, _, _⟩ := ho11.form; have hp11 := hH10.ptr.mod hm11 (fun e => hpn _ e rfl); have pc11 := hp11.cell 0; have pf11 := hp11.frozen 0; have pl11 := hp11.lt)
          go_meet
          have mm : Mod (fun b => b = pb) w11 (w11.setCell ⟨pb, 0, none⟩ (.slice E (xs.filter fun x => !fitsB x o p fs).length c9)) := Mod.setCell (F := fun b => b = pb) (Mod.refl _ _) (.inl rfl) _
          have hpw : pb < w.heap.size := hpbl
          have hkk : ∀ x, KOk wc x → KOk (w11.setCell ⟨pb, 0, none⟩ (.slice E (xs.filter fun x => !fitsB x o p fs).length c9)) x := fun x hx =>
            (hx.arr hH10.own hm11).mod mm fun g hg => by subst hg; exact ⟨_, _, hp11, by decide, by decide, by decide⟩
          refine ⟨E, c9, rfl, (((mw10.any (fun b => b = pb ∨ (Value.slice Asv xs.length csv).ownBlock = some b)).trans hm11 fun b h _ => Or.inr h).setCell (p := ⟨pb, 0, none⟩) (.inl (.inl rfl)) _), by simpa using hp11.set_ 0 (.slice E (xs.filter fun x => !fitsB x o p fs).length c9), ho11.mod mm fun g hg => hpn g (hs11 g hg), hs11,
            ((hk10.mod hm11 fun e => by have := hsvl _ e; omega).far (p := ⟨pb, 0, none⟩) (by simp only []; omega) _), fun x hx => hkk x (hH10.ok x hx), hkk _ ?_⟩
          exact ⟨.of_own hfc.own, .of_own hfa.own, .of_own hfb.own, hvo, hfs, hs, hlb, varyOf_len l hs, hnow.1, hnow.2⟩
        case rest =>
          obtain ⟨E, c9, rfl, m11, hp11, ho11, hs11, hk11, hok11, hnew11⟩ := hcut
          have hfl : (xs.filter fun x => !fitsB x o p fs).length ≤ 20 := Nat.le_trans (List.length_filter_le _ _) hH10.few
          have hyok : ∀ x ∈ (xs.filter fun x => !fitsB x o p fs), KOk wc x := fun x hx => hok11 x (List.mem_filter.1 hx).1
          have hpne : ∀ g, (Value.slice E (xs.filter fun x => !fitsB x o p fs).length c9).ownBlock = some g → g ≠ pb := fun g hg => ho11.blk_ne hp11 (by decide) g hg
          generalize hys : (xs.filter fun x => !fitsB x o p fs) = ys at *
          generalize hX : (⟨m, p, o, fs, 200, l, body, varyOf l, now, .slice A3 fs.length c3, .slice A1 l.length c1, .slice A2 body.length c2, .slice B (varyOf l).length d⟩ : KV) = X at *
          have hXc : X.cells = [.string m, .string p, .string o, .slice A3 fs.length c3, .slice none 0 0, .int .i64 200, .slice A1 l.length c1, .slice A2 body.length c2, .slice B (varyOf l).length d, .int .i64 now] := by rw [← hX]; rfl
          obtain ⟨i1, hi1, hy0, hy1, hy2⟩ := info_parts info_kept
          go_upto_region 16 with (fail)
          go_cut [10] (fun t wx => ∃ (E' : Option Addr) (c' : Nat), t = .pointer (some ⟨b10, 0, none⟩) ∧ Mod (fun b => b = pb ∨ (Value.slice Asv xs.length csv).ownBlock = some b) w wx ∧
            Blk wx pb 53 #[.slice E' (ys.length + 1) c'] ∧ Own wx 58 10 (.slice E' (ys.length + 1) c') (ys.length + 1) (kcells (ys ++ [X])) ∧
            (∀ g, (Value.slice E' (ys.length + 1) c').ownBlock = some g → (Value.slice Asv xs.length csv).ownBlock = some g ∨ w.heap.size ≤ g) ∧ (∀ x ∈ ys ++ [X], KOk wx x))
          case first =>
            have pc0 := hp11.cell 0
            have pf0 := hp11.frozen 0
            have hpl := hp11.lt
            have hkl := hk11.lt
            have k0 := hk11.cell 0
            have k1 := hk11.cell 1
            have k2 := hk11.cell 2
            have k3 := hk11.cell 3
            have k4 := hk11.cell 4
            have k5 := hk11.cell 5
            have k6 := hk11.cell 6
            have k7 := hk11.cell 7
            have k8 := hk11.cell 8
            have k9 := hk11.cell 9
            have hone : ∀ u ∈ X.cells, u.oneCell' = true := by rw [hXc]; simp [Value.oneCell']
            have hkc : kcells ys ++ X.cells = kcells (ys ++ [X]) := by simp [kcells]
            go_region_law (first
              | (refine step_Own rfl (.tmp 80) (.tmp 82) _ rfl 58 i1 _ 10 184 Tryd.underlying51 hi1 hy0 hy1 hy2 rfl (by omega) (.slice E ys.length c9) ys.length (kcells ys) rfl (Own.old ho11 (by with_reducible (repeat (first | exact Mod.refl _ _ | apply Mod.drew | apply Mod.alloc)))) (.slice (some ⟨wc.heap.size, 0, none⟩) 1 1) 1 X.cells rfl (by rw [hXc]; exact Row.of_blk (Blk.at (t := 58) (cs := #[.string m, .string p, .string o, .slice A3 fs.length c3, .slice none 0 0, .int .i64 200, .slice A1 l.length c1, .slice A2 body.length c2, .slice B (varyOf l).length d, .int .i64 now]) (by simp)) 1 10 1 rfl (by omega) (by simp [maxLen])) hone (ys.length + 1) (kcells (ys ++ [X])) rfl hkc (by simp only [maxLen]; omega) (by omega) ?_; intro E' c' w13 ho13 hm13 hat13; have hp13 := (hp11.old (by with_reducible (repeat (first | exact Mod.refl _ _ | apply Mod.drew | apply Mod.alloc)))).mod hm13 (fun e => hpne _ e rfl); have pc13 := hp13.cell 0; have pf13 := hp13.frozen 0; have hpl13 := hp13.lt))
            all_goals
              go_wp2_with (fail)
              go_meet
              have mm : Mod (fun b => b = pb) w13 (w13.setCell ⟨pb, 0, none⟩ (.slice E' (ys.length + 1) c')) := Mod.setCell (F := fun b => b = pb) (Mod.refl _ _) (.inl rfl) _
              have hkk : ∀ x, KOk wc x → KOk (w13.setCell ⟨pb, 0, none⟩ (.slice E' (ys.length + 1) c')) x := fun x hx =>
                ((hx.old (by with_reducible (repeat (first | exact Mod.refl _ _ | apply Mod.drew | apply Mod.alloc)))).arr (Own.old ho11 (by with_reducible (repeat (first | exact Mod.refl _ _ | apply Mod.drew | apply Mod.alloc)))) hm13).mod mm fun g hg => by subst hg; exact ⟨_, _, hp13, by decide, by decide, by decide⟩
              have hwc := m11.size
              refine ⟨E', c', rfl, (((m11.trans (G := None') (by with_reducible (repeat (first | exact Mod.refl _ _ | apply Mod.drew | apply Mod.alloc))) (fun _ f _ => f.elim)).trans hm13 (fun b hb _ => Or.inr (hs11 b hb))).setCell (p := ⟨pb, 0, none⟩) (.inl (.inl rfl)) _), by simpa using hp13.set_ 0 (.slice E' (ys.length + 1) c'), ho13.mod mm (fun g hg => ?_), fun g hg => ?_, fun x hx => ?_⟩
              · exact ho13.blk_ne hp13 (by decide) g hg
              · rcases hat13 g hg with h1 | h1
                · exact .inl (hs11 g h1)
                · simp at h1; exact .inr (by omega)
              · rcases List.mem_append.1 hx with hx | hx
                · exact hkk x (hyok x hx)
                · rw [List.mem_singleton.1 hx]; exact hkk X hnew11
          case rest =>
            obtain ⟨E', c', rfl, m14, hp14, ho14, hs14, hok14⟩ := hcut
            rename_i wc2
            clear hyok hp11 ho11 hs11 hk11 hok11 hnew11 m11
            have hfm := ho14.form
            have hcm : c' ≤ 9223372036854775807 := by obtain ⟨_, _, he, _, hm⟩ := hfm; injection he with _ _ he; unfold maxLen at hm; omega
            have hcle : ys.length + 1 ≤ c' := by obtain ⟨_, _, he, hm, _⟩ := hfm; injection he with _ _ he; omega
            have hXi : IsKV X m p o fs l body now := by rw [← hX]; exact ⟨rfl, rfl, rfl, rfl, rfl, rfl, rfl, rfl, rfl⟩
            have pc := hp14.cell 0
            have pf := hp14.frozen 0
            have pl := hp14.lt
            by_cases h20 : ys.length + 1 ≤ 20
            · have hk20 : keep20 (ys ++ [X]) = ys ++ [X] := by unfold keep20; rw [if_neg (by simp; omega)]
              go_wp2_with (fail)
              refine hR _ _ X hXi ?_ m14 hs14
              rw [hk20]
              exact ⟨hp14, by simpa using ho14, hok14, by simp; omega⟩
            · have hk20 : keep20 (ys ++ [X]) = (ys ++ [X]).drop 1 := by unfold keep20; rw [if_pos (by simp; omega)]
              obtain ⟨g, o', c2', he, hcut⟩ := ho14.cut 1 (by omega) (by omega)
              injection he with e1 _ e3
              subst e1 e3
              have hcne : c' ≠ 1 := by omega
              go_wp2_with (fail)
              have mm : Mod (fun b => b = pb) wc (wc.setCell ⟨pb, 0, none⟩ (.slice (some ⟨g, o' + 10, none⟩) ys.length (c' - 1))) := Mod.setCell (F := fun b => b = pb) (Mod.refl _ _) (.inl rfl) _
              have hgp : g ≠ pb := ho14.blk_ne hp14 (by decide) g rfl
              have hcut' : Own wc 58 10 (.slice (some ⟨g, o' + 10, none⟩) ys.length (c' - 1)) ys.length (kcells ((ys ++ [X]).drop 1)) := by
                have := hcut
                rw [show (kcells (ys ++ [X])).drop (1 * 10) = kcells ((ys ++ [X]).drop 1) from kcells_drop _ 1] at this
                simpa using this
              refine hR _ (.slice (some ⟨g, o' + 10, none⟩) ys.length (c' - 1)) X hXi ?_ (m14.trans mm fun b hb _ => Or.inl hb) (fun g' hg' => hs14 g' hg')
              rw [hk20]
              refine ⟨by simpa using hp14.set_ 0 (.slice (some ⟨g, o' + 10, none⟩) ys.length (c' - 1)), ?_, fun x hx => ?_, by simp; omega⟩
              · have := hcut'.mod mm fun g' hg' => by simp [Value.ownBlock] at hg'; omega
                simpa using this
              · exact (hok14 x (List.mem_of_mem_drop hx)).mod mm fun g hg => by subst hg; exact ⟨_, _, hp14, by decide, by decide, by decide⟩
end Go.Proofs.YtekmgamjpjddiaaDoor
