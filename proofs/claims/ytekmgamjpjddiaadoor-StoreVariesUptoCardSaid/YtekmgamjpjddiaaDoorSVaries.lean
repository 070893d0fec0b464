/- The walk of StoreVaries. -/
import Derived.Test.YtekmgamjpjddiaaDoorSTells
namespace Go.Proofs.YtekmgamjpjddiaaDoor
open Go Go.RowKit
set_option maxRecDepth 100000

theorem bytes_of_text (w : World) (s : ByteArray) (cap : Nat) (t : TypeId) (fr : Nat × Nat) (hs : s.size ≤ cap) (hc : cap ≤ maxLen) :
    Bytes (w.alloc (.cells (bytesRow s cap) t fr)) (.slice (some ⟨w.heap.size, 0, none⟩) s.size cap) s.data.toList := by
  have hn : s.size = s.data.toList.length := by rw [Array.length_toList]; rfl
  refine Bytes.of_row (n := s.size) ⟨by rw [List.length_map, hn, Nat.mul_one], _, _, rfl, hs, hc, fun _ => ⟨_, _, rfl, fun j u hu => ?_⟩⟩ hn
  have hj : j < s.data.size := by
    have := (List.getElem?_eq_some_iff.1 hu).1
    simpa using this
  have := World.cell?_alloc_mark w (bytesRow s cap) t fr j
  rw [Nat.zero_add, this, bytesRow_at s cap j hj]
  rw [List.getElem?_map, List.getElem?_eq_getElem (by simpa using hj)] at hu
  simp only [Option.map_some, Option.some.injEq] at hu
  rw [← hu]
  simp [bv]

abbrev tGET : ByteArray := ⟨#[71, 69, 84]⟩
abbrev tSlash : ByteArray := ⟨#[47]⟩
abbrev tH : ByteArray := ⟨#[104]⟩
abbrev tType : ByteArray := ⟨#[116, 121, 112, 101]⟩
abbrev tX : ByteArray := ⟨#[120]⟩
def varL : Fs := [(⟨#[99, 97, 99, 104, 101]⟩, ⟨#[109, 97, 120, 45, 57]⟩), (⟨#[118, 97, 114, 121]⟩, ⟨#[116, 121, 112, 101]⟩)]
theorem varL_life : lifeOf varL = 9 := by decide +kernel
theorem varL_vary : varyOf varL = [tType] := by decide +kernel
theorem varL_small : Small varL := by
  refine ⟨by decide, fun x hx => ?_⟩
  simp only [varL, List.mem_cons, List.mem_nil_iff, or_false] at hx
  rcases hx with rfl | rfl <;> exact ⟨by decide, by decide⟩
theorem vals_type (a : ByteArray) : valsOf [(tType, a)] tType = [a] := by simp [valsOf]
theorem vals_type2 (a c : ByteArray) : valsOf [(tType, a), (tX, c)] tType = [a] := by
  have h : (tX.toList == tType.toList) = false := by decide +kernel
  simp [valsOf, h]
theorem differs_type {a b : Fs} {x y : ByteArray} (ha : valsOf a tType = [x]) (hb : valsOf b tType = [y]) : differs a b tType = !(decide (x = y)) := by
  unfold differs
  rw [ha, hb]
  simp
theorem fits_type {X : KV} {a b : ByteArray} {fx fy : Fs} {body : List UInt8} {t : Int} (h : IsKV X tGET tSlash tH fx varL body t) (ha : valsOf fx tType = [a]) (hb : valsOf fy tType = [b]) : fitsB X tH tSlash fy = decide (a = b) := by
  unfold fitsB
  rw [h.o, h.p, h.vary, h.fs, varL_vary]
  simp only [List.any_cons, List.any_nil, Bool.or_false, differs_type ha hb]
  simp
theorem getB_type {X : KV} {a b : ByteArray} {fx fy : Fs} {body : List UInt8} {t u : Int} (h : IsKV X tGET tSlash tH fx varL body t) (ha : valsOf fx tType = [a]) (hb : valsOf fy tType = [b]) (h0 : 0 ≤ u - t) (h1 : u - t < 9) : getB X tGET tH tSlash fy u = decide (a = b) := by
  unfold getB
  rw [fits_type h ha hb, h.at_, h.rfs, varL_life, decide_eq_true h0, decide_eq_true h1, decide_eq_true (by decide +kernel : tGET.toList = [71, 69, 84])]
  simp
theorem small_type (a : ByteArray) (ha : a.size ≤ 1048576) : Small [(tType, a)] := by
  refine ⟨by simp, fun x hx => ?_⟩
  simp only [List.mem_singleton] at hx
  subst hx
  exact ⟨(by decide : tType.size ≤ 1048576), ha⟩
theorem small_type2 (a c : ByteArray) (ha : a.size ≤ 1048576) (hc : c.size ≤ 1048576) : Small [(tType, a), (tX, c)] := by
  refine ⟨by simp, fun x hx => ?_⟩
  simp only [List.mem_cons, List.mem_nil_iff, or_false] at hx
  rcases hx with rfl | rfl
  · exact ⟨(by decide : tType.size ≤ 1048576), ha⟩
  · exact ⟨(by decide : tX.size ≤ 1048576), hc⟩
theorem byteArray_back (a : ByteArray) : (⟨a.data.toList.toArray⟩ : ByteArray) = a := by cases a; simp

set_option maxHeartbeats 6400000 in
theorem varies_all (a b c : ByteArray) (w : World) (R : Ending → World → Prop) (hG : Glob w) (ha : a.size ≤ 1048576) (hb : b.size ≤ 1048576) (hc : c.size ≤ 1048576)
    (hR : ∀ w', Mod None' w w' → R (.returned (.bool true)) w') :
    Calls Tryd.prog 4 #[.string a, .string b, .string c] w R := by
  have hcv := fun w s => run_bytes_of_string (P := Tryd.prog) w 9 23 5 s Tryd.underlying9 Tryd.underlying23 Tryd.underlying5
  have hgc := fun w => grownCap_ge w a.size 0 5
  have hgm := fun w => grownCap_le_maxLen w a.size 0 5 (by unfold maxLen; omega)
  go_enter Tryd.func4, Tryd.ntmps4
  go_upto_region 5 with (go_at_call 6; refine new_spec _ _ ?_; intro w2 pb hpb m2 hH2)
  go_cut [7, 8, 9, 10, 11] (fun t7 t8 t9 t10 t11 wx => ∃ (b8 b9 b10 b11 : Nat) (F8 F9 F10 F11 B8 : Option Addr) (c8 c9 c10 c11 d8 : Nat), t7 = .pointer (some ⟨pb, 0, none⟩) ∧ t8 = .pointer (some ⟨b8, 0, none⟩) ∧ t9 = .pointer (some ⟨b9, 0, none⟩) ∧ t10 = .pointer (some ⟨b10, 0, none⟩) ∧ t11 = .pointer (some ⟨b11, 0, none⟩) ∧
    Mod None' w2 wx ∧ Blk wx b8 27 #[.int .i64 200, .slice F8 2 c8, .slice B8 a.size d8] ∧ Blk wx b9 25 #[.string tGET, .string tSlash, .string tH, .slice F9 1 c9, .slice none 0 0] ∧ Blk wx b10 25 #[.string tGET, .string tSlash, .string tH, .slice F10 1 c10, .slice none 0 0] ∧ Blk wx b11 25 #[.string tGET, .string tSlash, .string tH, .slice F11 2 c11, .slice none 0 0] ∧
    Row wx (.slice F8 2 c8) 2 2 (fcells varL) ∧ Row wx (.slice F9 1 c9) 1 2 (fcells [(tType, a)]) ∧ Row wx (.slice F10 1 c10) 1 2 (fcells [(tType, b)]) ∧ Row wx (.slice F11 2 c11) 2 2 (fcells [(tType, a), (tX, c)]) ∧ Bytes wx (.slice B8 a.size d8) a.data.toList ∧
    (∀ g, ((Value.slice F8 2 c8).ownBlock = some g ∨ (Value.slice F9 1 c9).ownBlock = some g ∨ (Value.slice F10 1 c10).ownBlock = some g ∨ (Value.slice F11 2 c11).ownBlock = some g ∨ (Value.slice B8 a.size d8).ownBlock = some g) → w2.heap.size ≤ g))
  case first =>
    go_wp2_with (fail)
    go_meet
    refine ⟨_, _, _, _, some ⟨w2.heap.size, 0, none⟩, some ⟨w2.heap.size + 1 + 1 + 1, 0, none⟩, some ⟨w2.heap.size + 1 + 1 + 1 + 1 + 1, 0, none⟩, some ⟨w2.heap.size + 1 + 1 + 1 + 1 + 1 + 1 + 1, 0, none⟩, some ⟨w2.heap.size + 1, 0, none⟩, 2, 1, 1, 2, grownCap (w2.alloc (.cells #[.string ⟨#[99, 97, 99, 104, 101]⟩, .string ⟨#[109, 97, 120, 45, 57]⟩, .string ⟨#[118, 97, 114, 121]⟩, .string ⟨#[116, 121, 112, 101]⟩] 31)) a.size 0 5, rfl, rfl, rfl, rfl, rfl, (by with_reducible (repeat (first | exact Mod.refl _ _ | assumption | apply Mod.drewN | apply Mod.drew | apply Mod.alloc))), ?h8, ?h9, ?h10, ?h11, ?r8, ?r9, ?r10, ?r11, ?rb, ?rn⟩
    case h9 => repeat (first | (with_reducible exact Blk.at (by simp)) | (with_reducible apply Blk.alloc) | (with_reducible apply Blk.drew))
    case h10 => repeat (first | (with_reducible exact Blk.at (by simp)) | (with_reducible apply Blk.alloc) | (with_reducible apply Blk.drew))
    case h11 => repeat (first | (with_reducible exact Blk.at (by simp)) | (with_reducible apply Blk.alloc) | (with_reducible apply Blk.drew))
    case h8 => repeat (first | (with_reducible exact Blk.at (by simp)) | (with_reducible apply Blk.alloc) | (with_reducible apply Blk.drew))
    case r8 => exact Row.of_blk (t := 31) (cs := #[.string ⟨#[99, 97, 99, 104, 101]⟩, .string ⟨#[109, 97, 120, 45, 57]⟩, .string ⟨#[118, 97, 114, 121]⟩, .string ⟨#[116, 121, 112, 101]⟩]) (by repeat (first | (with_reducible exact Blk.at (by simp)) | (with_reducible apply Blk.alloc) | (with_reducible apply Blk.drew))) 2 2 2 rfl (by omega) (by simp [maxLen])
    case r9 => exact Row.of_blk (t := 31) (cs := #[.string tType, .string a]) (by repeat (first | (with_reducible exact Blk.at (by simp)) | (with_reducible apply Blk.alloc) | (with_reducible apply Blk.drew))) 1 2 1 rfl (by omega) (by simp [maxLen])
    case r10 => exact Row.of_blk (t := 31) (cs := #[.string tType, .string b]) (by repeat (first | (with_reducible exact Blk.at (by simp)) | (with_reducible apply Blk.alloc) | (with_reducible apply Blk.drew))) 1 2 1 rfl (by omega) (by simp [maxLen])
    case r11 => exact Row.of_blk (t := 31) (cs := #[.string tType, .string a, .string tX, .string c]) (by repeat (first | (with_reducible exact Blk.at (by simp)) | (with_reducible apply Blk.alloc) | (with_reducible apply Blk.drew))) 2 2 2 rfl (by omega) (by simp [maxLen])
    case rb =>
      have base := fun fr => bytes_of_text (w2.alloc (.cells #[.string ⟨#[99, 97, 99, 104, 101]⟩, .string ⟨#[109, 97, 120, 45, 57]⟩, .string ⟨#[118, 97, 114, 121]⟩, .string ⟨#[116, 121, 112, 101]⟩] 31)) a (grownCap (w2.alloc (.cells #[.string ⟨#[99, 97, 99, 104, 101]⟩, .string ⟨#[109, 97, 120, 45, 57]⟩, .string ⟨#[118, 97, 114, 121]⟩, .string ⟨#[116, 121, 112, 101]⟩] 31)) a.size 0 5) 5 fr (hgc _) (hgm _)
      simp only [World.size_alloc] at base
      exact Row.drew (Row.alloc (Row.alloc (Row.alloc (Row.alloc (Row.alloc (Row.alloc (Row.alloc (base _) _) _) _) _) _) _) _)
    case rn => intro g hg; simp only [Value.ownBlock, Option.some.injEq] at hg; omega
  case rest =>
    obtain ⟨b8, b9, b10, b11, F8, F9, F10, F11, B8, c8, c9, c10, c11, d8, rfl, rfl, rfl, rfl, rfl, m3, k8, k9, k10, k11, r8, r9, r10, r11, rb8, rn⟩ := hcut
    have hH3 := hH2.old m3
    have mw := m2.then m3
    have hG3 := hG.old mw
    have i9 := r9.inside
    have i10 := r10.inside
    have hone : ∀ t : Int, 0 ≤ t → t ≤ 1000000 → (decide (0 ≤ t) && decide (t ≤ 1000000)) = true := fun t h0 h1 => by simp; omega
    have hget : tGET.toList = [71, 69, 84] := by decide +kernel
    have hlf : (lifeOf varL == 0) = false := by rw [varL_life]; rfl
    have hbl : a.data.toList.length ≤ 1048576 := by rw [Array.length_toList]; exact ha
    have sx := small_type a ha
    have sy := small_type b hb
    have sz := small_type2 a c ha hc
    have x8 := k8.cell
    have x9 := k9.cell
    have hpb2 := mw.size
    have hpw : w.heap.size ≤ pb := hpb
    clear hcv hgc hgm
    go_upto_region 7 with (go_at_call 7; refine put_yes pb tGET tSlash tH _ _ 1 _ _ (.slice none 0 0) [(tType, a)] varL a.data.toList [] _ _ (hone 1 (by omega) (by omega)) r9 r8 rb8 sx varL_small hbl hG3 hget hlf ⟨_, _, _, rfl⟩ hH3 (.inr (by simp [Value.ownBlock])) ?_; intro w4 sv X hX hH4 m4 hn4)
    have hH4' : Holds' w4 pb sv [X] := hH4
    have hpl2 := hH2.ptr.lt
    have hF4 : ∀ g, (g = pb ∨ (Value.slice none 0 0).ownBlock = some g) → g = pb := fun g hg => by rcases hg with hg | hg; exact hg; simp [Value.ownBlock] at hg
    have q8 := k8.mod m4 (fun e => k8.ne_ hH3.ptr (by decide) (hF4 _ e))
    have q10 := k10.mod m4 (fun e => k10.ne_ hH3.ptr (by decide) (hF4 _ e))
    have q11 := k11.mod m4 (fun e => k11.ne_ hH3.ptr (by decide) (hF4 _ e))
    have r8' := r8.mod m4 (fun g hg e => by have := rn g (.inl hg); have := hF4 g e; omega)
    have r10' := r10.mod m4 (fun g hg e => by have := rn g (.inr (.inr (.inl hg))); have := hF4 g e; omega)
    have r11' := r11.mod m4 (fun g hg e => by have := rn g (.inr (.inr (.inr (.inl hg)))); have := hF4 g e; omega)
    have rb' : Bytes w4 _ _ := rb8.mod m4 (fun g hg e => by have := rn g (.inr (.inr (.inr (.inr hg)))); have := hF4 g e; omega)
    have mw4 : Mod None' w w4 := mw.trans m4 fun b hb hlt => by have := hF4 b hb; omega
    have hG4 := hG.old mw4
    have hsv : ∀ g, sv.ownBlock = some g → wc.heap.size ≤ g := fun g hg => by
      rcases hn4 g hg with h1 | h1
      · simp [Value.ownBlock] at h1
      · exact h1
    obtain ⟨Xf, Xrf, Xrb, Xv, hXe⟩ := hX.form
    have hz3 : lastOf [X] tGET tH tSlash [(tType, a), (tX, c)] 3 = some X := by
      rw [lastOf_one, getB_type hX (vals_type a) (vals_type2 a c) (by omega) (by omega)]
      simp
    have hy3 : lastOf [X] tGET tH tSlash [(tType, b)] 3 = if a = b then some X else none := by
      rw [lastOf_one, getB_type hX (vals_type a) (vals_type b) (by omega) (by omega)]
      simp
    have z11 := q11.cell
    go_upto_region 8 with (go_at_call 9; refine get_spec pb tGET tSlash tH _ _ 3 sv [(tType, a), (tX, c)] [X] _ _ (hone 3 (by omega) (by omega)) r11' sz hG4 ⟨_, _, _, rfl⟩ hH4' ?_; intro w5 v5 m5 htold; rw [hz3, hXe] at htold; obtain ⟨fv, bd, hve, ho1, ho2⟩ := htold; dsimp only at ho1 ho2 hve; subst hve; obtain ⟨G1, e1, rfl, _, _⟩ := ho1.form; obtain ⟨G2, e2, rfl, _, _⟩ := ho2.form)
    have z10 := (q10.old m5).cell
    have hH5 := hH4'.old m5
    have hr5 := r10'.old m5
    have hG5 := hG4.old m5
    have hob := ho2
    have q8' := q8.old m5
    have q10' := q10.old m5
    have r8'' := r8'.old m5
    have rb'' := rb'.old m5
    have mw5 := mw4.then m5
    have l10 := q10'.lt
    have hlen : a.data.toList.length = a.size := by rw [Array.length_toList]; rfl
    have hcvt : ∀ W, Mod None' w5 W → (convert 23 9 (.slice G2 a.size e2)).run Tryd.prog W = .ok (.string a) W := fun W hm => by
      have := run_convert_bytes_row (P := Tryd.prog) W 23 9 5 Tryd.underlying23 Tryd.underlying5 Tryd.underlying9 _ _ a.data.toList (ho2.row.old hm)
      rw [byteArray_back, hlen] at this
      exact this
    by_cases hab : a = b
    · rw [if_pos hab] at hy3
      have hab1 : (a.toList == b.toList) = true := by rw [hab]; simp
      have hfit : ([X].filter fun x => !fitsB x tH tSlash [(tType, b)]) = [] := by
        simp [fits_type hX (vals_type a) (vals_type b), hab]
      clear hab
      go_upto_region 11 with (go_at_call 9; refine get_spec pb tGET tSlash tH _ _ 3 sv [(tType, b)] [X] _ _ (hone 3 (by omega) (by omega)) (hr5.alloc _) sy (hG5.old ((Mod.refl _ _).alloc _)) ⟨_, _, _, rfl⟩ (hH5.old ((Mod.refl _ _).alloc _)) ?_; intro w6 v6 m6 htold; rw [hy3] at htold; rw [hXe] at htold; obtain ⟨fv2, bd2, hve2, ho3, ho4⟩ := htold; dsimp only at ho3 ho4 hve2; subst hve2; obtain ⟨G3, e3, rfl, _, _⟩ := ho3.form; obtain ⟨G4, e4, rfl, _, _⟩ := ho4.form; have m56 : Mod None' w5 w6 := ((Mod.refl _ _).alloc _).then m6; have hb14 := ((Blk.new w5 27 #[.int .i64 200, .slice G1 varL.length e1, .slice G2 a.size e2]).old m6); have c14 := hb14.cell 2; have l14 := hb14.lt; have hcv6 := fun o => hcvt (w6.alloc o) (m56.alloc o); have n80 := (q8'.old m56).cell 0; have n81 := (q8'.old m56).cell 1; have n82 := (q8'.old m56).cell 2; have ln8 := (q8'.old m56).lt; have n10 := (q10'.old m56).cell; have ln10 := (q10'.old m56).lt)
      go_wp2_with (first | (go_at_call 7; refine put_yes pb tGET tSlash tH _ _ 2 _ _ sv [(tType, b)] varL a.data.toList [X] _ _ (hone 2 (by omega) (by omega)) (hr5.old (m56.then (by with_reducible (repeat (first | exact Mod.refl _ _ | assumption | apply Mod.drewN | apply Mod.drew | apply Mod.alloc))))) (r8''.old (m56.then (by with_reducible (repeat (first | exact Mod.refl _ _ | assumption | apply Mod.drewN | apply Mod.drew | apply Mod.alloc))))) (rb''.old (m56.then (by with_reducible (repeat (first | exact Mod.refl _ _ | assumption | apply Mod.drewN | apply Mod.drew | apply Mod.alloc))))) sy varL_small hbl (hG5.old (m56.then (by with_reducible (repeat (first | exact Mod.refl _ _ | assumption | apply Mod.drewN | apply Mod.drew | apply Mod.alloc))))) hget hlf ⟨_, _, _, rfl⟩ (hH5.old (m56.then (by with_reducible (repeat (first | exact Mod.refl _ _ | assumption | apply Mod.drewN | apply Mod.drew | apply Mod.alloc))))) (i10.imp id fun hh g hg e => by have := hh g hg; have := hsv g e; omega) ?_; intro w7 sv7 X2 hX2 hH7 m7 hn7; have hH8 : Holds' w7 pb sv7 [X2] := (by rw [hfit] at hH7; exact hH7); have mw7 := ((mw5.then m56).then (by with_reducible (repeat (first | exact Mod.refl _ _ | assumption | apply Mod.drewN | apply Mod.drew | apply Mod.alloc)))).trans m7 (fun b hb hlt => by rcases hb with hb | hb; omega; have := hsv b hb; omega); have mw7' : Mod None' w w7 := mw7; have hs7 := Mod.start_size ((mw5.then m56).then (by with_reducible (repeat (first | exact Mod.refl _ _ | assumption | apply Mod.drewN | apply Mod.drew | apply Mod.alloc)))) m7; have hn7' : ∀ g, sv7.ownBlock = some g → w.heap.size ≤ g := (fun g hg => by rcases hn7 g hg with h1 | h1; have := hsv g h1; omega; omega)) | (go_at_call 8; refine len_spec pb sv7 [X2] _ _ hH8 ?_) | (go_at_call 11; refine drop_spec pb tSlash sv7 [X2] _ _ hH8 ?_; intro w9 sv9 hH9 m9 hn9; have hfil : ([X2].filter fun x => !(x.p.toList == tSlash.toList)) = [] := (by simp [hX.p, hX2.p]); rw [hfil] at hH9 ⊢; have mw9 : Mod None' w w9 := mw7'.trans m9 (fun b hb hlt => by rcases hb with hb | hb; omega; have := hn7' b hb; omega)) | (go_at_call 8; refine len_spec pb sv9 [] _ _ hH9 ?_))
      all_goals exact mw9
    · rw [if_neg hab] at hy3
      have hab1 : (a.toList == b.toList) = false := by
        rw [beq_text]
        have : a.data.toList ≠ b.data.toList := fun h => hab (by rw [← byteArray_back a, ← byteArray_back b, h])
        simp [this]
      have hfit : ([X].filter fun x => !fitsB x tH tSlash [(tType, b)]) = [X] := by
        simp [fits_type hX (vals_type a) (vals_type b), hab]
      clear hab
      go_upto_region 11 with (go_at_call 9; refine get_spec pb tGET tSlash tH _ _ 3 sv [(tType, b)] [X] _ _ (hone 3 (by omega) (by omega)) (hr5.alloc _) sy (hG5.old ((Mod.refl _ _).alloc _)) ⟨_, _, _, rfl⟩ (hH5.old ((Mod.refl _ _).alloc _)) ?_; intro w6 v6 m6 htold; rw [hy3] at htold; cases htold; have m56 : Mod None' w5 w6 := ((Mod.refl _ _).alloc _).then m6; have hb14 := ((Blk.new w5 27 #[.int .i64 200, .slice G1 varL.length e1, .slice G2 a.size e2]).old m6); have c14 := hb14.cell 2; have l14 := hb14.lt; have hcv6 := fun o => hcvt (w6.alloc o) (m56.alloc o); have n80 := (q8'.old m56).cell 0; have n81 := (q8'.old m56).cell 1; have n82 := (q8'.old m56).cell 2; have ln8 := (q8'.old m56).lt; have n10 := (q10'.old m56).cell; have ln10 := (q10'.old m56).lt)
      go_wp2_with (first | (go_at_call 7; refine put_yes pb tGET tSlash tH _ _ 2 _ _ sv [(tType, b)] varL a.data.toList [X] _ _ (hone 2 (by omega) (by omega)) (hr5.old (m56.then (by with_reducible (repeat (first | exact Mod.refl _ _ | assumption | apply Mod.drewN | apply Mod.drew | apply Mod.alloc))))) (r8''.old (m56.then (by with_reducible (repeat (first | exact Mod.refl _ _ | assumption | apply Mod.drewN | apply Mod.drew | apply Mod.alloc))))) (rb''.old (m56.then (by with_reducible (repeat (first | exact Mod.refl _ _ | assumption | apply Mod.drewN | apply Mod.drew | apply Mod.alloc))))) sy varL_small hbl (hG5.old (m56.then (by with_reducible (repeat (first | exact Mod.refl _ _ | assumption | apply Mod.drewN | apply Mod.drew | apply Mod.alloc))))) hget hlf ⟨_, _, _, rfl⟩ (hH5.old (m56.then (by with_reducible (repeat (first | exact Mod.refl _ _ | assumption | apply Mod.drewN | apply Mod.drew | apply Mod.alloc))))) (i10.imp id fun hh g hg e => by have := hh g hg; have := hsv g e; omega) ?_; intro w7 sv7 X2 hX2 hH7 m7 hn7; have hH8 : Holds' w7 pb sv7 [X, X2] := (by rw [hfit] at hH7; exact hH7); have mw7 := ((mw5.then m56).then (by with_reducible (repeat (first | exact Mod.refl _ _ | assumption | apply Mod.drewN | apply Mod.drew | apply Mod.alloc)))).trans m7 (fun b hb hlt => by rcases hb with hb | hb; omega; have := hsv b hb; omega); have mw7' : Mod None' w w7 := mw7; have hs7 := Mod.start_size ((mw5.then m56).then (by with_reducible (repeat (first | exact Mod.refl _ _ | assumption | apply Mod.drewN | apply Mod.drew | apply Mod.alloc)))) m7; have hn7' : ∀ g, sv7.ownBlock = some g → w.heap.size ≤ g := (fun g hg => by rcases hn7 g hg with h1 | h1; have := hsv g h1; omega; omega)) | (go_at_call 8; refine len_spec pb sv7 [X, X2] _ _ hH8 ?_) | (go_at_call 11; refine drop_spec pb tSlash sv7 [X, X2] _ _ hH8 ?_; intro w9 sv9 hH9 m9 hn9; have hfil : ([X, X2].filter fun x => !(x.p.toList == tSlash.toList)) = [] := (by simp [hX.p, hX2.p]); rw [hfil] at hH9 ⊢; have mw9 : Mod None' w w9 := mw7'.trans m9 (fun b hb hlt => by rcases hb with hb | hb; omega; have := hn7' b hb; omega)) | (go_at_call 8; refine len_spec pb sv9 [] _ _ hH9 ?_))
      all_goals exact mw9
end Go.Proofs.YtekmgamjpjddiaaDoor
