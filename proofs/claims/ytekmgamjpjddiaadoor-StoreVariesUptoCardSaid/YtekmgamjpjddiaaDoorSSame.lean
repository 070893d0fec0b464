/- Two replies that are the same; New, Len, Drop. -/
import Derived.Test.YtekmgamjpjddiaaDoorSGet
namespace Go.Proofs.YtekmgamjpjddiaaDoor
open Go Go.RowKit
set_option maxRecDepth 100000

theorem run_convert_bytes_row {P : Program} (w : World) (src dst e : TypeId) (hs : P.underlying src = some (.slice e)) (he : P.underlying e = some (.int .u8)) (hd : P.underlying dst = some .string) (v : Value) (n : Nat) (l : List UInt8)
    (hv : Row w v n 1 (l.map bv)) : (convert src dst v).run P w = .ok (.string ⟨l.toArray⟩) w := by
  obtain ⟨h0, A, c, rfl, hc, hcm, h4⟩ := hv
  have hn : n = l.length := by simpa using h0.symm
  subst hn
  rcases l with _ | ⟨b, l⟩
  · rw [run_convert_bytes_string w src dst e A _ c hs he hd]
    cases A <;> simp [Conv.bytesToString, loadCells, loadCellsFrom] <;> rfl
  · obtain ⟨g, o, rfl, hcell⟩ := h4 (by simp)
    rw [run_convert_bytes_arg w src e hs he g o _ c ((b :: l).map fun x => (x.toNat : Int)) (by simp) ?_ dst hd]
    · congr 2
      simp only [strOfNums]
      congr 2
      have e : ((fun n : Int => UInt8.ofNat n.toNat) ∘ fun x : UInt8 => (x.toNat : Int)) = id := by funext x; simp
      rw [List.map_map, e, List.map_id]
    · intro i hi
      rw [hcell i _ (List.getElem?_eq_getElem (by simpa using hi))]
      rw [List.getD_eq_getElem?_getD, List.getElem?_map, List.getElem?_eq_getElem hi]
      simp only [List.getElem_map]
      rfl

theorem sameFields_spec (l : Fs) (v1 v2 : Value) (w : World) (R : Ending → World → Prop) (h1 : Row w v1 l.length 2 (fcells l)) (h2 : Row w v2 l.length 2 (fcells l)) (hl : l.length ≤ 2147483648)
    (h : ∀ w', Mod None' w w' → R (.returned (.bool true)) w') :
    Calls Tryd.prog 25 #[v1, v2] w R := by
  obtain ⟨A1, c1, rfl, _, _⟩ := h1.form
  obtain ⟨A2, c2, rfl, _, _⟩ := h2.form
  go_enter Tryd.func25, Tryd.ntmps25
  go_wp2_with (fail)
  go_loopw [5] (fun i wr => ∃ k : Nat, k ≤ l.length ∧ i = .int .i64 k ∧ Mod None' w wr) (fun i _ => l.length - (intOf i).toNat)
  case atStart => exact ⟨0, Nat.zero_le _, rfl, Mod.refl _ _⟩
  case round =>
    obtain ⟨k, hk, rfl, hM⟩ := hrel
    by_cases hlt : k < l.length
    · obtain ⟨_, g1, o1, d1, hs1, _, _, hc1⟩ := h1.field (by omega)
      obtain ⟨_, g2, o2, d2, hs2, _, _, hc2⟩ := h2.field (by omega)
      injection hs1 with e1 _ e2
      injection hs2 with e3 _ e4
      subst e1 e2 e3 e4
      have x1 : wr.cell? ⟨g1, o1 + k * 2, none⟩ = some (.string l[k].1) := (hM.none_cell _ _ (cell_lt (hc1 k hlt).1)).trans (hc1 k hlt).1
      have x2 : wr.cell? ⟨g1, o1 + k * 2 + 1, none⟩ = some (.string l[k].2) := (hM.none_cell _ _ (cell_lt (hc1 k hlt).2)).trans (hc1 k hlt).2
      have y1 : wr.cell? ⟨g2, o2 + k * 2, none⟩ = some (.string l[k].1) := (hM.none_cell _ _ (cell_lt (hc2 k hlt).1)).trans (hc2 k hlt).1
      have y2 : wr.cell? ⟨g2, o2 + k * 2 + 1, none⟩ = some (.string l[k].2) := (hM.none_cell _ _ (cell_lt (hc2 k hlt).2)).trans (hc2 k hlt).2
      have hk0 : (0 : Int) ≤ k := by omega
      have hk1 : (k : Int) < l.length := by omega
      clear hc1 hc2
      go_wp2_with (fail)
      go_quiet (fail)
      go_wp2_with (fail)
      go_roundw
      case rel => exact ⟨k + 1, by omega, by go_num, hM.drewN _⟩
      case measure => simp [intOf]; omega
    · obtain rfl : k = l.length := by omega
      go_wp2_with (fail)
      exact hM

theorem sameReply_spec (code : Int) (l : Fs) (body : List UInt8) (f1 f2 b1 b2 : Value) (w : World) (R : Ending → World → Prop) (h1 : Row w f1 l.length 2 (fcells l)) (h2 : Row w f2 l.length 2 (fcells l)) (hl : l.length ≤ 2147483648)
    (hb1 : Bytes w b1 body) (hb2 : Bytes w b2 body) (h : ∀ w', Mod None' w w' → R (.returned (.bool true)) w') :
    Calls Tryd.prog 10 #[.agg #[.int .i64 code, f1, b1], .agg #[.int .i64 code, f2, b2]] w R := by
  obtain ⟨A1, c1, rfl, _, _⟩ := h1.form
  obtain ⟨A2, c2, rfl, _, _⟩ := h2.form
  obtain ⟨A3, c3, rfl, _, _⟩ := hb1.form
  obtain ⟨A4, c4, rfl, _, _⟩ := hb2.form
  have hx := (Blk.new w 27 #[.int .i64 code, .slice A1 l.length c1, .slice A3 body.length c3]).alloc (.cells #[.int .i64 code, .slice A2 l.length c2, .slice A4 body.length c4] 27)
  have hy : Blk ((w.alloc (.cells #[.int .i64 code, .slice A1 l.length c1, .slice A3 body.length c3] 27)).alloc (.cells #[.int .i64 code, .slice A2 l.length c2, .slice A4 body.length c4] 27)) (w.heap.size + 1) 27 #[.int .i64 code, .slice A2 l.length c2, .slice A4 body.length c4] := Blk.at (by simp)
  have m0 := ((Mod.refl None' w).alloc (.cells #[.int .i64 code, .slice A1 l.length c1, .slice A3 body.length c3] 27)).alloc (.cells #[.int .i64 code, .slice A2 l.length c2, .slice A4 body.length c4] 27)
  go_enter Tryd.func10, Tryd.ntmps10
  go_wp2_with (go_at_call 25; refine sameFields_spec l _ _ _ _ ((h1.alloc _).alloc _) ((h2.alloc _).alloc _) hl ?_; intro w1 m1; have x0 := (hx.old m1).cell 0; have x2 := (hx.old m1).cell 2; have y0 := (hy.old m1).cell 0; have y2 := (hy.old m1).cell 2; have hs1 := run_convert_bytes_row (P := Tryd.prog) w1 23 9 5 Tryd.underlying23 Tryd.underlying5 Tryd.underlying9 _ _ body ((hb1.old m0).old m1); have hs2 := run_convert_bytes_row (P := Tryd.prog) w1 23 9 5 Tryd.underlying23 Tryd.underlying5 Tryd.underlying9 _ _ body ((hb2.old m0).old m1))
  exact m0.then m1

theorem new_spec (w : World) (R : Ending → World → Prop) (h : ∀ w' pb, w.heap.size ≤ pb → Mod None' w w' → Holds' w' pb (.slice none 0 0) [] → R (.returned (.pointer (some ⟨pb, 0, none⟩))) w') :
    Calls Tryd.prog 6 #[] w R := by
  go_enter Tryd.func6, Tryd.ntmps6
  go_wp2_with (fail)
  refine h _ _ (Nat.le_refl _) ((Mod.refl _ _).alloc _) ⟨Blk.new _ _ _, Own.nil_ _ _ _, by simp, by simp⟩

theorem len_spec (pb : Nat) (sv : Value) (xs : List KV) (w : World) (R : Ending → World → Prop) (hH : Holds' w pb sv xs) (h : R (.returned (.int .i64 xs.length)) w) :
    Calls Tryd.prog 8 #[.pointer (some ⟨pb, 0, none⟩)] w R := by
  obtain ⟨A, c, rfl, _, hc⟩ := hH.own.form
  have h0 := hH.ptr.cell 0
  unfold maxLen at hc
  go_enter Tryd.func8, Tryd.ntmps8
  go_wp2_with (fail)
  exact h

theorem drop1_spec (x : KV) (s : ByteArray) (sb : Nat) (w : World) (R : Ending → World → Prop) (hx : KOk w x) (hs : Blk w sb 9 #[.string s])
    (h : ∀ w', Mod None' w w' → R (.returned (.bool (x.p.toList == s.toList))) w') :
    Calls Tryd.prog 26 #[x.agg, .pointer (some ⟨sb, 0, none⟩)] w R := by
  obtain ⟨xm, xp, xo, xfs, xcode, xrfs, xbody, xvary, xat, xf, xrf, xrb, xv⟩ := x
  obtain ⟨A1, d1, hf1, _⟩ := hx.f.form
  obtain ⟨A2, d2, hf2, _⟩ := hx.rf.form
  obtain ⟨A3, d3, hf3, _⟩ := hx.rb.form
  obtain ⟨A4, d4, hf4, _⟩ := hx.v.form
  dsimp only at hf1 hf2 hf3 hf4
  subst hf1 hf2 hf3 hf4
  dsimp only at h
  have c0 := hs.cell 0
  have hlt := hs.lt
  clear hx hs
  go_enter Tryd.func26, Tryd.ntmps26
  go_wp2_with (fail)
  exact (Mod.refl _ w).alloc _

theorem drop_spec (pb : Nat) (s : ByteArray) (sv : Value) (xs : List KV) (w : World) (R : Ending → World → Prop) (hH : Holds' w pb sv xs)
    (hR : ∀ w' sv', Holds' w' pb sv' (xs.filter fun x => !(x.p.toList == s.toList)) → Mod (fun b => b = pb ∨ sv.ownBlock = some b) w w' → (∀ g, sv'.ownBlock = some g → sv.ownBlock = some g ∨ w.heap.size ≤ g) →
      R (.returned (.int .i64 ((xs.length : Int) - (xs.filter fun x => !(x.p.toList == s.toList)).length))) w') :
    Calls Tryd.prog 11 #[.pointer (some ⟨pb, 0, none⟩), .string s] w R := by
  obtain ⟨A, c, rfl, _, hc⟩ := hH.own.form
  have hpn : ∀ g, (Value.slice A xs.length c).ownBlock = some g → g ≠ pb := fun g hg => hH.own.blk_ne hH.ptr (by decide) g hg
  have hpl := hH.ptr.lt
  have hsl := hH.own.lt
  have hf := hH.few
  have hH0 := hH.old ((Mod.refl _ w).alloc (.cells #[.string s] 9))
  have hsb := Blk.new w 9 #[.string s]
  have c0 := hH.ptr.cell 0
  have c1 := hH0.ptr.cell 0
  have hfl : (xs.filter fun x => !(x.p.toList == s.toList)).length ≤ xs.length := List.length_filter_le _ _
  unfold maxLen at hc
  have hcap : ∀ w', Mod (fun b => (Value.slice A xs.length c).ownBlock = some b) (w.alloc (.cells #[.string s] 9)) w' → Blk w' w.heap.size 9 #[.string s] := fun w' hm => hsb.mod hm fun e => by have := hsl _ e; omega
  go_enter Tryd.func11, Tryd.ntmps11
  go_wp2_with (go_at_call 21; refine deleteKept_spec (fun x => x.p.toList == s.toList) _ _ xs _ _ _ hH0.own (by omega) hH0.ok (enters_of Tryd.func26 (by kernel_rfl) rfl) (fun w' x R' hm hx hc => drop1_spec x s w.heap.size w' R' ((hH0.ok x hx).arr hH0.own hm) (hcap w' hm) hc) ?_; intro v' w11 ho11 hm11 hs11; obtain ⟨E, c9, rfl, _, _⟩ := ho11.form; have hp11 := hH0.ptr.mod hm11 (fun e => hpn _ e rfl); have pc11 := hp11.cell 0; have pf11 := hp11.frozen 0; have pl11 := hp11.lt)
  have mm : Mod (fun b => b = pb) w11 (w11.setCell ⟨pb, 0, none⟩ (.slice E (xs.filter fun x => !(x.p.toList == s.toList)).length c9)) := Mod.setCell (F := fun b => b = pb) (Mod.refl _ _) (.inl rfl) _
  refine hR _ (.slice E (xs.filter fun x => !(x.p.toList == s.toList)).length c9) ⟨by simpa using hp11.set_ 0 (.slice E (xs.filter fun x => !(x.p.toList == s.toList)).length c9), ho11.mod mm fun g hg => hpn g (hs11 g hg), fun x hx => ?_, by omega⟩ (((((Mod.refl _ w).alloc (.cells #[.string s] 9)).any (fun b => b = pb ∨ (Value.slice A xs.length c).ownBlock = some b)).trans hm11 fun b h _ => Or.inr h).setCell (p := ⟨pb, 0, none⟩) (.inl (.inl rfl)) _) fun g hg => .inl (hs11 g hg)
  exact ((hH0.ok x (List.mem_filter.1 hx).1).arr hH0.own hm11).mod mm fun g hg => by subst hg; exact ⟨_, _, hp11, by decide, by decide, by decide⟩
end Go.Proofs.YtekmgamjpjddiaaDoor
