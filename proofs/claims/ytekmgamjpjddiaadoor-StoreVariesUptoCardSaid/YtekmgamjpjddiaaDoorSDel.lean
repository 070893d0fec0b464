/- slices.DeleteFunc of kept replies: the row is written anew in its place. -/
import Derived.Test.YtekmgamjpjddiaaDoorSKept
import Derived.Deep.MidRow
import Derived.Deep.DeepCutAuto
namespace Go.Proofs.YtekmgamjpjddiaaDoor
open Go Go.RowKit
set_option maxRecDepth 100000

theorem setCells_heap (g : Nat) (t : TypeId) : ∀ (vs : List Value) (o : Nat) (cur : Array Value) (w : World), w.heap[g]? = some (.cells cur t (0, 0)) → o + vs.length ≤ cur.size →
    ∃ cur' : Array Value, (w.setCells g o vs).heap[g]? = some (.cells cur' t (0, 0)) ∧ cur'.size = cur.size ∧ cur'.toList = cur.toList.take o ++ vs ++ cur.toList.drop (o + vs.length)
  | [], o, cur, w, hg, ho => ⟨cur, hg, rfl, by simp⟩
  | v :: r, o, cur, w, hg, ho => by
    have h1 : Blk (w.setCell ⟨g, o, none⟩ v) g t (cur.setIfInBounds o v) := Blk.set_ (t := t) (cs := cur) hg o v
    obtain ⟨cur', h2, h3, h4⟩ := setCells_heap g t r (o + 1) (cur.setIfInBounds o v) (w.setCell ⟨g, o, none⟩ v) h1 (by simp at ho ⊢; omega)
    refine ⟨cur', h2, by simpa using h3, ?_⟩
    rw [h4]
    apply List.ext_getElem?
    intro k
    simp only [List.length_cons] at ho
    simp only [Array.toList_setIfInBounds, List.getElem?_append, List.length_append, List.length_take, List.length_set, Array.length_toList, List.length_cons, List.getElem?_take, List.getElem?_drop, List.getElem?_set]
    rcases Nat.lt_trichotomy k o with hk | hk | hk
    · simp [show k < o + 1 by omega, show k < min (o + 1) cur.size by omega, show o ≠ k by omega, hk, show k < min o cur.size by omega, show k < min (o + 1) cur.size + r.length by omega, show k < min o cur.size + (r.length + 1) by omega]
    · subst hk
      simp [show k < min (k + 1) cur.size by omega, show ¬ k < min k cur.size by omega, show k < min (k + 1) cur.size + r.length by omega, show min k cur.size = k by omega, show k < cur.size by omega]
    · rw [show min (o + 1) cur.size = o + 1 by omega, show min o cur.size = o by omega]
      by_cases hk2 : k < o + 1 + r.length
      · simp [hk2, show ¬ k < o + 1 by omega, show ¬ k < o by omega, show k < o + (r.length + 1) by omega, show k - o = (k - (o + 1)) + 1 by omega]
      · simp [hk2, show ¬ k < o + (r.length + 1) by omega, show ¬ o = o + 1 + r.length + (k - (o + 1 + r.length)) by omega]
        congr 1
        omega
theorem setCells_mod (g : Nat) : ∀ (vs : List Value) (o : Nat) (w : World), Mod (fun b => b = g) w (w.setCells g o vs)
  | [], _, w => Mod.refl _ w
  | _ :: r, o, w => (Mod.setCell (F := fun b => b = g) (p := ⟨g, o, none⟩) (Mod.refl _ w) (.inl rfl) _).trans (setCells_mod g r (o + 1) _) fun _ h _ => h
section
variable {w : World} {e : TypeId} {k n c g o : Nat} {xs vs : List Value}
theorem Own.there (h : Own w e k (.slice (some ⟨g, o, none⟩) n c) n xs) (i m : Nat) (hm : i + m ≤ n * k) : w.there g (o + i) m := by
  rcases h.2 with ⟨h0, _⟩ | ⟨g', o', cap, cur, he, hh, h1, h2, h3, h4⟩
  · cases h0
  · injection he with e1 e2 e3
    injection e1 with e1
    injection e1 with e4 e5
    subst e3 e4 e5
    have hle : n * k ≤ c * k := Nat.mul_le_mul_right _ h1
    have hb : Blk w g e cur := hh
    intro j hj
    refine ⟨?_, hb.frozen _⟩
    rw [hb.cell, Array.getElem?_eq_getElem (by omega)]
    rfl
theorem Own.setAt (h : Own w e k (.slice (some ⟨g, o, none⟩) n c) n xs) (i : Nat) (hm : i + vs.length ≤ n * k) :
    Own (w.setCells g (o + i) vs) e k (.slice (some ⟨g, o, none⟩) n c) n (xs.take i ++ vs ++ xs.drop (i + vs.length)) := by
  rcases h.2 with ⟨h0, _⟩ | ⟨g', o', cap, cur, he, hh, h1, h2, h3, h4⟩
  · cases h0
  · injection he with e1 e2 e3
    injection e1 with e1
    injection e1 with e4 e5
    subst e3 e4 e5
    have hle : n * k ≤ c * k := Nat.mul_le_mul_right _ h1
    obtain ⟨cur', k1, k2, k3⟩ := setCells_heap g e vs (o + i) cur w hh (by omega)
    have hx := h.1
    refine ⟨by simp only [List.length_append, List.length_take, List.length_drop]; omega, .inr ⟨g, o, c, cur', rfl, k1, h1, h2, by omega, ?_⟩⟩
    rw [k3, ← h4]
    apply List.ext_getElem?
    intro j
    simp only [List.getElem?_append, List.length_append, List.length_take, List.length_drop, Array.length_toList, List.getElem?_take, List.getElem?_drop]
    rw [show min (o + i) cur.size = o + i by omega, show min i (min (n * k) (cur.size - o)) = i by omega]
    by_cases hj : j < n * k
    · rcases Nat.lt_or_ge j i with hji | hji
      · simp [hj, hji, show o + j < o + i by omega, show o + j < o + i + vs.length by omega, show j < i + vs.length by omega]
      · rcases Nat.lt_or_ge j (i + vs.length) with hjv | hjv
        · simp [hj, hjv, show ¬ j < i by omega, show o + j < o + i + vs.length by omega, show o + j - (o + i) = j - i by omega]
        · simp [hj, show ¬ j < i by omega, show ¬ j < i + vs.length by omega, show ¬ o + j < o + i + vs.length by omega, show i + vs.length + (j - (i + vs.length)) < n * k by omega, show o + i + vs.length + (o + j - (o + i + vs.length)) = o + j by omega, show o + (i + vs.length + (j - (i + vs.length))) = o + j by omega]
    · simp [hj, show ¬ j < i by omega, show ¬ j < i + vs.length by omega, show ¬ i + vs.length + (j - (i + vs.length)) < n * k by omega]
end
theorem kcells_set (l : List KV) (i : Nat) (x : KV) (h : i < l.length) : (kcells l).take (i * 10) ++ x.cells ++ (kcells l).drop (i * 10 + 10) = kcells (l.set i x) := by
  have e : l = l.take i ++ l[i] :: l.drop (i + 1) := by simp
  have e2 : l.set i x = l.take i ++ x :: l.drop (i + 1) := by rw [List.set_eq_take_append_cons_drop, if_pos h]
  have hlen : (kcells (l.take i)).length = i * 10 := by rw [kcells_length, List.length_take]; omega
  rw [e2, kcells_append, kcells_cons]
  conv => lhs; rw [e]
  rw [kcells_append, kcells_cons, List.take_left' hlen]
  rw [List.append_assoc]
  congr 2
  rw [← List.append_assoc, List.drop_left' (by simp [hlen, KV.cells_length])]
theorem kcells_take (l : List KV) (i : Nat) (h : i ≤ l.length) : (kcells l).take (i * 10) = kcells (l.take i) := by
  have hlen : (kcells (l.take i)).length = i * 10 := by rw [kcells_length, List.length_take]; omega
  conv => lhs; rw [← List.take_append_drop i l, kcells_append]
  rw [List.take_left' hlen]
theorem zeroCells_one (z : Array Value) (hz : ∀ u ∈ z.toList, u.oneCell' = true) (n : Nat) : ∀ u ∈ (Builtin.zeroCells z n).toList, u.oneCell' = true := by
  intro u hu
  simp only [Builtin.zeroCells, Array.toList_map, List.mem_map, Array.toList_range, List.mem_range] at hu
  obtain ⟨i, hi, rfl⟩ := hu
  have h0 : 0 < z.size := by
    rcases Nat.eq_zero_or_pos z.size with h | h
    · rw [h] at hi; omega
    · exact h
  have hlt : i % z.size < z.size := Nat.mod_lt _ h0
  rw [getElem!_pos z _ hlt]
  exact hz _ (Array.getElem_mem_toList hlt)
theorem run_clear_there {P : Program} (w : World) (t e ty : TypeId) (z : Value) (ht : P.underlying t = some (.slice e)) (hv : ∀ w, (zeroValue e).run P w = .ok z w) (hz : ∀ u ∈ z.cells.toList, u.oneCell' = true) (b o n c : Nat) (hn : 0 < n)
    (hc : w.there b o (n * z.cells.size)) :
    (Builtin.clear_ #[t] ty #[.slice (some ⟨b, o, none⟩) n c]).run P w = .ok (.tuple #[]) (w.setCells b o (Builtin.zeroCells z.cells n).toList) := by
  have hl : (Builtin.zeroCells z.cells n).toList.length = n * z.cells.size := by simp [Builtin.zeroCells]
  have hst := run_storeCells_cells (P := P) b o (Builtin.zeroCells z.cells n).toList 0 w (by intro j hj; rw [hl] at hj; simpa using (hc j hj).1) (by intro j hj; rw [hl] at hj; simpa using (hc j hj).2) (zeroCells_one _ hz n)
  simp only [Nat.add_zero] at hst
  obtain ⟨m, rfl⟩ : ∃ m, n = m + 1 := ⟨n - 1, by omega⟩
  simp [Builtin.clear_, run_underlying ht, hv, hst]
theorem info_kept : (Tryd.prog.info? 58).map (fun i => (i.zero, i.size, i.bytes)) = some (some (.agg #[.string ByteArray.empty, .string ByteArray.empty, .string ByteArray.empty, .slice none 0 0, .slice none 0 0, .int .i64 0, .slice none 0 0, .slice none 0 0, .slice none 0 0, .int .i64 0]), 10, 184) := by kernel_rfl

def keptZero : Value := .agg #[.string ByteArray.empty, .string ByteArray.empty, .string ByteArray.empty, .slice none 0 0, .slice none 0 0, .int .i64 0, .slice none 0 0, .slice none 0 0, .slice none 0 0, .int .i64 0]
theorem keptZero_size : keptZero.cells.size = 10 := rfl
theorem keptZero_run (w : World) : (zeroValue 58).run Tryd.prog w = .ok keptZero w := Tryd.zeroValue58 w
theorem zeroCells_len (n : Nat) : (Builtin.zeroCells keptZero.cells n).toList.length = n * 10 := by simp [Builtin.zeroCells, keptZero_size]
theorem filter_take_succ (p : KV → Bool) (xs : List KV) (k : Nat) (h : k < xs.length) : (xs.take (k + 1)).filter p = (xs.take k).filter p ++ if p xs[k] then [xs[k]] else [] := by
  rw [List.take_add_one, List.getElem?_eq_getElem h, Option.toList_some, List.filter_append]
  congr 1
  cases hp : p xs[k] <;> simp [hp]

/-- the list while slices.DeleteFunc goes on: i that stay, j seen -/
structure Mid (p : KV → Bool) (xs L : List KV) (i j : Nat) : Prop where
  len : L.length = xs.length
  ij : i < j
  jn : j ≤ xs.length
  got : L.take i = (xs.take j).filter fun x => !p x
  rest : L.drop j = xs.drop j
theorem Mid.gone {p : KV → Bool} {xs L : List KV} {i j : Nat} (h : Mid p xs L i j) (hj : j < xs.length) (hp : p xs[j] = true) : Mid p xs L i (j + 1) :=
  ⟨h.len, by have := h.ij; omega, hj, by rw [filter_take_succ _ _ _ hj, ← h.got]; simp [hp], by
    have := h.rest
    rw [← List.drop_drop, ← List.drop_drop, this]⟩
theorem Mid.stay {p : KV → Bool} {xs L : List KV} {i j : Nat} (h : Mid p xs L i j) (hj : j < xs.length) (hp : p xs[j] = false) : Mid p xs (L.set i xs[j]) (i + 1) (j + 1) := by
  have hij := h.ij
  have hl := h.len
  refine ⟨by simp [hl], by omega, hj, ?_, ?_⟩
  · rw [filter_take_succ _ _ _ hj, ← h.got, if_pos (by simp [hp])]
    rw [List.take_add_one, List.getElem?_set_self (by omega), Option.toList_some]
    congr 1
    exact List.take_set_of_le (by omega)
  · rw [List.drop_set_of_lt (by omega)]
    have := h.rest
    rw [← List.drop_drop, ← List.drop_drop, this]
theorem Mid.at_ {p : KV → Bool} {xs L : List KV} {i j : Nat} (h : Mid p xs L i j) (hj : j < xs.length) : L[j]'(by rw [h.len]; exact hj) = xs[j] := by
  have h1 : (L.drop j)[0]? = (xs.drop j)[0]? := by rw [h.rest]
  rw [List.getElem?_drop, List.getElem?_drop, Nat.add_zero, List.getElem?_eq_getElem (by rw [h.len]; exact hj), List.getElem?_eq_getElem hj] at h1
  injection h1
theorem Mid.start {p : KV → Bool} {xs : List KV} {k : Nat} (hk : k < xs.length) (hp : p xs[k] = true) (hn : ∀ j (hj : j < xs.length), j < k → p xs[j] = false) : Mid p xs xs k (k + 1) := by
  refine ⟨rfl, by omega, hk, ?_, rfl⟩
  rw [filter_take_succ _ _ _ hk]
  simp only [hp, Bool.not_true, Bool.false_eq_true, if_false, List.append_nil]
  rw [List.filter_eq_self.2]
  intro x hx
  obtain ⟨j, hj, rfl⟩ := List.getElem_of_mem hx
  rw [List.length_take] at hj
  simp [List.getElem_take, hn j (by omega) (by omega)]

set_option maxHeartbeats 800000 in
theorem deleteKept_spec (p : KV → Bool) (F : Nat) (cap : Value) (xs : List KV) (v : Value) (w : World) (R : Ending → World → Prop) (hv : Own w 58 10 v xs.length (kcells xs)) (hl : xs.length ≤ 2147483648) (hok : ∀ x ∈ xs, KOk w x)
    (hE : Enters Tryd.prog F) (hp : ∀ w' x R', Mod (fun b => v.ownBlock = some b) w w' → x ∈ xs → (∀ w'', Mod None' w' w'' → R' (.returned (.bool (p x))) w'') → Calls Tryd.prog F #[x.agg, cap] w' R')
    (h : ∀ v' w', Own w' 58 10 v' (xs.filter fun x => !p x).length (kcells (xs.filter fun x => !p x)) → Mod (fun b => v.ownBlock = some b) w w' → (∀ g, v'.ownBlock = some g → v.ownBlock = some g) → R (.returned v') w') :
    Calls Tryd.prog 21 #[v, .func (.func F) #[] #[cap]] w R := by
  obtain ⟨A, c, rfl, hc, hcm⟩ := hv.form
  have hcm' := hcm
  unfold maxLen at hcm
  go_enter Tryd.func21, Tryd.ntmps21
  go_wp2_with (fail)
  refine indexKept_spec p F cap xs _ _ _ hv.row hl hE (fun w' x R' hm => hp w' x R' (hm.any _)) ?_
  intro w1 i m1 hi
  rcases hi with ⟨rfl, hn⟩ | ⟨k, hk, rfl, hpk, hn⟩
  · have hf : (xs.filter fun x => !p x) = xs := List.filter_eq_self.2 fun x hx => by simp [hn x hx]
    rw [hf] at h
    clear hp hn hE
    go_wp2_with (fail)
    exact h _ _ (hv.old m1) (m1.any _) fun _ h => h
  · have hv1 := hv.old m1
    obtain ⟨g, o, hA⟩ : ∃ g o, A = some ⟨g, o, none⟩ := by
      rcases hv1.2 with ⟨h0, _⟩ | ⟨g, o, _, _, he, _⟩
      · injection h0 with _ h0
        omega
      · injection he with hA
        exact ⟨g, o, hA⟩
    subst hA
    have hmid := Mid.start hk hpk hn
    have hp' : ∀ w' x R', Mod (fun b => b = g) w w' → x ∈ xs → (∀ w'', Mod None' w' w'' → R' (.returned (.bool (p x))) w'') → Calls Tryd.prog F #[x.agg, cap] w' R' := fun w' x R' hm => hp w' x R' (hm.weaken fun b hb _ => by subst hb; rfl)
    clear hp
    have hke : ((k : Int) == -1) = false := by simp
    clear hn hpk
    go_wp2_with (fail)
    go_loopw [5, 6] (fun i j wr => ∃ (i' j' : Nat) (L : List KV), i = .int .i64 i' ∧ j = .int .i64 j' ∧ Mid p xs L i' j' ∧ Own wr 58 10 (.slice (some ⟨g, o, none⟩) xs.length c) xs.length (kcells L) ∧ Mod (fun b => b = g) w wr) (fun _ j _ => xs.length - (intOf j).toNat)
    case atStart => exact ⟨k, k + 1, xs, rfl, rfl, hmid, hv1, m1.any _⟩
    case round =>
      obtain ⟨i, j, L, rfl, rfl, hM, hO, hm⟩ := hrel
      have hij := hM.ij
      have hlen := hM.len
      have hjn := hM.jn
      by_cases hlt : j < xs.length
      · have hat := hM.at_ hlt
        have hcc : wr.rangeAt g (o + j * 10) (xs[j].cells) := by
          obtain ⟨_, g', o', c', hs, _, _, hcell⟩ := hO.row.kept (by omega)
          injection hs with hA
          injection hA with hA
          injection hA with e1 e2
          subst e1 e2
          intro q u hu
          have hq : q < 10 := (List.getElem?_eq_some_iff.1 hu).1
          have := hcell j (by omega) q hq
          rw [hat] at this
          exact this.trans hu
        have hmem : xs[j] ∈ xs := List.getElem_mem hlt
        have hkx := hok _ hmem
        generalize hxj : xs[j] = x at hcc hmem hkx
        have hkm := hkx.mod hm (fun b hb => by
          subst hb
          rcases hv.2 with ⟨h0, _⟩ | ⟨g', o', _, cur, he, hh, _⟩
          · cases h0
          · injection he with e1 _ _
            injection e1 with e1
            injection e1 with e1 _
            subst e1
            exact ⟨_, _, hh, by decide, by decide, by decide⟩)
        have hgl : g < wr.heap.size := hO.lt g rfl
        clear hat hv hv1
        obtain ⟨xm, xp, xo, xfs, xcode, xrfs, xbody, xvary, xat, xf, xrf, xrb, xv⟩ := x
        obtain ⟨A1, d1, hf1, _⟩ := hkm.f.form
        obtain ⟨A2, d2, hf2, _⟩ := hkm.rf.form
        obtain ⟨A3, d3, hf3, _⟩ := hkm.rb.form
        obtain ⟨A4, d4, hf4, _⟩ := hkm.v.form
        dsimp only at hf1 hf2 hf3 hf4
        subst hf1 hf2 hf3 hf4
        simp only [KV.cells] at hcc
        have c0 := hcc 0 _ rfl
        have c1 := hcc 1 _ rfl
        have c2 := hcc 2 _ rfl
        have c3 := hcc 3 _ rfl
        have c4 := hcc 4 _ rfl
        have c5 := hcc 5 _ rfl
        have c6 := hcc 6 _ rfl
        have c7 := hcc 7 _ rfl
        have c8 := hcc 8 _ rfl
        have c9 := hcc 9 _ rfl
        rw [Nat.add_zero] at c0
        clear hcc hkx hkm
        have hE' : ∀ args w, (callFunc F args).run Tryd.prog w = .ok (.enter F args) w := hE
        by_cases hpx : p xs[j] = true
        · have hM2 := hM.gone hlt hpx
          rw [hxj] at hpx
          clear hM hxj h
          go_wp2_with (refine hp' _ _ _ (Mod.alloc hm _) hmem ?_; intro w2 m2)
          go_roundw
          case rel => exact ⟨i, j + 1, L, rfl, by go_num, hM2, (hO.old ((Mod.refl _ _).alloc _)).old m2, (hm.alloc _).trans m2 fun _ f _ => f.elim⟩
          case measure => simp [intOf]; omega
        · have hpf : p xs[j] = false := by simpa using hpx
          have hM2 := hM.stay hlt hpf
          rw [hxj] at hpf
          have hii : i < L.length := by omega
          have hset := kcells_set L i xs[j] hii
          rw [hxj] at hset hM2
          have hsz : (Tryd.prog.info? 58).map (·.size) = some 10 := by kernel_rfl
          clear hM hxj h hpx
          have hone : (#[.string xm, .string xp, .string xo, .slice A1 (List.length xfs) d1, .slice none 0 0, .int .i64 xcode, .slice A2 (List.length xrfs) d2, .slice A3 xbody.length d3, .slice A4 xvary.length d4, .int .i64 xat] : Array Value).all (·.oneCell') = true := by simp [Value.oneCell']
          go_upto_region 9 with (refine hp' _ _ _ (Mod.alloc hm _) hmem ?_; intro w2 m2; have hb2 := (Blk.new wr 58 #[.string xm, .string xp, .string xo, .slice A1 (List.length xfs) d1, .slice none 0 0, .int .i64 xcode, .slice A2 (List.length xrfs) d2, .slice A3 xbody.length d3, .slice A4 xvary.length d4, .int .i64 xat]).old m2; have hcb2 := hb2.cell; have hO2 := (hO.old ((Mod.refl _ _).alloc _)).old m2; have hth2 := hO2.there (i * 10) 10 (by omega))
          go_wp2_with (refine wpList_store_mid rfl 58 (.tmp 33) (.tmp 32) rfl g (o + i * 10) #[.string xm, .string xp, .string xo, .slice A1 (List.length xfs) d1, .slice none 0 0, .int .i64 xcode, .slice A2 (List.length xrfs) d2, .slice A3 xbody.length d3, .slice A4 xvary.length d4, .int .i64 xat] ?h1 ?h2 ?h3 ?h4 ?h5 ?_)
          case h1 => rfl
          case h2 => rfl
          case h3 => exact hth2
          case h4 => exact hsz
          case h5 => exact hone
          go_roundw
          case rel => exact ⟨i + 1, j + 1, _, by go_num, by go_num, hM2, by rw [← hset]; exact hO2.setAt (i * 10) (by simp; omega), ((hm.alloc _).trans m2 fun _ f _ => f.elim).trans (setCells_mod g _ _ _) fun _ h _ => h⟩
          case measure => simp [intOf]; omega
      · obtain rfl : j = xs.length := by omega
        have hi : i < xs.length := hij
        have hth := hO.there (i * 10) ((xs.length - i) * 10) (by omega)
        obtain ⟨i0, hi0, hz0, hz1, hz2⟩ := info_parts info_kept
        have hcl : ∀ ty, (Builtin.clear_ #[51] ty #[.slice (some ⟨g, o + i * 10, none⟩) (xs.length - i) (c - i)]).run Tryd.prog wr = .ok (.tuple #[]) (wr.setCells g (o + i * 10) (Builtin.zeroCells keptZero.cells (xs.length - i)).toList) := fun ty =>
          run_clear_there (P := Tryd.prog) wr 51 58 ty keptZero Tryd.underlying51 keptZero_run (by simp [keptZero, Value.cells, Value.oneCell']) g (o + i * 10) (xs.length - i) (c - i) (by omega) hth
        have hO2 := (hO.setAt (vs := (Builtin.zeroCells keptZero.cells (xs.length - i)).toList) (i * 10) (by rw [zeroCells_len]; omega))
        have hgot := hM.got
        rw [List.take_length] at hgot
        have hfl : (xs.filter fun x => !p x).length = i := by rw [← hgot, List.length_take]; omega
        obtain ⟨_, _, c', he, hO3⟩ := hO2.upto i (by omega) (by omega)
        injection he with e1 _ e2
        injection e1 with e1
        injection e1 with e1 e3
        subst e1 e2 e3
        rw [List.append_assoc, List.take_append_of_le_length (by rw [List.length_take, kcells_length]; omega), List.take_take, Nat.min_self, kcells_take _ _ (by omega), hgot] at hO3
        have hm2 := hm.trans (setCells_mod g (Builtin.zeroCells keptZero.cells (xs.length - i)).toList (o + i * 10) wr) (fun _ h _ => h)
        clear hO hO2 hth hp' hgot
        have hci : ((c : Int) == i) = false := by simp; omega
        generalize (Builtin.zeroCells keptZero.cells (xs.length - i)).toList = zs at hcl hO3 hm2
        go_wp2_with (fail)
        refine h _ _ ?_ (hm2.weaken fun b hb _ => by subst hb; rfl) fun _ h => h
        rw [hfl]
        exact hO3
end Go.Proofs.YtekmgamjpjddiaaDoor
