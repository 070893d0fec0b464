/- A row that is owned and may begin inside its block ('s = s[1:]'): append onto it; plain lemmas, no program in sight. -/
import Derived.Test.YtekmgamjpjddiaaDoorBase
namespace Go.Proofs.YtekmgamjpjddiaaDoor
open Go Go.RowKit

/-- The slice value v owns n elements of k cells: they are xs; behind them lies room up to its capacity, at the block's end. -/
def Own (w : World) (e : TypeId) (k : Nat) (v : Value) (n : Nat) (xs : List Value) : Prop :=
  xs.length = n * k ∧
  ((v = .slice none 0 0 ∧ n = 0) ∨
   ∃ g o cap cur, v = .slice (some ⟨g, o, none⟩) n cap ∧ w.heap[g]? = some (.cells cur e (0, 0)) ∧ n ≤ cap ∧ cap ≤ maxLen ∧ cur.size = o + cap * k ∧ (cur.toList.drop o).take (n * k) = xs)
section
variable {F : Nat → Prop} {w w' : World} {v : Value} {e : TypeId} {n k : Nat} {xs : List Value}
theorem Own.nil_ (w : World) (e : TypeId) (k : Nat) : Own w e k (.slice none 0 0) 0 [] := ⟨by simp, .inl ⟨rfl, rfl⟩⟩
theorem Own.lt (h : Own w e k v n xs) : ∀ g, v.ownBlock = some g → g < w.heap.size := by
  intro g hg
  rcases h.2 with ⟨rfl, _⟩ | ⟨g', o, cap, cur, rfl, hh, _⟩
  · simp [Value.ownBlock] at hg
  · simp [Value.ownBlock] at hg
    subst hg
    exact (Array.getElem?_eq_some_iff.1 hh).1
theorem Own.mod (h : Own w e k v n xs) (hm : Mod F w w') (hF : ∀ g, v.ownBlock = some g → ¬ F g) : Own w' e k v n xs := by
  refine ⟨h.1, ?_⟩
  rcases h.2 with hn | ⟨g, o, cap, cur, rfl, hh, rest⟩
  · exact .inl hn
  · exact .inr ⟨g, o, cap, cur, rfl, (hm.block g (Array.getElem?_eq_some_iff.1 hh).1 (hF g rfl)).trans hh, rest⟩
theorem Own.old (h : Own w e k v n xs) (hm : Mod None' w w') : Own w' e k v n xs := h.mod hm fun _ _ f => f
theorem Own.of_own (h : w.ownsRow 0 e k v n xs) : Own w e k v n xs := by
  refine ⟨h.1, ?_⟩
  rcases h.2 with hn | ⟨g, cap, cur, rfl, _, hh, h1, h2, h3, h4⟩
  · exact .inl hn
  · exact .inr ⟨g, 0, cap, cur, rfl, hh, h1, h2, by simpa using h3, by simpa using h4⟩
theorem Own.row (h : Own w e k v n xs) : Row w v n k xs := by
  refine ⟨h.1, ?_⟩
  rcases h.2 with ⟨rfl, rfl⟩ | ⟨g, o, cap, cur, rfl, hh, h1, h2, h3, h4⟩
  · exact ⟨_, _, rfl, Nat.le_refl _, by simp [maxLen], fun h => absurd h (by omega)⟩
  · refine ⟨_, _, rfl, h1, h2, fun _ => ⟨g, o, rfl, fun j u hu => ?_⟩⟩
    rw [cell_of_row w g _ cur e (0, 0) hh]
    rw [← h4, List.getElem?_take] at hu
    split at hu
    · rw [List.getElem?_drop] at hu
      simpa using hu
    · cases hu
theorem Own.form (h : Own w e k v n xs) : ∃ A c, v = .slice A n c ∧ n ≤ c ∧ c ≤ maxLen := h.row.form
theorem Own.cut (h : Own w e k v n xs) (i : Nat) (hi : i ≤ n) (hn : 0 < n) :
    ∃ g o c, v = .slice (some ⟨g, o, none⟩) n c ∧ Own w e k (.slice (some ⟨g, o + i * k, none⟩) (n - i) (c - i)) (n - i) (xs.drop (i * k)) := by
  rcases h.2 with ⟨_, rfl⟩ | ⟨g, o, cap, cur, rfl, hh, h1, h2, h3, h4⟩
  · omega
  · have hmul : (n - i) * k = n * k - i * k := Nat.sub_mul ..
    have hcm : (cap - i) * k = cap * k - i * k := Nat.sub_mul ..
    have hle : i * k ≤ cap * k := Nat.mul_le_mul_right _ (by omega)
    refine ⟨g, o, cap, rfl, ⟨?_, .inr ⟨g, o + i * k, cap - i, cur, rfl, hh, by omega, by omega, ?_, ?_⟩⟩⟩
    · rw [List.length_drop, h.1, hmul]
    · rw [hcm]; omega
    · rw [← h4, List.drop_take, List.drop_drop, hmul]
theorem Own.upto (h : Own w e k v n xs) (i : Nat) (hi : i ≤ n) (hn : 0 < n) :
    ∃ g o c, v = .slice (some ⟨g, o, none⟩) n c ∧ Own w e k (.slice (some ⟨g, o, none⟩) i c) i (xs.take (i * k)) := by
  rcases h.2 with ⟨_, rfl⟩ | ⟨g, o, cap, cur, rfl, hh, h1, h2, h3, h4⟩
  · omega
  · have hle : i * k ≤ n * k := Nat.mul_le_mul_right _ hi
    refine ⟨g, o, cap, rfl, ⟨?_, .inr ⟨g, o, cap, cur, rfl, hh, by omega, h2, h3, ?_⟩⟩⟩
    · rw [List.length_take, h.1]; omega
    · rw [← h4, List.take_take, Nat.min_eq_left hle]
end

theorem run_append_room_at {P : Program} (w : World) (t ty e : TypeId) (i : TypeInfo) (ht : P.underlying t = some (.slice e)) (hi : P.info? e = some i)
    (g o sLen sCap : Nat) (cur : Array Value) (hg : w.heap[g]? = some (.cells cur e (0, 0)))
    (a : Addr) (m c : Nat) (news : List Value) (hl : news.length = m * i.size) (hnews : ∀ j u, news[j]? = some u → w.cell? (a.add j) = some u) (h1 : ∀ u ∈ news, u.oneCell' = true)
    (hroom : sLen + m ≤ sCap) (hfit : o + sLen * i.size + news.length ≤ cur.size) :
    (Builtin.append_ #[t, t] ty #[.slice (some ⟨g, o, none⟩) sLen sCap, .slice (some a) m c]).run P w =
      .ok (.slice (some ⟨g, o, none⟩) (sLen + m) sCap) (w.setRow g (cur.toList.take (o + sLen * i.size) ++ news ++ cur.toList.drop (o + sLen * i.size + news.length)).toArray) := by
  have hf := run_firstCells_some (P := P) w i.size m a m c news hl hnews
  have hst := run_storeCells_at P g (o + sLen * i.size) e news 0 cur w hg (by simpa using hfit) h1
  simp only [Nat.add_zero] at hst
  simp [Builtin.append_, run_underlying ht, sizeOf, typeInfo, hi, Builtin.lenOf, hroom, hf, Addr.add_lit, hst]

/-- append onto an owned row that may begin inside its block. -/
theorem run_append_Own {P : Program} (w : World) (t ty e : TypeId) (i : TypeInfo) (z : Value) (size bytes : Nat) (ht : P.underlying t = some (.slice e)) (hi : P.info? e = some i) (hz : i.zero = some z)
    (hsize : i.size = size) (hby : i.bytes = bytes) (hzs : z.cells.size = size) (hsz : 0 < size)
    (v : Value) (n : Nat) (xs : List Value) (hown : Own w e size v n xs)
    (x : Value) (m : Nat) (news : List Value) (hr : Row w x m size news) (h1 : ∀ u ∈ news, u.oneCell' = true)
    (h63 : n + m ≤ maxLen) (hbytes : (n + m) * bytes ≤ 140737488355328) :
    ∃ v' w', (Builtin.append_ #[t, t] ty #[v, x]).run P w = .ok v' w' ∧ Own w' e size v' (n + m) (xs ++ news) ∧ w.grownBy w' v.ownBlock ∧
      (v'.ownBlock = v.ownBlock ∨ v'.ownBlock = some w.heap.size) := by
  rcases hown.2 with ⟨rfl, rfl⟩ | ⟨g, o, cap, cur, rfl, hg, hnc, hcm, hcs, htake⟩
  · have hx : xs = [] := List.eq_nil_of_length_eq_zero (by simpa using hown.1)
    subst hx
    obtain ⟨v', w', hrun, h2, h3, h4⟩ := run_append_row (P := P) w t ty e i z size bytes ht hi hz hsize hby hzs hsz _ 0 [] (World.ownsRow_nil w 0 e size) x m news hr h1 h63 hbytes
    exact ⟨v', w', hrun, .of_own h2, h3, h4⟩
  subst hsize
  subst hby
  have hlen : (xs ++ news).length = (n + m) * i.size := by rw [List.length_append, hown.1, hr.1, Nat.add_mul]
  obtain ⟨hl, A, c, rfl, hc, hcm', h4⟩ := hr
  rcases A with _ | ad
  · have hm : m = 0 := by
      rcases Nat.eq_zero_or_pos m with h0 | h0
      · exact h0
      · obtain ⟨_, _, h, _⟩ := h4 h0
        cases h
    subst hm
    have hn : news = [] := List.eq_nil_of_length_eq_zero (by simpa using hl)
    subst hn
    refine ⟨.slice (some ⟨g, o, none⟩) n cap, w, ?_, by simpa using hown, World.grownBy.refl w _, .inl rfl⟩
    simp [Builtin.append_, run_underlying ht, sizeOf, typeInfo, hi, Builtin.lenOf, Builtin.firstCells, hnc, storeCells]
  · have hnews : ∀ j u, news[j]? = some u → w.cell? (ad.add j) = some u := by
      intro j u hu
      rcases Nat.eq_zero_or_pos m with h0' | h0'
      · subst h0'
        have hn : news = [] := List.eq_nil_of_length_eq_zero (by simpa using hl)
        subst hn
        simp at hu
      · obtain ⟨g, o, h, hcc⟩ := h4 h0'
        injection h with h
        subst h
        rw [add_mk]
        exact hcc j u hu
    by_cases hroom : n + m ≤ cap
    · have hmul : (n + m) * i.size = n * i.size + m * i.size := Nat.add_mul ..
      have hle : (n + m) * i.size ≤ cap * i.size := Nat.mul_le_mul_right _ hroom
      have hfit : o + n * i.size + news.length ≤ cur.size := by rw [hl, hcs]; omega
      have hr := run_append_room_at (P := P) w t ty e i ht hi g o n cap cur hg ad m c news hl hnews h1 hroom hfit
      refine ⟨_, _, hr, ⟨hlen, .inr ⟨g, o, cap, _, rfl, setRow_heap w g cur _ e _ hg, hroom, hcm, ?_, ?_⟩⟩, ⟨rfl, rfl, rfl, by simp, fun k _ hk => setRow_other w g k _ (fun e => hk (by simp [Value.ownBlock, e]))⟩, Or.inl rfl⟩
      · simp only [List.size_toArray, List.length_append, List.length_take, List.length_drop, Array.length_toList]
        omega
      · have hcut : cur.toList.take (o + n * i.size) = cur.toList.take o ++ xs := by rw [List.take_add, htake]
        rw [hcut, List.append_assoc, List.append_assoc, List.drop_left' (by simp; omega), ← List.append_assoc, ← hlen]
        exact List.take_left
    · have holds : ∀ j u, xs[j]? = some u → w.cell? ((⟨g, o, none⟩ : Addr).add j) = some u := by
        intro j u hu
        rw [add_mk, cell_of_row w g _ cur e (0, 0) hg]
        rw [← htake, List.getElem?_take] at hu
        split at hu
        · rw [List.getElem?_drop] at hu
          simpa using hu
        · cases hu
      have hr := run_append_grow (P := P) w t ty e i z ht hi hz ⟨g, o, none⟩ n cap xs hown.1 holds ad m c news hl hnews (by omega) (by simp only [maxLen] at h63; omega) (growslice_fits (by omega) hbytes)
      have hge := grownCap_ge w (n + m) cap e
      have hcm : grownCap w (n + m) cap e ≤ maxLen := grownCap_le_maxLen w (n + m) cap e h63
      refine ⟨_, _, hr, ⟨hlen, .inr ⟨w.heap.size, 0, _, _, rfl, heap_alloc_new w.drew _, hge, hcm, ?_, ?_⟩⟩, ⟨rfl, rfl, rfl, by simp, fun k hk _ => Below.heap_alloc w.drew _ k hk⟩, Or.inr rfl⟩
      · simp only [Array.size_append, List.size_toArray, size_zeroCells, hzs, hown.1, hl, ← Nat.add_mul]
        rw [Nat.zero_add]
        congr 1
        omega
      · simp only [Array.toList_append, List.append_assoc, List.drop_zero]
        rw [← List.append_assoc, ← hlen]
        exact List.take_left

theorem wp_append_Own {P : Program} {w : World} {o : Oper} {a : Act} {K : Act → World → Prop} {Q : Exit → Act → World → Prop} (s x : Operand) (t : TypeId)
    (ho : o.op = .call { callee := .builtin .append, args := #[s, x], argTypes := #[t, t] })
    (e : TypeId) (i : TypeInfo) (z : Value) (size bytes : Nat) (ht : P.underlying t = some (.slice e)) (hi : P.info? e = some i) (hz : i.zero = some z)
    (hsize : i.size = size) (hby : i.bytes = bytes) (hzs : z.cells.size = size) (hsz : 0 < size)
    (v : Value) (n : Nat) (xs : List Value) (hs : a.eval s = v) (hown : Own w e size v n xs)
    (y : Value) (m : Nat) (news : List Value) (hx : a.eval x = y) (hr : Row w y m size news) (h1 : ∀ u ∈ news, u.oneCell' = true)
    (h63 : n + m ≤ maxLen) (hbytes : (n + m) * bytes ≤ 140737488355328)
    (h : ∀ v' w', Own w' e size v' (n + m) (xs ++ news) → w.grownBy w' v.ownBlock → (v'.ownBlock = v.ownBlock ∨ v'.ownBlock = some w.heap.size) → K (a.put o.dst v') w') : o.wp P a w K Q := by
  obtain ⟨v', w', hrun, h2, h3, h4⟩ := run_append_Own (P := P) w t o.type e i z size bytes ht hi hz hsize hby hzs hsz v n xs hown y m news hr h1 h63 hbytes
  unfold Oper.wp execOp
  simp only [ho, resolve, invoke, builtin, Sem.run_bind, Sem.run_pure, Result.andThen_ok, List.map_toArray, List.map_cons, List.map_nil, hs, hx, hrun]
  exact h v' w' h2 h3 h4
/-- append at the operation, as the walks use it: plain region. -/
theorem wpList_Own {P : Program} {w : World} {ops : Array Oper} {rest : List Oper} {o : Oper} {a : Act} {Q : Exit → Act → World → Prop} (hgd : o.guard = none) (s x : Operand) (t : TypeId)
    (ho : o.op = .call { callee := .builtin .append, args := #[s, x], argTypes := #[t, t] })
    (e : TypeId) (i : TypeInfo) (z : Value) (size bytes : Nat) (ht : P.underlying t = some (.slice e)) (hi : P.info? e = some i) (hz : i.zero = some z)
    (hsize : i.size = size) (hby : i.bytes = bytes) (hzs : z.cells.size = size) (hsz : 0 < size)
    (v : Value) (n : Nat) (xs : List Value) (hs : a.eval s = v) (hown : Own w e size v n xs)
    (y : Value) (m : Nat) (news : List Value) (hx : a.eval x = y) (hr : Row w y m size news) (h1 : ∀ u ∈ news, u.oneCell' = true)
    (N : Nat) (ys : List Value) (hN : n + m = N) (hys : xs ++ news = ys) (h63 : N ≤ maxLen) (hbytes : N * bytes ≤ 140737488355328)
    (h : ∀ A c w', Own w' e size (.slice A N c) N ys → Mod (fun g => v.ownBlock = some g) w w' →
      (∀ g, (Value.slice A N c).ownBlock = some g → v.ownBlock = some g ∨ w.heap.size ≤ g) → wpList P ops Q rest (a.put o.dst (.slice A N c)) w') : wpList P ops Q (o :: rest) a w := by
  subst hN hys
  refine wpList_plain hgd fun _ hK => ?_
  refine wp_append_Own s x t ho e i z size bytes ht hi hz hsize hby hzs hsz v n xs hs hown y m news hx hr h1 h63 hbytes fun v' w' h2 h3 h4 => hK _ _ ?_
  obtain ⟨A, c, rfl, _⟩ := h2.form
  refine h A c w' h2 ((Mod.refl _ w).grown h3 fun k hk => .inl hk) fun g hg => ?_
  rcases h4 with h4 | h4
  · exact .inl (h4 ▸ hg)
  · rw [h4] at hg
    injection hg with hg
    omega

/-- append at the operation of a region that draws its order. -/
theorem step_Own {P : Program} {w : World} {ops : Array Oper} {o : Oper} {a : Act} {K : Act → World → Prop} {Q : Exit → Act → World → Prop} {E : Prop} (hgd : o.guard = none) (s x : Operand) (t : TypeId)
    (ho : o.op = .call { callee := .builtin .append, args := #[s, x], argTypes := #[t, t] })
    (e : TypeId) (i : TypeInfo) (z : Value) (size bytes : Nat) (ht : P.underlying t = some (.slice e)) (hi : P.info? e = some i) (hz : i.zero = some z)
    (hsize : i.size = size) (hby : i.bytes = bytes) (hzs : z.cells.size = size) (hsz : 0 < size)
    (v : Value) (n : Nat) (xs : List Value) (hs : a.eval s = v) (hown : Own w e size v n xs)
    (y : Value) (m : Nat) (news : List Value) (hx : a.eval x = y) (hr : Row w y m size news) (h1 : ∀ u ∈ news, u.oneCell' = true)
    (N : Nat) (ys : List Value) (hN : n + m = N) (hys : xs ++ news = ys) (h63 : N ≤ maxLen) (hbytes : N * bytes ≤ 140737488355328)
    (h : ∀ A c w', Own w' e size (.slice A N c) N ys → Mod (fun g => v.ownBlock = some g) w w' →
      (∀ g, (Value.slice A N c).ownBlock = some g → v.ownBlock = some g ∨ w.heap.size ≤ g) → K (a.put o.dst (.slice A N c)) w') :
    if Region.wanted o (yielded ops a.tmps) = true then Oper.wp P o a w K Q else E := by
  have hw : Region.wanted o (yielded ops a.tmps) = true := by simp [Region.wanted, hgd]
  rw [if_pos hw]
  subst hN hys
  refine wp_append_Own s x t ho e i z size bytes ht hi hz hsize hby hzs hsz v n xs hs hown y m news hx hr h1 h63 hbytes fun v' w' h2 h3 h4 => ?_
  obtain ⟨A, c, rfl, _⟩ := h2.form
  refine h A c w' h2 ((Mod.refl _ w).grown h3 fun k hk => .inl hk) fun g hg => ?_
  rcases h4 with h4 | h4
  · exact .inl (h4 ▸ hg)
  · rw [h4] at hg
    injection hg with hg
    omega
end Go.Proofs.YtekmgamjpjddiaaDoor
