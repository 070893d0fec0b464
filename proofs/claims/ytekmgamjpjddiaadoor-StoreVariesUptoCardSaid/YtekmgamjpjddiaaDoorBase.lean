/- Words for memory that all walks of this seat share: what a call may have changed ('Mod'), a slice that reads as a list ('Row', 'Bytes'), a block that is known whole ('Blk'); plain lemmas on them, no program in sight. -/
import Derived.WalkKit
import Derived.WalkLawsBesides
import Derived.WalkSpells
import Derived.Maps.AppendAt
import Derived.Deep.AppendLies
import Derived.Deep.Draws
namespace Go.Proofs.YtekmgamjpjddiaaDoor
open Go Go.RowKit

/-- Blocks outside F that were there before are as they were. -/
structure Mod (F : Nat → Prop) (w w' : World) : Prop where
  os : w'.os = w.os
  tape : w'.tape = w.tape
  output : w'.output = w.output
  size : w.heap.size ≤ w'.heap.size
  block : ∀ k, k < w.heap.size → ¬ F k → w'.heap[k]? = w.heap[k]?

abbrev None' : Nat → Prop := fun _ => False

section
variable {F G : Nat → Prop} {w w' w1 w2 : World}
theorem Mod.refl (F : Nat → Prop) (w : World) : Mod F w w := ⟨rfl, rfl, rfl, Nat.le_refl _, fun _ _ _ => rfl⟩
theorem Mod.trans (h : Mod F w w1) (k : Mod G w1 w2) (hG : ∀ b, G b → b < w.heap.size → F b) : Mod F w w2 :=
  ⟨k.os.trans h.os, k.tape.trans h.tape, k.output.trans h.output, Nat.le_trans h.size k.size,
    fun b hb hF => (k.block b (Nat.lt_of_lt_of_le hb h.size) (fun g => hF (hG b g hb))).trans (h.block b hb hF)⟩
theorem Mod.weaken (h : Mod F w w1) (hG : ∀ b, F b → b < w.heap.size → G b) : Mod G w w1 :=
  ⟨h.os, h.tape, h.output, h.size, fun b hb hF => h.block b hb (fun g => hF (hG b g hb))⟩
theorem Mod.any (h : Mod None' w w1) (F : Nat → Prop) : Mod F w w1 := h.weaken fun _ f _ => f.elim
theorem Mod.alloc (h : Mod F w w1) (o : Obj) : Mod F w (w1.alloc o) :=
  h.trans (G := None') ⟨rfl, rfl, rfl, by simp, fun k hk _ => Below.heap_alloc _ _ _ hk⟩ (fun _ f _ => f.elim)
theorem Mod.drew (h : Mod F w w1) : Mod F w w1.drew := ⟨h.os, h.tape, h.output, h.size, h.block⟩
theorem Mod.drewN (h : Mod F w w1) (n : Nat) : Mod F w (w1.drewN n) := ⟨h.os, h.tape, h.output, h.size, h.block⟩
theorem Mod.setCell (h : Mod F w w1) {p : Addr} (hp : F p.block ∨ w.heap.size ≤ p.block) (u : Value) : Mod F w (w1.setCell p u) :=
  h.trans (G := fun k => k = p.block) ⟨rfl, rfl, rfl, by simp [World.setCell], fun k _ hk => Below.heap_setCell _ _ _ _ hk⟩
    (fun b e hb => by subst e; rcases hp with hp | hp; exact hp; omega)
theorem Mod.grown {row : Option Nat} (h : Mod F w w1) (hg : w1.grownBy w2 row) (hr : ∀ k, row = some k → F k ∨ w.heap.size ≤ k) : Mod F w w2 :=
  h.trans (G := fun k => row = some k) ⟨hg.os, hg.tape, hg.output, hg.size, fun k hk hne => hg.block k hk (fun e => hne e.symm)⟩
    (fun b e hb => by rcases hr b e with hp | hp; exact hp; omega)
theorem Mod.cell (h : Mod F w w1) {a : Addr} (hb : a.block < w.heap.size) (hF : ¬ F a.block) : w1.cell? a = w.cell? a := World.cell?_of_block (h.block _ hb hF)
theorem Mod.frozen (h : Mod F w w1) {a : Addr} (hb : a.block < w.heap.size) (hF : ¬ F a.block) : w1.frozen? a = w.frozen? a := World.frozen?_of_block (h.block _ hb hF)
theorem Mod.below (h : Mod F w w1) (B : Nat) (hB : B ≤ w.heap.size) (hF : ∀ b, F b → B ≤ b) : Below B w w1 :=
  ⟨h.os, h.tape, h.output, h.size, fun k hk => h.block k (by omega) (fun f => by have := hF k f; omega)⟩
theorem Mod.none_cell (h : Mod None' w w1) (b o : Nat) (hb : b < w.heap.size) : w1.cell? ⟨b, o, none⟩ = w.cell? ⟨b, o, none⟩ := h.cell hb (fun f => f)
theorem Mod.none_frozen (h : Mod None' w w1) (b o : Nat) (hb : b < w.heap.size) : w1.frozen? ⟨b, o, none⟩ = w.frozen? ⟨b, o, none⟩ := h.frozen hb (fun f => f)
theorem cell_lt {a : Addr} {v : Value} (h : w.cell? a = some v) : a.block < w.heap.size := World.block_lt_of_cell? w a h
end

/-- A block that is known whole, nothing frozen. -/
def Blk (w : World) (g : Nat) (t : TypeId) (cs : Array Value) : Prop := w.heap[g]? = some (.cells cs t (0, 0))
section
variable {F : Nat → Prop} {w w' : World} {g : Nat} {t : TypeId} {cs : Array Value}
theorem Blk.lt (h : Blk w g t cs) : g < w.heap.size := by
  rcases Nat.lt_or_ge g w.heap.size with hlt | hge
  · exact hlt
  · unfold Blk at h; rw [Array.getElem?_eq_none hge] at h; cases h
theorem Blk.cell (h : Blk w g t cs) (i : Nat) : w.cell? ⟨g, i, none⟩ = cs[i]? := cell_of_row w g i cs t (0, 0) h
theorem Blk.frozen (h : Blk w g t cs) (i : Nat) : w.frozen? ⟨g, i, none⟩ = false := by
  unfold Blk at h
  simp [World.frozen?, h]
theorem Blk.new (w : World) (t : TypeId) (cs : Array Value) : Blk (w.alloc (.cells cs t)) w.heap.size t cs := heap_alloc_new w _
theorem Blk.at {w : World} {t : TypeId} {cs : Array Value} {g : Nat} (h : g = w.heap.size) : Blk (w.alloc (.cells cs t)) g t cs := h ▸ heap_alloc_new w _
theorem Blk.drew (h : Blk w g t cs) : Blk w.drew g t cs := h
theorem Blk.drewN (h : Blk w g t cs) (n : Nat) : Blk (w.drewN n) g t cs := h
theorem Blk.alloc (h : Blk w g t cs) (o : Obj) : Blk (w.alloc o) g t cs := (Below.heap_alloc w o g h.lt).trans h
theorem Blk.set_ (h : Blk w g t cs) (i : Nat) (u : Value) : Blk (w.setCell ⟨g, i, none⟩ u) g t (cs.setIfInBounds i u) := by
  unfold Blk at h ⊢
  simp [World.setCell, Array.getElem?_modify, h]
theorem Blk.far (h : Blk w g t cs) {p : Addr} (hp : g ≠ p.block) (u : Value) : Blk (w.setCell p u) g t cs := (Below.heap_setCell w p u g hp).trans h
theorem Blk.mod (h : Blk w g t cs) (hm : Mod F w w') (hF : ¬ F g) : Blk w' g t cs := (hm.block g h.lt hF).trans h
theorem Blk.old (h : Blk w g t cs) (hm : Mod None' w w') : Blk w' g t cs := h.mod hm fun f => f
theorem Blk.grown {row : Option Nat} (h : Blk w g t cs) (hb : w.grownBy w' row) (hg : some g ≠ row) : Blk w' g t cs := (hb.block g h.lt hg).trans h
theorem Blk.ne_ {g' : Nat} {t' : TypeId} {cs' : Array Value} (h : Blk w g t cs) (h' : Blk w g' t' cs') (hne : t ≠ t') : g ≠ g' := by
  rintro rfl
  unfold Blk at h h'
  rw [h] at h'
  injection h' with h'
  injection h' with _ ht
  exact hne ht
end

theorem add_mk (g o n : Nat) : (⟨g, o, none⟩ : Addr).add n = ⟨g, o + n, none⟩ := by
  unfold Addr.add
  split
  · subst_vars; rfl
  · rfl

/-- The slice value v has n elements of k cells each; they are the cells xs. -/
def Row (w : World) (v : Value) (n k : Nat) (xs : List Value) : Prop :=
  xs.length = n * k ∧ ∃ A c, v = .slice A n c ∧ n ≤ c ∧ c ≤ maxLen ∧ (0 < n → ∃ g o, A = some ⟨g, o, none⟩ ∧ ∀ j u, xs[j]? = some u → w.cell? ⟨g, o + j, none⟩ = some u)

def bv (b : UInt8) : Value := .int .u8 b.toNat
def Bytes (w : World) (v : Value) (l : List UInt8) : Prop := Row w v l.length 1 (l.map bv)

section
variable {F : Nat → Prop} {w w' : World} {v : Value} {n k : Nat} {xs : List Value} {l : List UInt8}
theorem Row.nil_ (w : World) (k : Nat) : Row w (.slice none 0 0) 0 k [] := ⟨by simp, _, _, rfl, Nat.le_refl _, by simp [maxLen], fun h => absurd h (by omega)⟩
theorem Bytes.nil_ (w : World) : Bytes w (.slice none 0 0) [] := Row.nil_ w 1
theorem Row.form (h : Row w v n k xs) : ∃ A c, v = .slice A n c ∧ n ≤ c ∧ c ≤ maxLen := by
  obtain ⟨_, A, c, h1, h2, h3, _⟩ := h
  exact ⟨A, c, h1, h2, h3⟩
theorem Row.keep (h : Row w v n k xs) (hk : ∀ g o, v.ownBlock = some g → g < w.heap.size → w'.cell? ⟨g, o, none⟩ = w.cell? ⟨g, o, none⟩) : Row w' v n k xs := by
  obtain ⟨h0, A, c, rfl, h2, h3, h4⟩ := h
  refine ⟨h0, A, c, rfl, h2, h3, fun hn => ?_⟩
  obtain ⟨g, o, rfl, hc⟩ := h4 hn
  refine ⟨g, o, rfl, fun j u hu => ?_⟩
  have := hc j u hu
  rw [hk g (o + j) rfl (cell_lt (a := ⟨g, o + j, Option.none⟩) this)]
  exact this
theorem Row.mod (h : Row w v n k xs) (hm : Mod F w w') (hF : ∀ g, v.ownBlock = some g → ¬ F g) : Row w' v n k xs :=
  h.keep fun g o hg hlt => hm.cell (a := ⟨g, o, Option.none⟩) hlt (hF g hg)
theorem Row.old (h : Row w v n k xs) (hm : Mod None' w w') : Row w' v n k xs := h.mod hm fun _ _ f => f
theorem Row.alloc (h : Row w v n k xs) (o : Obj) : Row (w.alloc o) v n k xs := h.old ((Mod.refl _ w).alloc o)
theorem Row.drew (h : Row w v n k xs) : Row w.drew v n k xs := h
theorem Row.drewN (h : Row w v n k xs) (m : Nat) : Row (w.drewN m) v n k xs := h
theorem Row.setCell (h : Row w v n k xs) {p : Addr} (hF : ∀ g, v.ownBlock = some g → g ≠ p.block) (u : Value) : Row (w.setCell p u) v n k xs :=
  h.mod (F := fun b => b = p.block) (Mod.setCell (F := fun b => b = p.block) (Mod.refl _ w) (.inl rfl) u) hF
theorem Row.of_own {e : TypeId} (h : w.ownsRow 0 e k v n xs) : Row w v n k xs := by
  refine ⟨h.1, ?_⟩
  rcases h.2 with ⟨rfl, rfl⟩ | ⟨g, cap, cur, rfl, _, hg, h1, h2, h3, h4⟩
  · exact ⟨_, _, rfl, Nat.le_refl _, by simp [maxLen], fun h => absurd h (by omega)⟩
  · refine ⟨_, _, rfl, h1, h2, fun _ => ⟨g, 0, rfl, fun j u hu => ?_⟩⟩
    have := h.cells (g := g) rfl j u hu
    rwa [add_mk] at this
theorem Row.of_blk {g : Nat} {t : TypeId} {cs : Array Value} (h : Blk w g t cs) (n k c : Nat) (hs : cs.size = n * k) (hc : n ≤ c) (hm : c ≤ maxLen) : Row w (.slice (some ⟨g, 0, Option.none⟩) n c) n k cs.toList := by
  refine ⟨by simpa using hs, _, _, rfl, hc, hm, fun _ => ⟨g, 0, rfl, fun j u hu => ?_⟩⟩
  rw [h.cell, Nat.zero_add]
  simpa using hu
theorem Row.cut {A : Option Addr} {c : Nat} (h : Row w (.slice A n c) n k xs) {i : Nat} (hi : i ≤ n) :
    Row w (.slice (if c = i then A else A.map (·.add (i * k))) (n - i) (c - i)) (n - i) k (xs.drop (i * k)) := by
  obtain ⟨h0, A', c', he, h2, h3, h4⟩ := h
  injection he with e1 _ e2
  subst e1 e2
  refine ⟨by rw [List.length_drop, h0, Nat.sub_mul], _, _, rfl, by omega, by omega, fun hn => ?_⟩
  obtain ⟨g, o, rfl, hc⟩ := h4 (by omega)
  rw [if_neg (by omega)]
  refine ⟨g, o + i * k, by simp [add_mk], fun j u hu => ?_⟩
  rw [Nat.add_assoc]
  exact hc _ u (by rw [← hu, List.getElem?_drop])
theorem Row.upto {A : Option Addr} {c : Nat} (h : Row w (.slice A n c) n k xs) {i : Nat} (hi : i ≤ n) : Row w (.slice A i c) i k (xs.take (i * k)) := by
  obtain ⟨h0, A', c', he, h2, h3, h4⟩ := h
  injection he with e1 _ e2
  subst e1 e2
  refine ⟨by rw [List.length_take, h0]; have := Nat.mul_le_mul_right k hi; omega, _, _, rfl, by omega, by omega, fun hn => ?_⟩
  obtain ⟨g, o, rfl, hc⟩ := h4 (by omega)
  refine ⟨g, o, rfl, fun j u hu => hc j u ?_⟩
  rw [List.getElem?_take] at hu
  split at hu
  · exact hu
  · cases hu
theorem Bytes.old (h : Bytes w v l) (hm : Mod None' w w') : Bytes w' v l := Row.old h hm
theorem Bytes.mod (h : Bytes w v l) (hm : Mod F w w') (hF : ∀ g, v.ownBlock = some g → ¬ F g) : Bytes w' v l := Row.mod h hm hF
theorem bv_one (l : List UInt8) : ∀ u ∈ l.map bv, u.oneCell' = true := by
  intro u hu
  obtain ⟨b, _, rfl⟩ := List.mem_map.1 hu
  rfl
end

/-- append onto a row of the call's own; the source may be nil, empty or any. -/
theorem run_append_row {P : Program} (w : World) (t ty e : TypeId) (i : TypeInfo) (z : Value) (size bytes : Nat) (ht : P.underlying t = some (.slice e)) (hi : P.info? e = some i) (hz : i.zero = some z)
    (hsize : i.size = size) (hby : i.bytes = bytes) (hzs : z.cells.size = size) (hsz : 0 < size)
    (v : Value) (n : Nat) (xs : List Value) (hown : w.ownsRow 0 e size v n xs)
    (x : Value) (m : Nat) (news : List Value) (hr : Row w x m size news) (h1 : ∀ u ∈ news, u.oneCell' = true)
    (h63 : n + m ≤ maxLen) (hbytes : (n + m) * bytes ≤ 140737488355328) :
    ∃ v' w', (Builtin.append_ #[t, t] ty #[v, x]).run P w = .ok v' w' ∧ w'.ownsRow 0 e size v' (n + m) (xs ++ news) ∧ w.grownBy w' v.ownBlock ∧
      (v'.ownBlock = v.ownBlock ∨ v'.ownBlock = some w.heap.size) := by
  obtain ⟨h0, A, c, rfl, hc, hcm, h4⟩ := hr
  rcases A with _ | ad
  · have hm : m = 0 := by
      rcases Nat.eq_zero_or_pos m with h0 | h0
      · exact h0
      · obtain ⟨_, _, h, _⟩ := h4 h0
        cases h
    subst hm
    have hn : news = [] := List.eq_nil_of_length_eq_zero (by simpa using h0)
    subst hn
    refine ⟨v, w, ?_, by simpa using hown, World.grownBy.refl w _, .inl rfl⟩
    rcases hown.2 with ⟨rfl, rfl⟩ | ⟨g, cap, cur, rfl, _, _, hnc, _⟩
    · simp [Builtin.append_, run_underlying ht, sizeOf, typeInfo, hi, Builtin.lenOf, Builtin.firstCells]
    · simp [Builtin.append_, run_underlying ht, sizeOf, typeInfo, hi, Builtin.lenOf, Builtin.firstCells, hnc, storeCells]
  · have hcells : ∀ j u, news[j]? = some u → w.cell? (ad.add j) = some u := by
      intro j u hu
      rcases Nat.eq_zero_or_pos m with h0' | h0'
      · subst h0'
        have hn : news = [] := List.eq_nil_of_length_eq_zero (by simpa using h0)
        subst hn
        simp at hu
      · obtain ⟨g, o, h, hcc⟩ := h4 h0'
        injection h with h
        subst h
        rw [add_mk]
        exact hcc j u hu
    obtain ⟨v', w', hrun, h2, h3, _, h5⟩ := run_append_own_at (P := P) w 0 t ty e i z size bytes ht hi hz hsize hby hzs hsz v n xs hown ad m c news h0 hcells h1 h63 hbytes (Nat.zero_le _)
    exact ⟨v', w', hrun, h2, h3, h5⟩

theorem wp_append_row {P : Program} {w : World} {o : Oper} {a : Act} {K : Act → World → Prop} {Q : Exit → Act → World → Prop} (s x : Operand) (t : TypeId)
    (ho : o.op = .call { callee := .builtin .append, args := #[s, x], argTypes := #[t, t] })
    (e : TypeId) (i : TypeInfo) (z : Value) (size bytes : Nat) (ht : P.underlying t = some (.slice e)) (hi : P.info? e = some i) (hz : i.zero = some z)
    (hsize : i.size = size) (hby : i.bytes = bytes) (hzs : z.cells.size = size) (hsz : 0 < size)
    (v : Value) (n : Nat) (xs : List Value) (hs : a.eval s = v) (hown : w.ownsRow 0 e size v n xs)
    (y : Value) (m : Nat) (news : List Value) (hx : a.eval x = y) (hr : Row w y m size news) (h1 : ∀ u ∈ news, u.oneCell' = true)
    (h63 : n + m ≤ maxLen) (hbytes : (n + m) * bytes ≤ 140737488355328)
    (h : ∀ v' w', w'.ownsRow 0 e size v' (n + m) (xs ++ news) → w.grownBy w' v.ownBlock → (v'.ownBlock = v.ownBlock ∨ v'.ownBlock = some w.heap.size) → K (a.put o.dst v') w') : o.wp P a w K Q := by
  obtain ⟨v', w', hrun, h2, h3, h4⟩ := run_append_row (P := P) w t o.type e i z size bytes ht hi hz hsize hby hzs hsz v n xs hown y m news hr h1 h63 hbytes
  unfold Oper.wp execOp
  simp only [ho, resolve, invoke, builtin, Sem.run_bind, Sem.run_pure, Result.andThen_ok, List.map_toArray, List.map_cons, List.map_nil, hs, hx, hrun]
  exact h v' w' h2 h3 h4

theorem wpList_append_row {P : Program} {w : World} {ops : Array Oper} {rest : List Oper} {o : Oper} {a : Act} {Q : Exit → Act → World → Prop} (hgd : o.guard = none) (s x : Operand) (t : TypeId)
    (ho : o.op = .call { callee := .builtin .append, args := #[s, x], argTypes := #[t, t] })
    (e : TypeId) (i : TypeInfo) (z : Value) (size bytes : Nat) (ht : P.underlying t = some (.slice e)) (hi : P.info? e = some i) (hz : i.zero = some z)
    (hsize : i.size = size) (hby : i.bytes = bytes) (hzs : z.cells.size = size) (hsz : 0 < size)
    (v : Value) (n : Nat) (xs : List Value) (hs : a.eval s = v) (hown : w.ownsRow 0 e size v n xs)
    (y : Value) (m : Nat) (news : List Value) (hx : a.eval x = y) (hr : Row w y m size news) (h1 : ∀ u ∈ news, u.oneCell' = true)
    (h63 : n + m ≤ maxLen) (hbytes : (n + m) * bytes ≤ 140737488355328)
    (h : ∀ v' w', w'.ownsRow 0 e size v' (n + m) (xs ++ news) → w.grownBy w' v.ownBlock → (v'.ownBlock = v.ownBlock ∨ v'.ownBlock = some w.heap.size) → wpList P ops Q rest (a.put o.dst v') w') : wpList P ops Q (o :: rest) a w :=
  wpList_plain hgd fun _ hK => wp_append_row s x t ho e i z size bytes ht hi hz hsize hby hzs hsz v n xs hs hown y m news hx hr h1 h63 hbytes fun v' w' h2 h3 h4 => hK _ _ (h v' w' h2 h3 h4)

/-- A row that the call has made: owned, new, and nothing that was there before has turned. -/
structure Fresh (e : TypeId) (k : Nat) (w w' : World) (v : Value) (n : Nat) (xs : List Value) : Prop where
  own : w'.ownsRow 0 e k v n xs
  new : ∀ g, v.ownBlock = some g → w.heap.size ≤ g
  mod : Mod None' w w'

theorem Fresh.lit (e : TypeId) (k : Nat) (w w1 : World) (cs : Array Value) (xs : List Value) (n : Nat) (hm : Mod None' w w1) (hn : n ≤ maxLen) (hs : cs.size = n * k) (hx : cs.toList = xs) :
    Fresh e k w (w1.alloc (.cells cs e)) (.slice (some ⟨w1.heap.size, 0, none⟩) n n) n xs := by
  refine ⟨⟨by rw [← hx]; simpa using hs, .inr ⟨_, _, cs, rfl, Nat.zero_le _, heap_alloc_new w1 _, Nat.le_refl _, hn, hs, ?_⟩⟩, ?_, hm.alloc _⟩
  · rw [← hx]; exact List.take_of_length_le (by simpa using Nat.le_of_eq hs)
  · intro g hg
    simp [Value.ownBlock] at hg
    subst hg
    exact hm.size

/-- A number as k bytes, the high ones first. -/
def be : Nat → Nat → List UInt8
  | 0, _ => []
  | k + 1, n => be k (n / 256) ++ [UInt8.ofNat n]
theorem be_length (k : Nat) : ∀ n, (be k n).length = k := by
  induction k with
  | zero => intro _; rfl
  | succ k ih => intro n; simp [be, ih]
theorem be4_eq (n : Nat) : be 4 n = [UInt8.ofNat (n / 256 / 256 / 256), UInt8.ofNat (n / 256 / 256), UInt8.ofNat (n / 256), UInt8.ofNat n] := rfl
theorem be3_eq (n : Nat) : be 3 n = [UInt8.ofNat (n / 256 / 256), UInt8.ofNat (n / 256), UInt8.ofNat n] := rfl
theorem bv_ofNat (n : Nat) : bv (UInt8.ofNat n) = .int .u8 ((n : Int) % 256) := by
  unfold bv
  congr 1
/-- Bytes as a number. -/
def unbe (l : List UInt8) : Nat := l.foldl (fun a b => a * 256 + b.toNat) 0
theorem own_form {w : World} {e : TypeId} {k n : Nat} {v : Value} {xs : List Value} (h : w.ownsRow 0 e k v n xs) : ∃ A c, v = .slice A n c ∧ n ≤ c ∧ c ≤ maxLen := (Row.of_own h).form

/-- append at the operation, as the walks use it. -/
theorem wpList_app {P : Program} {w : World} {ops : Array Oper} {rest : List Oper} {o : Oper} {a : Act} {Q : Exit → Act → World → Prop} (hgd : o.guard = none) (s x : Operand) (t : TypeId)
    (ho : o.op = .call { callee := .builtin .append, args := #[s, x], argTypes := #[t, t] })
    (e : TypeId) (i : TypeInfo) (z : Value) (size bytes : Nat) (ht : P.underlying t = some (.slice e)) (hi : P.info? e = some i) (hz : i.zero = some z)
    (hsize : i.size = size) (hby : i.bytes = bytes) (hzs : z.cells.size = size) (hsz : 0 < size)
    (v : Value) (n : Nat) (xs : List Value) (hs : a.eval s = v) (hown : w.ownsRow 0 e size v n xs)
    (y : Value) (m : Nat) (news : List Value) (hx : a.eval x = y) (hr : Row w y m size news) (h1 : ∀ u ∈ news, u.oneCell' = true)
    (N : Nat) (ys : List Value) (hN : n + m = N) (hys : xs ++ news = ys) (h63 : N ≤ maxLen) (hbytes : N * bytes ≤ 140737488355328)
    (h : ∀ A c w', w'.ownsRow 0 e size (.slice A N c) N ys → Mod (fun g => v.ownBlock = some g) w w' →
      (∀ g, (Value.slice A N c).ownBlock = some g → v.ownBlock = some g ∨ w.heap.size ≤ g) → wpList P ops Q rest (a.put o.dst (.slice A N c)) w') : wpList P ops Q (o :: rest) a w := by
  subst hN hys
  refine wpList_append_row hgd s x t ho e i z size bytes ht hi hz hsize hby hzs hsz v n xs hs hown y m news hx hr h1 h63 hbytes fun v' w' h2 h3 h4 => ?_
  obtain ⟨A, c, rfl, _⟩ := own_form h2
  refine h A c w' h2 ((Mod.refl _ w).grown h3 fun k hk => .inl hk) fun g hg => ?_
  rcases h4 with h4 | h4
  · exact .inl (h4 ▸ hg)
  · rw [h4] at hg
    injection hg with hg
    omega

/-- append at the operation of a region that draws its order. -/
theorem step_app {P : Program} {w : World} {ops : Array Oper} {o : Oper} {a : Act} {K : Act → World → Prop} {Q : Exit → Act → World → Prop} {E : Prop} (hgd : o.guard = none) (s x : Operand) (t : TypeId)
    (ho : o.op = .call { callee := .builtin .append, args := #[s, x], argTypes := #[t, t] })
    (e : TypeId) (i : TypeInfo) (z : Value) (size bytes : Nat) (ht : P.underlying t = some (.slice e)) (hi : P.info? e = some i) (hz : i.zero = some z)
    (hsize : i.size = size) (hby : i.bytes = bytes) (hzs : z.cells.size = size) (hsz : 0 < size)
    (v : Value) (n : Nat) (xs : List Value) (hs : a.eval s = v) (hown : w.ownsRow 0 e size v n xs)
    (y : Value) (m : Nat) (news : List Value) (hx : a.eval x = y) (hr : Row w y m size news) (h1 : ∀ u ∈ news, u.oneCell' = true)
    (N : Nat) (ys : List Value) (hN : n + m = N) (hys : xs ++ news = ys) (h63 : N ≤ maxLen) (hbytes : N * bytes ≤ 140737488355328)
    (h : ∀ A c w', w'.ownsRow 0 e size (.slice A N c) N ys → Mod (fun g => v.ownBlock = some g) w w' →
      (∀ g, (Value.slice A N c).ownBlock = some g → v.ownBlock = some g ∨ w.heap.size ≤ g) → K (a.put o.dst (.slice A N c)) w') :
    if Region.wanted o (yielded ops a.tmps) = true then Oper.wp P o a w K Q else E := by
  have hw : Region.wanted o (yielded ops a.tmps) = true := by simp [Region.wanted, hgd]
  rw [if_pos hw]
  subst hN hys
  refine wp_append_row s x t ho e i z size bytes ht hi hz hsize hby hzs hsz v n xs hs hown y m news hx hr h1 h63 hbytes fun v' w' h2 h3 h4 => ?_
  obtain ⟨A, c, rfl, _⟩ := own_form h2
  refine h A c w' h2 ((Mod.refl _ w).grown h3 fun k hk => .inl hk) fun g hg => ?_
  rcases h4 with h4 | h4
  · exact .inl (h4 ▸ hg)
  · rw [h4] at hg
    injection hg with hg
    omega

theorem Fresh.app {e : TypeId} {k n : Nat} {w w1 w2 : World} {v v' : Value} {xs : List Value} (hm : Mod None' w w1) (hv : ∀ g, v.ownBlock = some g → w.heap.size ≤ g)
    (ho : w2.ownsRow 0 e k v' n xs) (hg : Mod (fun g => v.ownBlock = some g) w1 w2) (hat : ∀ g, v'.ownBlock = some g → v.ownBlock = some g ∨ w1.heap.size ≤ g) : Fresh e k w w2 v' n xs :=
  ⟨ho, fun g h => by
    rcases hat g h with h | h
    · exact hv g h
    · have := hm.size; omega, hm.trans hg fun b h1 h2 => by have := hv b h1; omega⟩
section
variable {P : Program} (w : World)
theorem run_equalIn_iface_int (d : Nat) {ti tn : TypeId} {ms : Array (String × TypeId)} {i : TypeInfo} {k : IntKind} (a b : Int)
    (hi : P.underlying ti = some (.interface ms)) (hn : P.underlying tn = some (.int k)) (hinfo : P.info? tn = some i) (hcomp : i.comparable = true) :
    (Op.equalIn (d + 2) ti (.iface tn (.int k a)) (.iface tn (.int k b))).run P w = .ok (a == b) w := by
  simp [Op.equalIn, run_underlying hi, run_underlying hn, typeInfo, hinfo, hcomp]
/-- two errors of one integer type are equal as their numbers are -/
theorem run_eql_iface_int {ti tn : TypeId} {ms : Array (String × TypeId)} {i : TypeInfo} {k : IntKind} (a b : Int)
    (hi : P.underlying ti = some (.interface ms)) (hn : P.underlying tn = some (.int k)) (hinfo : P.info? tn = some i) (hcomp : i.comparable = true) :
    (binOp .eql ti (.iface tn (.int k a)) (.iface tn (.int k b))).run P w = .ok (.bool (a == b)) w := by
  simp only [binOp]
  simp [Op.equal, Op.maxDepth, run_equalIn_iface_int w 9998 a b hi hn hinfo hcomp]
end
theorem wraps_i64 (n : Int) (h₀ : 0 ≤ n) (h₁ : n < 2 ^ 62) : IntKind.i64.wrap n = n := by rw [IntKind.wrap_i64]; omega
theorem or_i64 (i : Nat) (hi : i ≤ 62) (x y : Int) (h0 : 0 ≤ x) (hx : x % 2 ^ i = 0) (h1 : x < 2 ^ 62) (h2 : 0 ≤ y) (h3 : y < 2 ^ i) : bits .or .i64 x y = x + y := by
  have h4 : (2 : Int) ^ i ≤ 2 ^ 62 := by exact_mod_cast Nat.pow_le_pow_right (by decide) hi
  exact bits_join .i64 62 (by decide) wraps_i64 i x y h0 hx h1 h2 h3 (by omega)
theorem or_byte (x y : Int) (h0 : 0 ≤ x) (h1 : x ≤ 1152921504606846) (h2 : 0 ≤ y) (h3 : y ≤ 255) : bits .or .i64 (x * 256) y = x * 256 + y :=
  or_i64 8 (by decide) _ _ (by omega) (by omega) (by omega) h2 (by omega)
theorem or_zero (y : Int) (h2 : 0 ≤ y) (h3 : y ≤ 255) : bits .or .i64 0 y = y := by
  have := or_i64 8 (by decide) 0 y (by omega) (by omega) (by omega) h2 (by omega)
  rwa [Int.zero_add] at this
theorem and_i64 (i : Nat) (hi : i ≤ 62) (x : Int) (h0 : 0 ≤ x) (h1 : x < 2 ^ 62) : bits .and .i64 x (2 ^ i - 1) = x % 2 ^ i := bits_mask .i64 62 (by decide) wraps_i64 i hi x h0 h1
theorem byte_le (b : UInt8) : (b.toNat : Int) ≤ 255 := by have := b.toNat_lt; omega
theorem unbe4 (a b c d : UInt8) : unbe [a, b, c, d] = ((a.toNat * 256 + b.toNat) * 256 + c.toNat) * 256 + d.toNat := by simp [unbe]
theorem unbe3 (a b c : UInt8) : unbe [a, b, c] = (a.toNat * 256 + b.toNat) * 256 + c.toNat := by simp [unbe]
theorem word_bits (a b c d : Int) (a0 : 0 ≤ a) (a1 : a ≤ 255) (b0 : 0 ≤ b) (b1 : b ≤ 255) (c0 : 0 ≤ c) (c1 : c ≤ 255) (d0 : 0 ≤ d) (d1 : d ≤ 255) :
    bits .or .i64 (bits .or .i64 (bits .or .i64 (a * 16777216) (b * 65536)) (c * 256)) d = ((a * 256 + b) * 256 + c) * 256 + d := by
  rw [or_i64 24 (by decide) (a * 16777216) (b * 65536) (by omega) (by omega) (by omega) (by omega) (by omega)]
  rw [or_i64 16 (by decide) (a * 16777216 + b * 65536) (c * 256) (by omega) (by omega) (by omega) (by omega) (by omega)]
  rw [or_i64 8 (by decide) (a * 16777216 + b * 65536 + c * 256) d (by omega) (by omega) (by omega) (by omega) (by omega)]
  omega
theorem Fresh.next {e : TypeId} {k n n0 : Nat} {w w1 w2 : World} {v v' : Value} {xs xs0 : List Value} (h : Fresh e k w w1 v n0 xs0)
    (ho : w2.ownsRow 0 e k v' n xs) (hg : Mod (fun g => v.ownBlock = some g) w1 w2) (hat : ∀ g, v'.ownBlock = some g → v.ownBlock = some g ∨ w1.heap.size ≤ g) : Fresh e k w w2 v' n xs :=
  Fresh.app h.mod h.new ho hg hat
theorem Fresh.row {e : TypeId} {k n : Nat} {w w1 : World} {v : Value} {xs : List Value} (h : Fresh e k w w1 v n xs) : Row w1 v n k xs := Row.of_own h.own
theorem Blk.cells_old {w w' : World} {g : Nat} {t : TypeId} {cs : Array Value} (h : Blk w g t cs) (hm : Mod None' w w') (i : Nat) : w'.cell? ⟨g, i, Option.none⟩ = cs[i]? := (h.old hm).cell i
theorem Mod.then {w w1 w2 : World} (h : Mod None' w w1) (k : Mod None' w1 w2) : Mod None' w w2 := h.trans k fun _ f _ => f.elim
theorem Fresh.after {e : TypeId} {k n : Nat} {w w1 w2 : World} {v : Value} {xs : List Value} (h : Fresh e k w1 w2 v n xs) (m : Mod None' w w1) : Fresh e k w w2 v n xs :=
  ⟨h.own, fun g hg => Nat.le_trans m.size (h.new g hg), m.then h.mod⟩
theorem Fresh.then {e : TypeId} {k n : Nat} {w w1 w2 : World} {v : Value} {xs : List Value} (h : Fresh e k w w1 v n xs) (m : Mod None' w1 w2) : Fresh e k w w2 v n xs :=
  ⟨h.own.kept (row := none) ⟨m.os, m.tape, m.output, m.size, fun i hi _ => m.block i hi fun f => f⟩ (by cases v.ownBlock <;> simp), h.new, h.mod.then m⟩
theorem Fresh.cast {e : TypeId} {k n n' : Nat} {w w1 : World} {A : Option Addr} {c : Nat} {xs xs' : List Value} (h : Fresh e k w w1 (.slice A n c) n xs) (hn : n = n') (hx : xs = xs') : Fresh e k w w1 (.slice A n' c) n' xs' := by
  subst hn hx; exact h
theorem Bytes.of_row {w : World} {v : Value} {n : Nat} {l : List UInt8} (h : Row w v n 1 (l.map bv)) (hn : n = l.length) : Bytes w v l := by subst hn; exact h
theorem Bytes.two {w : World} {t : TypeId} {g c : Nat} {a b : UInt8} {x y : Int} (hx : x = a.toNat) (hy : y = b.toNat) (h : Blk w g t #[.int .u8 x, .int .u8 y]) (hc : 2 ≤ c) (hm : c ≤ maxLen) : Bytes w (.slice (some ⟨g, 0, none⟩) 2 c) [a, b] := by
  subst hx hy
  exact Row.of_blk h 2 1 c rfl hc hm
theorem toNat_byte (x : Int) (h0 : 0 ≤ x) (h1 : x ≤ 255) : x = (UInt8.ofNat x.toNat).toNat := by simp; omega
theorem Fresh.setCell {e : TypeId} {k n : Nat} {w w1 : World} {v : Value} {xs : List Value} (h : Fresh e k w w1 v n xs) {p : Addr} (hp : w.heap.size ≤ p.block) (hne : ∀ g, v.ownBlock = some g → g ≠ p.block) (u : Value) :
    Fresh e k w (w1.setCell p u) v n xs := by
  have m : Mod (fun b => b = p.block) w1 (w1.setCell p u) := Mod.setCell (F := fun b => b = p.block) (Mod.refl _ w1) (.inl rfl) u
  refine ⟨h.own.kept (row := some p.block) ⟨m.os, m.tape, m.output, m.size, fun i hi hx => m.block i hi fun f => hx (by rw [f])⟩ ?_, h.new, h.mod.setCell (.inr hp) u⟩
  cases hv : v.ownBlock with
  | none => exact .inl rfl
  | some g => exact .inr fun e => hne g hv (by injection e)
theorem own_blk_ne {w : World} {e t : TypeId} {size n g : Nat} {v : Value} {xs : List Value} {cs : Array Value} (h : w.ownsRow 0 e size v n xs) (hg : Blk w g t cs) (hne : e ≠ t) : ∀ k, v.ownBlock = some k → k ≠ g := by
  rcases h.2 with ⟨rfl, _⟩ | ⟨g', cap, cur, rfl, _, hh, _⟩
  · intro k hk; simp [Value.ownBlock] at hk
  · intro k hk
    simp only [Value.ownBlock, Option.some.injEq] at hk
    subst hk
    exact Blk.ne_ (t := e) hh hg hne
theorem own_keep {w w' : World} {e : TypeId} {size n : Nat} {v : Value} {xs : List Value} {F : Nat → Prop} (h : w.ownsRow 0 e size v n xs) (hm : Mod F w w') (hF : ∀ k, v.ownBlock = some k → ¬ F k) : w'.ownsRow 0 e size v n xs := by
  refine ⟨h.1, ?_⟩
  rcases h.2 with hn | ⟨g, cap, cur, rfl, hb, hgg, rest⟩
  · exact .inl hn
  · refine .inr ⟨g, cap, cur, rfl, hb, ?_, rest⟩
    rw [hm.block g (Array.getElem?_eq_some_iff.1 hgg).1 (hF g rfl)]
    exact hgg
theorem own_lt {w : World} {e : TypeId} {size n : Nat} {v : Value} {xs : List Value} (h : w.ownsRow 0 e size v n xs) : ∀ k, v.ownBlock = some k → k < w.heap.size := fun k hk => (h.lt k hk).2
theorem cell_of_get {w : World} {g : Nat} {t : TypeId} {cs : Array Value} {i : Nat} {v : Value} (h : Blk w g t cs) (hi : cs[i]? = some v) : w.cell? ⟨g, i, none⟩ = some v := (h.cell i).trans hi
/-- what an append leaves whose slice is stored back into a field -/
theorem app_store {w w2 w3 : World} {cb T i e k n : Nat} {cs : Array Value} {v v' : Value} {ys : List Value} (m2 : Mod None' w w2) (hb : Blk w cb T cs) (hne : ∀ g, v.ownBlock = some g → g ≠ cb)
    (ho : w3.ownsRow 0 e k v' n ys) (hg : Mod (fun g => v.ownBlock = some g) w2 w3) (hat : ∀ g, v'.ownBlock = some g → v.ownBlock = some g ∨ w2.heap.size ≤ g) :
    Blk (w3.setCell ⟨cb, i, none⟩ v') cb T (cs.setIfInBounds i v') ∧ (w3.setCell ⟨cb, i, none⟩ v').ownsRow 0 e k v' n ys ∧ Mod (fun g => g = cb ∨ v.ownBlock = some g) w (w3.setCell ⟨cb, i, none⟩ v') ∧
      (∀ g, v'.ownBlock = some g → v.ownBlock = some g ∨ w.heap.size ≤ g) := by
  have hb3 : Blk w3 cb T cs := (hb.old m2).mod hg (fun e => hne _ e rfl)
  have hcb := hb.lt
  have hsz := m2.size
  have hnew : ∀ g, v'.ownBlock = some g → g ≠ cb := fun g hg' => by
    rcases hat g hg' with h1 | h1
    · exact hne g h1
    · omega
  refine ⟨hb3.set_ i _, own_keep ho (F := fun k => k = cb) (Mod.setCell (F := fun k => k = cb) (Mod.refl _ _) (.inl rfl) _) hnew, ?_, ?_⟩
  · have m3 := (m2.any (fun g => g = cb ∨ v.ownBlock = some g)).trans hg (fun b hb' _ => Or.inr hb')
    exact m3.setCell (.inl (.inl rfl)) _
  · intro g hg'
    rcases hat g hg' with h1 | h1
    · exact .inl h1
    · exact .inr (by omega)
end Go.Proofs.YtekmgamjpjddiaaDoor
