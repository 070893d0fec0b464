/- slices.Backward over kept replies: its iterator, for every loop body that keeps what lay there. -/
import Derived.Test.YtekmgamjpjddiaaDoorSPut
import Derived.RangeFuncNested
import Derived.RangeFuncBound
import Derived.RangeFuncCalls
import Derived.RangeFuncLeaves
import Derived.RangeFuncBox
import Derived.Shelf.Abstract
import Derived.Shelf.RegionOpen
import Derived.OwnWalkIn
import Derived.TacticsInMore
import Derived.LoopNIn
import Derived.LoopIn
namespace Go.Proofs.YtekmgamjpjddiaaDoor
open Go Go.RowKit Go.Shelf
set_option maxRecDepth 100000

attribute [local go_sem] Oper.semAt_some

/-- the places of n, the last first -/
def backs (n : Nat) : List (Fin n) := (List.finRange n).reverse
theorem backs_length (n : Nat) : (backs n).length = n := by simp [backs]
theorem backs_take (n : Nat) (k j : Nat) (h : k + (j + 1) = n) : (backs n).take (k + 1) = (backs n).take k ++ [⟨j, by omega⟩] := by
  have hk : k < (backs n).length := by rw [backs_length]; omega
  rw [List.take_add_one, List.getElem?_eq_getElem hk, Option.toList_some]
  congr 2
  simp only [backs, List.getElem_reverse, List.length_finRange, List.getElem_finRange]
  apply Fin.ext
  simp
  omega

abbrev encK (xs : List KV) (i : Fin xs.length) : Array Value := #[.int .i64 (i : Nat), xs[i].agg]

set_option maxHeartbeats 2000000 in
theorem back1_in (F : Fence) (n : Nat) (hf : F.fn 41) (hro : F.round = none) (hn : 1 ≤ n) (l Bs n₀ : Nat) (xs : List KV) (sv : Value) (hl : xs.length ≤ 20) (hb : Bs < n₀) (hsv : ∀ g, sv.ownBlock = some g → g < n₀)
    (J Jx : List (Fin xs.length) → World → Prop)
    (hY : ∀ pre x W, J pre W → pre.length < xs.length → YieldAt F (n - 1) Tryd.prog l (encK xs x) W fun e W' =>
      (e = .returned (.bool true) ∧ J (pre ++ [x]) W' ∧ Below n₀ W W') ∨ (e = .returned (.bool false) ∧ Jx (pre ++ [x]) W'))
    (W : World) (hBs : W.cell? ⟨Bs, 0, none⟩ = some sv) (hO : Row W sv xs.length 10 (kcells xs)) (h0 : J [] W) :
    CallsIn F n Tryd.prog 41 #[.func (.yield l) #[] #[], .pointer (some ⟨Bs, 0, none⟩)] W fun e W' => (∃ v, e = .returned v) ∧
      ((∃ ys, ys = backs xs.length ∧ J ys W') ∨ (∃ pre, pre <+: backs xs.length ∧ Jx pre W')) := by
  obtain ⟨A, c, rfl, hc, hcm⟩ := hO.form
  refine callsIn_of_wp Tryd.func41 rfl hf ?_ hro
  simp only [Tryd.ntmps41, List.size_toArray, List.length_cons, List.length_nil, Nat.reduceAdd, Nat.reduceSub, Array.replicate_succ, Array.replicate_zero, List.push_toArray, List.append_toArray, List.nil_append, List.cons_append]
  gi_wp2
  gi_loopw [3] (fun i wr => ∃ k j : Nat, k + j = xs.length ∧ i = .int .i64 ((j : Int) - 1) ∧ J ((backs xs.length).take k) wr ∧ Below n₀ W wr)
    (fun i _ => (intOf i + 1).toNat)
  case atStart => exact ⟨0, xs.length, by omega, rfl, by simpa using h0, Below.refl _ _⟩
  case round =>
    obtain ⟨k, j, hk, rfl, hJs, hnx⟩ := hrel
    have hBs' : wr.cell? ⟨Bs, 0, none⟩ = some (.slice A xs.length c) := (hnx.cell (p := ⟨Bs, 0, none⟩) hb).trans hBs
    rcases j with _ | j
    · gi_wp2
      go_end0
      refine ⟨⟨_, rfl⟩, .inl ⟨_, rfl, ?_⟩⟩
      rwa [List.take_of_length_le (by rw [backs_length]; omega)] at hJs
    · have hj : j < xs.length := by omega
      obtain ⟨g, o, hA, hcell⟩ : ∃ g o, A = some ⟨g, o, none⟩ ∧ ∀ i (hi : i < xs.length) q, q < 10 → W.cell? ⟨g, o + i * 10 + q, none⟩ = xs[i].cells[q]? := by
        obtain ⟨_, g, o, c', hs, _, _, hcell⟩ := hO.kept (by omega)
        injection hs with hA
        exact ⟨g, o, hA, hcell⟩
      subst hA
      have hg : g < n₀ := hsv g rfl
      have hcc : ∀ q u, q < 10 → xs[j].cells[q]? = some u → wr.cell? ⟨g, o + j * 10 + q, none⟩ = some u := fun q u hq hu =>
        (hnx.cell (p := ⟨g, o + j * 10 + q, none⟩) hg).trans ((hcell j hj q hq).trans hu)
      have c0 := hcc 0 _ (by omega) rfl
      have c1 := hcc 1 _ (by omega) rfl
      have c2 := hcc 2 _ (by omega) rfl
      have c3 := hcc 3 _ (by omega) rfl
      have c4 := hcc 4 _ (by omega) rfl
      have c5 := hcc 5 _ (by omega) rfl
      have c6 := hcc 6 _ (by omega) rfl
      have c7 := hcc 7 _ (by omega) rfl
      have c8 := hcc 8 _ (by omega) rfl
      have c9 := hcc 9 _ (by omega) rfl
      rw [Nat.add_zero] at c0
      have hw : ((j + 1 : Nat) : Int) - 1 = (j : Int) := by omega
      rw [hw]
      obtain ⟨fn, tmps, assign, body, hy, hR⟩ := hY _ ⟨j, hj⟩ wr hJs (by rw [List.length_take, backs_length]; omega)
      simp only [encK, Fin.getElem_fin] at hy
      clear hcell hcc hw hY
      gi_wp2
      refine hR.mono ?_
      rintro e W3 (⟨rfl, hJ3, hk3⟩ | ⟨rfl, hJx3⟩)
      · gi_wp2
        go_roundw
        case rel => exact ⟨k + 1, j, by omega, rfl, by rw [backs_take xs.length k j (by omega)]; exact hJ3, hnx.trans hk3⟩
        case measure => simp [intOf]
      · gi_wp2
        refine bodyPost_ret (results_none rfl _ _ _) rfl ?_
        refine ⟨⟨_, rfl⟩, .inr ⟨_, ?_, hJx3⟩⟩
        rw [← backs_take xs.length k j (by omega)]
        exact List.take_prefix _ _

theorem backs_stops (F : Fence) (n : Nat) (hf : F.fn 41) (hro : F.round = none) (hn : 1 ≤ n) (Bs : Nat) (xs : List KV) (sv : Value) (hl : xs.length ≤ 20) (w : World) (hb : Bs < w.heap.size) (hsv : ∀ g, sv.ownBlock = some g → g < w.heap.size)
    (hBs : w.cell? ⟨Bs, 0, none⟩ = some sv) (hO : Row w sv xs.length 10 (kcells xs)) :
    SeqStopsK F n Tryd.prog 41 #[.pointer (some ⟨Bs, 0, none⟩)] (encK xs) (Below w.heap.size) (fun ys => ys = backs xs.length) (fun pre => pre <+: backs xs.length) xs.length w := fun l J Jx W hW _ _ hY h0 =>
  back1_in F n hf hro hn l Bs w.heap.size xs sv hl hb hsv J Jx hY W ((hW.cell (p := ⟨Bs, 0, none⟩) hb).trans hBs) (hO.keep fun g o hg hlt => hW.cell (p := ⟨g, o, none⟩) hlt) h0

theorem backward_spec (A : Option Addr) (N c : Nat) (w : World) (R : Ending → World → Prop) (h : R (.returned (.func (.func 41) #[] #[.pointer (some ⟨w.heap.size, 0, none⟩)])) (w.alloc (.cells #[.slice A N c] 51))) :
    Calls Tryd.prog 24 #[.slice A N c] w R := by
  go_enter Tryd.func24, Tryd.ntmps24
  go_wp2_with (fail)
  exact h
end Go.Proofs.YtekmgamjpjddiaaDoor
