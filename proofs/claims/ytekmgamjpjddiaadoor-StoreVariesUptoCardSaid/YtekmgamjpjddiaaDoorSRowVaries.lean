/- Proved here: tolllaw5.StoreVaries returns true and leaves its arguments as they were (what differs is kept apart). Conditions: the arguments are together of bulk at most 1048576 ('uptoBulk' of the rows), the listed package variables hold what the program's text lays (the card ties that). -/
import Derived.Test.YtekmgamjpjddiaaDoorSRowTells
import Derived.Test.YtekmgamjpjddiaaDoorSVaries
namespace Go.Proofs.YtekmgamjpjddiaaDoor
open Go Go.Joins Go.ChangeShapes Go.WideShapes Go.ChangeAt Go.RowKit Go.Deep
open Go.ChangeMaps (open_string shut_string)
set_option linter.unusedVariables false

abbrev wargs2 : Array Value := #[.string ByteArray.empty, .string ByteArray.empty, .string ByteArray.empty]
theorem laid_met2 (os : Os) : laidMet Tryd.prog Rows.storeVariesRow.laid ((laidWorld os).forCall (fun _ _ => 0) ⟨#[], wargs2, []⟩).memory :=
  laidMet_laidAll _ (by kernel_rfl) (by kernel_rfl)
abbrev wdata2 (H : Type) : List (DataW H) := [.lit (.string []), .lit (.string []), .lit (.string [])]
theorem reads2 (os : Os) {H : Type} (enc : TypeId × Value → H) : ∃ places, DataW.whole enc Tryd.prog ((laidWorld os).forCall (fun _ _ => 0) ⟨#[], wargs2, []⟩).memory Tryd.f4.params.toList Rows.storeVariesSpec.vars false wargs2.toList 8 = some (wdata2 H, [], places) :=
  ⟨[], by kernel_rfl⟩

set_option maxRecDepth 100000 in
theorem lifted2 (os : Os) (started : os.Started) (H : Type) (enc : TypeId × Value → H) (F : Stop.Interp) :
    ReturnsInHanded {} Tryd.checked os 4 .any ((Rows.OpenSpec.upto Rows.storeVariesSpec).preRow enc Tryd.prog Tryd.f4 Rows.storeVariesUptoRow.domain false Rows.storeVariesUptoRow.laid) (((Rows.OpenSpec.upto Rows.storeVariesSpec).at F).post enc Tryd.prog Tryd.f4 false true false false) := by
  obtain ⟨places, hx⟩ := reads2 os enc
  refine returnsInHanded_of_row (C := Tryd.checked) (s := Rows.OpenSpec.upto Rows.storeVariesSpec) own started (by kernel_rfl) Tryd.func4
    (witness_row_at (enc := enc) (C := Tryd.checked) false (laidWorld os) wargs2 (World.laidAll_os _ _ _) (by kernel_rfl) (by kernel_rfl) (by kernel_rfl)
      (OpenSpec.preRow_of_cond 8 hx (by kernel_rfl) (fun k hk => by cases hk; kernel_rfl) (by kernel_rfl) (laid_met2 os))) ?_
  intro W base args ds gs before hval0 hW _ hcond _ hL hsh _
  have hk : Rows.uptoSmall H (ds ++ gs) = true := hcond _ rfl
  have hval : ∀ (j : Nat) t v, Tryd.f4.params[j]? = some t → args[j]? = some v → Value.okWide Tryd.prog W .any base t v := hval0
  have hW' := hW
  obtain ⟨p, q, hA0, hV, rfl, hfz, hnd⟩ := hW
  have hA : DataW.TrodAll enc Tryd.prog W 0 (fun _ => true) true Tryd.f4.params.toList args.toList ds p := hA0
  rw [Tryd.params4] at hA hval
  obtain ⟨v0, vs0, d0, ds0, p0, q0, hargs, rfl, rfl, h0, r0⟩ := trodAll_cons hA
  obtain ⟨v1, vs1, d1, ds1, p1, q1, rfl, rfl, rfl, h1, r1⟩ := trodAll_cons r0
  obtain ⟨v2, vs2, d2, ds2, p2, q2, rfl, rfl, rfl, h2, r2⟩ := trodAll_cons r1
  obtain ⟨rfl, rfl, rfl⟩ := trodAll_nil r2
  obtain rfl : args = #[v0, v1, v2] := by cases args; simp_all
  obtain ⟨rfl, rfl⟩ := trodVars_none hV
  obtain ⟨a, rfl, rfl, rfl, wa⟩ := open_string Tryd.underlying9 (hval 0 9 v0 rfl rfl) h0
  obtain ⟨b, rfl, rfl, rfl, wb⟩ := open_string Tryd.underlying9 (hval 1 9 v1 rfl rfl) h1
  obtain ⟨c, rfl, rfl, rfl, wc⟩ := open_string Tryd.underlying9 (hval 2 9 v2 rfl rfl) h2
  have hbulk : Rows.uptoBulkAll ([DataW.lit (H := H) (.string a.data.toList), DataW.lit (.string b.data.toList), DataW.lit (.string c.data.toList)] ++ []) ≤ 1048576 := of_decide_eq_true hk
  simp only [List.append_nil, Rows.uptoBulkAll, bulk_string] at hbulk
  clear hA0 hval0
  refine varies_all a b c W _ (glob_of hL hsh) (by omega) (by omega) (by omega) ?_
  intro W' hm
  have bel : Below W.heap.size W W' := hm.below _ (Nat.le_refl _) (fun b f => f.elim)
  exact ⟨_, rfl, _, _, _, [], _, [], hW', trodAll_mk1 (shut_bool Tryd.underlying4 _), (trodAll_cons_mk (shut_string Tryd.underlying9 wa) (trodAll_cons_mk (shut_string Tryd.underlying9 wb) (trodAll_cons_mk (shut_string Tryd.underlying9 wc) trodAll_mk0))), rfl, bel.frame _, fun h => by cases h⟩

theorem saidUpto2 : Rows.StoreVariesUptoSaid :=
  OpenClaim.holds_of_cond 4 Tryd.f4 rfl rfl rfl rfl rfl rfl rfl ⟨rfl, rfl, rfl, rfl, rfl⟩ rfl rfl rfl rfl rfl (by kernel_rfl) Tryd.func4 (by kernel_rfl)
    (of_decide_eq_true (by kernel_rfl)) (by unfold Func.isWrapper; first | (rw [if_pos (by decide +kernel)]; kernel_rfl) | (rw [if_neg (by decide +kernel)]; exact ⟨rfl, rfl⟩))
    (fun os started H enc _ F => by rw [OpenClaim.pre_eq_preRow]; exact lifted2 os started H enc F)

theorem plain2 (f : FuncId) (fn : Func) (hf : Tryd.pinned.checked.prog.funcNamed "tollgate/tolllaw5.StoreVaries" = some f) (hfn : Tryd.pinned.checked.prog.funcs[f]? = some fn) :
    true = Tryd.pinned.checked.prog.looks [] ∧ ∀ (j : Nat) t, fn.params[j]? = some t → Tryd.pinned.checked.prog.wantsStandIn t = false := by
  obtain rfl : f = 4 := Option.some.inj ((show Tryd.prog.funcNamed "tollgate/tolllaw5.StoreVaries" = some 4 by kernel_rfl).symm.trans hf) |>.symm
  obtain rfl : fn = Tryd.f4 := (Option.some.inj (Tryd.func4.symm.trans hfn)).symm
  refine ⟨by kernel_rfl, fun j t ht => ?_⟩
  rw [Tryd.params4] at ht
  have hm : t ∈ [9, 9, 9] := by simpa using Array.mem_of_getElem? ht
  have hall : ([9, 9, 9].all fun u => !Tryd.prog.wantsStandIn u) = true := by kernel_rfl
  exact (show Tryd.prog.wantsStandIn t = false by simpa using List.all_eq_true.1 hall t hm)

theorem storeVaries_proved : Rows.StoreVariesUptoCardSaid :=
  Claim7.holds_tied_plain_at .later [] _ _ _ _ saidUpto2 (fun _ h => by cases h) (by kernel_rfl) (fun _ h => by cases h) storeVariesUpto_row_tie rfl ⟨rfl, rfl⟩ (by kernel_rfl) rfl plain2 (by kernel_rfl)
#print axioms storeVaries_proved
end Go.Proofs.YtekmgamjpjddiaaDoor
