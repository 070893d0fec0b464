/- Proved here: tolllaw3.StoreTells returns true and leaves its arguments as they were (what is told was answered). Conditions: the arguments are together of bulk at most 1048576 ('uptoBulk' of the rows), the listed package variables hold what the program's text lays (the card ties that). -/
import Derived.Test.YtekmgamjpjddiaaDoorCards
import Derived.Test.YtekmgamjpjddiaaDoorTie
import Derived.Test.YtekmgamjpjddiaaDoorSTells
import Derived.Test.YtekmgamjpjddiaaDoorSOpen
import Derived.SevenTiedAt
namespace Go.Proofs.YtekmgamjpjddiaaDoor
open Go Go.Joins Go.ChangeShapes Go.WideShapes Go.ChangeAt Go.RowKit Go.Deep
set_option linter.unusedVariables false

theorem own : ownKnob Tryd.prog.godebug = none := by kernel_rfl
theorem laidOut : laidOutB Tryd.prog = true := by kernel_rfl

theorem laid_plain {l : List (String × DataW Unit)} {W : World} (h : laidMetH Tryd.prog l W) (hn : (l.filter fun x => x.2.handleName?.isSome) = []) : laidMet Tryd.prog l W := by
  unfold laidMetH at h
  rw [hn] at h
  exact h
theorem star : "*" ++ "errors.errorString" = "*errors.errorString" := by decide
theorem rowErr (u : TypeId) (h : Tryd.prog.typeName? 3 u = some "*errors.errorString") : u = 118 :=
  typeName_ptr_named (nm := "errors.errorString") (by rw [star]; kernel_rfl) (by kernel_rfl) (by decide) u (by rw [star]; exact h)
theorem glob_of {W : World} (h : laidMetH Tryd.prog Rows.storeTellsRow.laid W) (hsh : W.ShapedOpen Tryd.prog) : Glob W := by
  have hm : ∃ m, W.cell? ⟨3, 0, none⟩ = some (.int .i64 m) :=
    cell_of_shapedOpen_int (zero := #[.int .i64 0]) (t := 3) hsh (of_decide_eq_true (by kernel_rfl)) (by kernel_rfl) rfl (by kernel_rfl) (by kernel_rfl) Tryd.underlying3
  have hlow : 12 ≤ W.heap.size := by
    obtain ⟨o, _, ho, _⟩ := hsh.2 11 (of_decide_eq_true (by kernel_rfl)) (of_decide_eq_true (by kernel_rfl))
    exact (Array.getElem?_eq_some_iff.1 ho).1
  have htab : Lib.TabIs Tryd.prog W "internal/strconv.uint64pow10" .u64 Lib.pow10Tab := by
    have h1 := laid_plain (h.filter fun x => x.1 == "internal/strconv.uint64pow10") (by kernel_rfl)
    exact Lib.tabIs_of_head (rest := []) (g := 2) (t := 123) (e := 98) (by kernel_rfl) (by kernel_rfl) Tryd.underlying123 Tryd.underlying98 (by kernel_rfl) (by kernel_rfl) h1
  have sent : ∀ (n : String) (g : Nat) (text : List UInt8), Tryd.prog.globalNamed n = some g → (Tryd.prog.globals[g]?).map (·.type) = some 35 → laidMet Tryd.prog [(n, .iface "*errors.errorString" (.ptr (.agg [.lit (.string text)])))] W → ∃ t p, W.cell? ⟨g, 0, none⟩ = some (.iface t p) := fun n g text hg ht hl => by
    obtain ⟨a, s, hv, _⟩ := laid_sentinel hl hg ht Tryd.underlying35 rowErr Tryd.underlying118 Tryd.underlying120 rfl rfl Tryd.underlying9 (by kernel_rfl) (by kernel_rfl)
    exact ⟨_, _, by simpa using World.var?_cell hg hv 0⟩
  exact ⟨hm, htab, sent "strconv.ErrSyntax" 0 _ (by kernel_rfl) (by kernel_rfl) (laid_plain (h.filter fun x => x.1 == "strconv.ErrSyntax") (by kernel_rfl)), sent "strconv.ErrRange" 1 _ (by kernel_rfl) (by kernel_rfl) (laid_plain (h.filter fun x => x.1 == "strconv.ErrRange") (by kernel_rfl)), hlow⟩

theorem tells_all (m p o : ByteArray) (rf rb af ab pv : Value) (code now later : Int) (fs l : Fs) (body : List UInt8) (paths : List ByteArray) (w : World) (R : Ending → World → Prop) (hG : Glob w)
    (hr : Row w rf fs.length 2 (fcells fs)) (hv : Row w af l.length 2 (fcells l)) (hb : Bytes w ab body) (hpv : Row w pv paths.length 1 (paths.map .string)) (hrb : ∃ A n c, rb = .slice A n c) (hfs : Small fs) (hs : Small l) (hlb : body.length ≤ 1048576) (hpl : paths.length ≤ 1048576)
    (hR : ∀ w', Mod None' w w' → R (.returned (.bool true)) w') :
    Calls Tryd.prog 3 #[.agg #[.string m, .string p, .string o, rf, rb], .agg #[.int .i64 code, af, ab], .int .i64 now, .int .i64 later, pv] w R := by
  by_cases hrange : 0 ≤ now ∧ now ≤ 100000 ∧ 0 ≤ later ∧ later ≤ 100000
  · by_cases hk : m.toList = [71, 69, 84] ∧ code = 200 ∧ lifeOf l ≠ 0
    · obtain ⟨hget, rfl, hlf⟩ := hk
      exact tells_kept m p o rf rb af ab pv now later fs l body paths w R hG hrange.1 hrange.2.1 hrange.2.2.1 hrange.2.2.2 hr hv hb hpv hrb hfs hs hlb hpl hget (by simpa using hlf) hR
    · exact tells_no m p o rf rb af ab pv now later fs l body paths code w R hG hrange.1 hrange.2.1 hrange.2.2.1 hrange.2.2.2 hr hv hb hpv hrb hfs hs hlb hpl hk hR
  · obtain ⟨Ar, cr, rfl, _, _⟩ := hr.form
    obtain ⟨Av, cv, rfl, _, _⟩ := hv.form
    obtain ⟨Ab, cb, rfl, _, _⟩ := hb.form
    obtain ⟨Ap, cp, rfl, _, _⟩ := hpv.form
    obtain ⟨Abb, nbb, cbb, rfl⟩ := hrb
    exact tells_out m p o Ar Av Ab Abb Ap _ _ _ _ _ _ _ _ _ _ code now later w R hG hrange hR

set_option maxRecDepth 100000 in
/-- a request that came in -/
theorem open_request {H : Type} {enc : TypeId × Value → H} {W : World} {base : Nat} {v : Value} {d : DataW H} {ps : List MemPlace} (hv : Value.okWide Tryd.prog W .any base 25 v) (h : DataW.Trod enc Tryd.prog W 0 (fun _ => true) true 25 v d ps) :
    ∃ (m p o : ByteArray) (rf rb : Value) (fs : Fs) (body : List UInt8), v = .agg #[.string m, .string p, .string o, rf, rb] ∧ Row W rf fs.length 2 (fcells fs) ∧ Bytes W rb body ∧ fs.length ≤ Rows.uptoBulk d ∧ (∀ y ∈ fs, y.1.size ≤ Rows.uptoBulk d ∧ y.2.size ≤ Rows.uptoBulk d) := by
  obtain ⟨v0, v1, v2, v3, v4, y0, y1, y2, y3, y4, n, rfl, rfl, _, h0, h1, h2, h3, h4⟩ := open_agg5 Tryd.underlying25 (by kernel_rfl) (by kernel_rfl) hv h
  obtain ⟨m, hm, rfl, _⟩ := DataW.trod_string Tryd.underlying9 h0
  obtain ⟨p, hp, rfl, _⟩ := DataW.trod_string Tryd.underlying9 h1
  obtain ⟨o, ho, rfl, _⟩ := DataW.trod_string Tryd.underlying9 h2
  obtain ⟨fs, hfs, hfl, hfy⟩ := open_fields h3
  obtain ⟨body, hb, _⟩ := open_bytes h4
  simp only [List.cons.injEq, and_true] at hm hp ho
  subst hm hp ho
  have hle : Rows.uptoBulk y3.1 ≤ Rows.uptoBulk (DataW.agg [DataW.lit (.string m.data.toList), DataW.lit (.string p.data.toList), DataW.lit (.string o.data.toList), y3.1, y4.1]) := by
    rw [bulk_agg]
    have := part_le (d := y3.1) (l := [DataW.lit (.string m.data.toList), DataW.lit (.string p.data.toList), DataW.lit (.string o.data.toList), y3.1, y4.1]) (by simp)
    omega
  dsimp only
  exact ⟨m, p, o, v3, v4, fs, body, rfl, hfs, hb, by omega, fun y hy => ⟨Nat.le_trans (hfy y hy).1 hle, Nat.le_trans (hfy y hy).2 hle⟩⟩
set_option maxRecDepth 100000 in
/-- a reply that came in -/
theorem open_reply {H : Type} {enc : TypeId × Value → H} {W : World} {base : Nat} {v : Value} {d : DataW H} {ps : List MemPlace} (hv : Value.okWide Tryd.prog W .any base 27 v) (h : DataW.Trod enc Tryd.prog W 0 (fun _ => true) true 27 v d ps) :
    ∃ (code : Int) (af ab : Value) (l : Fs) (body : List UInt8), v = .agg #[.int .i64 code, af, ab] ∧ Row W af l.length 2 (fcells l) ∧ Bytes W ab body ∧ l.length ≤ Rows.uptoBulk d ∧ (∀ y ∈ l, y.1.size ≤ Rows.uptoBulk d ∧ y.2.size ≤ Rows.uptoBulk d) ∧ body.length ≤ Rows.uptoBulk d := by
  obtain ⟨v0, v1, v2, y0, y1, y2, n, rfl, rfl, _, h0, h1, h2⟩ := open_agg3 Tryd.underlying27 (by kernel_rfl) (by kernel_rfl) hv h
  obtain ⟨c, hc, rfl, _⟩ := DataW.trod_int Tryd.underlying3 h0
  obtain ⟨l, hl, hll, hly⟩ := open_fields h1
  obtain ⟨body, hb, hbl⟩ := open_bytes h2
  simp only [List.cons.injEq, and_true] at hc
  subst hc
  have e1 := part_le (d := y1.1) (l := [DataW.lit (.int .i64 c), y1.1, y2.1]) (by simp)
  have e2 := part_le (d := y2.1) (l := [DataW.lit (.int .i64 c), y1.1, y2.1]) (by simp)
  have e3 := bulk_agg [DataW.lit (.int .i64 c), y1.1, y2.1]
  dsimp only
  exact ⟨c, v1, v2, l, body, rfl, hl, hb, by omega, fun y hy => ⟨by have := (hly y hy).1; omega, by have := (hly y hy).2; omega⟩, by omega⟩

noncomputable def laidWorld (os : Os) : World := World.laidAll Tryd.prog os Rows.storeTellsRow.laid
abbrev wargs : Array Value := #[.agg #[.string ByteArray.empty, .string ByteArray.empty, .string ByteArray.empty, .slice none 0 0, .slice none 0 0], .agg #[.int .i64 0, .slice none 0 0, .slice none 0 0], .int .i64 0, .int .i64 0, .slice none 0 0]
theorem laid_met (os : Os) : laidMet Tryd.prog Rows.storeTellsRow.laid ((laidWorld os).forCall (fun _ _ => 0) ⟨#[], wargs, []⟩).memory :=
  laidMet_laidAll _ (by kernel_rfl) (by kernel_rfl)
abbrev wdata (H : Type) : List (DataW H) := [.agg [.lit (.string []), .lit (.string []), .lit (.string []), .nil, .nil], .agg [.lit (.int .i64 0), .nil, .nil], .lit (.int .i64 0), .lit (.int .i64 0), .nil]
theorem reads (os : Os) {H : Type} (enc : TypeId × Value → H) : ∃ places, DataW.whole enc Tryd.prog ((laidWorld os).forCall (fun _ _ => 0) ⟨#[], wargs, []⟩).memory Tryd.f3.params.toList Rows.storeTellsSpec.vars false wargs.toList 8 = some (wdata H, [], places) :=
  ⟨[], by kernel_rfl⟩

set_option maxRecDepth 100000 in
theorem lifted (os : Os) (started : os.Started) (H : Type) (enc : TypeId × Value → H) (F : Stop.Interp) :
    ReturnsInHanded {} Tryd.checked os 3 .any ((Rows.OpenSpec.upto Rows.storeTellsSpec).preRow enc Tryd.prog Tryd.f3 Rows.storeTellsUptoRow.domain false Rows.storeTellsUptoRow.laid) (((Rows.OpenSpec.upto Rows.storeTellsSpec).at F).post enc Tryd.prog Tryd.f3 false true false false) := by
  obtain ⟨places, hx⟩ := reads os enc
  refine returnsInHanded_of_row (C := Tryd.checked) (s := Rows.OpenSpec.upto Rows.storeTellsSpec) own started (by kernel_rfl) Tryd.func3
    (witness_row_at (enc := enc) (C := Tryd.checked) false (laidWorld os) wargs (World.laidAll_os _ _ _) (by kernel_rfl) (by kernel_rfl) (by kernel_rfl)
      (OpenSpec.preRow_of_cond 8 hx (by kernel_rfl) (fun k hk => by cases hk; kernel_rfl) (by kernel_rfl) (laid_met os))) ?_
  intro W base args ds gs before hval0 hW _ hcond _ hL hsh _
  have hk : Rows.uptoSmall H (ds ++ gs) = true := hcond _ rfl
  have hval : ∀ (j : Nat) t v, Tryd.f3.params[j]? = some t → args[j]? = some v → Value.okWide Tryd.prog W .any base t v := hval0
  have hW' := hW
  obtain ⟨p, q, hA0, hV, rfl, hfz, hnd⟩ := hW
  have hA : DataW.TrodAll enc Tryd.prog W 0 (fun _ => true) true Tryd.f3.params.toList args.toList ds p := hA0
  rw [Tryd.params3] at hA hval
  obtain ⟨v0, vs0, d0, ds0, p0, q0, hargs, rfl, rfl, h0, r0⟩ := trodAll_cons hA
  obtain ⟨v1, vs1, d1, ds1, p1, q1, rfl, rfl, rfl, h1, r1⟩ := trodAll_cons r0
  obtain ⟨v2, vs2, d2, ds2, p2, q2, rfl, rfl, rfl, h2, r2⟩ := trodAll_cons r1
  obtain ⟨v3, vs3, d3, ds3, p3, q3, rfl, rfl, rfl, h3, r3⟩ := trodAll_cons r2
  obtain ⟨v4, vs4, d4, ds4, p4, q4, rfl, rfl, rfl, h4, r4⟩ := trodAll_cons r3
  obtain ⟨rfl, rfl, rfl⟩ := trodAll_nil r4
  obtain rfl : args = #[v0, v1, v2, v3, v4] := by cases args; simp_all
  obtain ⟨rfl, rfl⟩ := trodVars_none hV
  have hbulk : Rows.uptoBulkAll ([d0, d1, d2, d3, d4] ++ []) ≤ 1048576 := of_decide_eq_true hk
  have lt : ∀ {t : TypeId} {v : Value} {d : DataW H} {ps : List MemPlace}, DataW.Trod enc Tryd.prog W 0 (fun _ => true) true t v d ps → ∀ x ∈ ps, x.block < W.heap.size := fun h => by obtain ⟨m, hm⟩ := h; exact DataW.trod_lt m _ _ _ hm
  have k0 := h0
  have k1 := h1
  have k4 := h4
  obtain ⟨m, pp, o, rf, rb, fs, rbody, rfl, hr, hrb, hfl, hfy⟩ := open_request (hval 0 25 v0 rfl rfl) h0
  obtain ⟨code, af, ab, l, body, rfl, hv, hb, hll, hly, hbl⟩ := open_reply (hval 1 27 v1 rfl rfl) h1
  obtain ⟨a2, rfl, rfl, rfl, w2⟩ := open_int Tryd.underlying3 (hval 2 3 v2 rfl rfl) h2
  obtain ⟨a3, rfl, rfl, rfl, w3⟩ := open_int Tryd.underlying3 (hval 3 3 v3 rfl rfl) h3
  obtain ⟨a4, len4, cap4, rfl⟩ := okWide_slice Tryd.underlying28 (hval 4 28 v4 rfl rfl)
  obtain ⟨paths, hpv, hpl⟩ : ∃ l : List ByteArray, Row W (.slice a4 len4 cap4) l.length 1 (l.map .string) ∧ l.length ≤ Rows.uptoBulk d4 := by
    obtain ⟨fuel, hf⟩ := h4
    exact open_texts (x := (d4, p4)) hf
  simp only [List.append_nil, Rows.uptoBulkAll] at hbulk
  clear hA0 hval0
  obtain ⟨Ab, nb, cb, hrbe, _, _⟩ : ∃ A n c, rb = .slice A n c ∧ True ∧ True := by obtain ⟨A, c, h, _⟩ := hrb.form; exact ⟨_, _, _, h, trivial, trivial⟩
  refine tells_all m pp o rf rb af ab _ code a2 a3 fs l body paths W _ (glob_of hL hsh) hr hv hb hpv ⟨_, _, _, hrbe⟩ ⟨by omega, fun y hy => ⟨by have := (hfy y hy).1; omega, by have := (hfy y hy).2; omega⟩⟩ ⟨by omega, fun y hy => ⟨by have := (hly y hy).1; omega, by have := (hly y hy).2; omega⟩⟩ (by omega) (by omega) ?_
  intro W' hm
  have bel : Below W.heap.size W W' := hm.below _ (Nat.le_refl _) (fun b f => f.elim)
  have stay : ∀ {t : TypeId} {v : Value} {d : DataW H} {ps : List MemPlace}, Tryd.prog.readableRec t = true → t < Tryd.prog.types.size → DataW.Trod enc Tryd.prog W 0 (fun _ => true) true t v d ps → DataW.Trod enc Tryd.prog W' 0 (fun b => decide (b < W.heap.size)) true t v d ps := fun hr ht h => Below.trod laidOut hr ht h bel (lt h)
  exact ⟨_, rfl, _, _, _, [], _, [], hW', trodAll_mk1 (shut_bool Tryd.underlying4 _), (trodAll_cons_mk (stay (by kernel_rfl) (of_decide_eq_true (by kernel_rfl)) k0) (trodAll_cons_mk (stay (by kernel_rfl) (of_decide_eq_true (by kernel_rfl)) k1) (trodAll_cons_mk (shut_int Tryd.underlying3 w2) (trodAll_cons_mk (shut_int Tryd.underlying3 w3) (trodAll_cons_mk (stay (by kernel_rfl) (of_decide_eq_true (by kernel_rfl)) k4) trodAll_mk0))))), rfl, bel.frame _, fun h => by cases h⟩

theorem saidUpto : Rows.StoreTellsUptoSaid :=
  OpenClaim.holds_of_cond 3 Tryd.f3 rfl rfl rfl rfl rfl rfl rfl ⟨rfl, rfl, rfl, rfl, rfl⟩ rfl rfl rfl rfl rfl (by kernel_rfl) Tryd.func3 (by kernel_rfl)
    (of_decide_eq_true (by kernel_rfl)) (by unfold Func.isWrapper; first | (rw [if_pos (by decide +kernel)]; kernel_rfl) | (rw [if_neg (by decide +kernel)]; exact ⟨rfl, rfl⟩))
    (fun os started H enc _ F => by rw [OpenClaim.pre_eq_preRow]; exact lifted os started H enc F)

theorem plain (f : FuncId) (fn : Func) (hf : Tryd.pinned.checked.prog.funcNamed "tollgate/tolllaw3.StoreTells" = some f) (hfn : Tryd.pinned.checked.prog.funcs[f]? = some fn) :
    true = Tryd.pinned.checked.prog.looks [] ∧ ∀ (j : Nat) t, fn.params[j]? = some t → Tryd.pinned.checked.prog.wantsStandIn t = false := by
  obtain rfl : f = 3 := Option.some.inj ((show Tryd.prog.funcNamed "tollgate/tolllaw3.StoreTells" = some 3 by kernel_rfl).symm.trans hf) |>.symm
  obtain rfl : fn = Tryd.f3 := (Option.some.inj (Tryd.func3.symm.trans hfn)).symm
  refine ⟨by kernel_rfl, fun j t ht => ?_⟩
  rw [Tryd.params3] at ht
  have hm : t ∈ [25, 27, 3, 3, 28] := by simpa using Array.mem_of_getElem? ht
  have hall : ([25, 27, 3, 3, 28].all fun u => !Tryd.prog.wantsStandIn u) = true := by kernel_rfl
  exact (show Tryd.prog.wantsStandIn t = false by simpa using List.all_eq_true.1 hall t hm)

theorem storeTells_proved : Rows.StoreTellsUptoCardSaid :=
  Claim7.holds_tied_plain_at .later [] _ _ _ _ saidUpto (fun _ h => by cases h) (by kernel_rfl) (fun _ h => by cases h) storeTellsUpto_row_tie rfl ⟨rfl, rfl⟩ (by kernel_rfl) rfl plain (by kernel_rfl)
#print axioms storeTells_proved
end Go.Proofs.YtekmgamjpjddiaaDoor
