/- The closure of Put, line.Token, the names in a vary. -/
import Derived.Test.YtekmgamjpjddiaaDoorSDel
import Derived.Shelf.Strings.SlTrimAscii
namespace Go.Proofs.YtekmgamjpjddiaaDoor
open Go Go.RowKit
set_option maxRecDepth 100000

/-- whether a kept reply is one to a request -/
def fitsB (x : KV) (o p : ByteArray) (l : Fs) : Bool := (x.o.toList == o.toList) && (x.p.toList == p.toList) && !(x.vary.any (differs x.fs l))

theorem put1_spec (x : KV) (m p o : ByteArray) (l : Fs) (rb : Nat) (f b : Value) (w : World) (R : Ending → World → Prop) (hx : KOk w x) (hr : Blk w rb 25 #[.string m, .string p, .string o, f, b])
    (hf : Row w f l.length 2 (fcells l)) (hb : ∃ A n c, b = .slice A n c) (hl : l.length ≤ 1048576) (h : ∀ w', Mod None' w w' → R (.returned (.bool (fitsB x o p l))) w') :
    Calls Tryd.prog 22 #[x.agg, .pointer (some ⟨rb, 0, none⟩)] w R := by
  obtain ⟨xm, xp, xo, xfs, xcode, xrfs, xbody, xvary, xat, xf, xrf, xrb, xv⟩ := x
  have hxf := hx.f.row
  have hxv := hx.v.row
  have hxl := hx.sf.1
  have hxvl := hx.sv
  obtain ⟨A1, d1, hf1, _⟩ := hx.f.form
  obtain ⟨A2, d2, hf2, _⟩ := hx.rf.form
  obtain ⟨A3, d3, hf3, _⟩ := hx.rb.form
  obtain ⟨A4, d4, hf4, _⟩ := hx.v.form
  obtain ⟨B1, e1, hf5, _⟩ := hf.form
  obtain ⟨B2, n2, e2, rfl⟩ := hb
  dsimp only at hf1 hf2 hf3 hf4
  subst hf1 hf2 hf3 hf4 hf5
  dsimp only at hxf hxv hxl hxvl
  simp only [fitsB] at h
  have c0 := (hr.alloc (.cells #[.string xm, .string xp, .string xo, .slice A1 (List.length xfs) d1, .slice none 0 0, .int .i64 xcode, .slice A2 (List.length xrfs) d2, .slice A3 xbody.length d3, .slice A4 xvary.length d4, .int .i64 xat] 58)).cell
  have hlt := hr.lt
  clear hx hr
  go_enter Tryd.func22, Tryd.ntmps22
  go_wp2_with (go_at_call 23; refine fits_spec xfs l xvary xm xp xo m p o _ _ _ _ _ _ _ xcode xat _ _ ⟨_, _, _, rfl⟩ ⟨_, _, _, rfl⟩ ⟨_, _, _, rfl⟩ ⟨_, _, _, rfl⟩ (hxv.alloc _) (by omega) (hxf.alloc _) (hf.alloc _) hxl hl ?_; intro w1 m1)
  exact ((Mod.refl _ w).alloc _).then m1

/-- what a token is -/
def tokSet : List UInt8 := [97, 98, 99, 100, 101, 102, 103, 104, 105, 106, 107, 108, 109, 110, 111, 112, 113, 114, 115, 116, 117, 118, 119, 120, 121, 122, 48, 49, 50, 51, 52, 53, 54, 55, 56, 57, 45, 95, 65, 66, 67, 68, 69, 70, 71, 72, 73, 74, 75, 76, 77, 78, 79, 80, 81, 82, 83, 84, 85, 86, 87, 88, 89, 90]
def tokenB (s : ByteArray) : Bool := !s.toList.isEmpty && decide ((s.size : Int) ≤ 400) && (Lib.trimS s.data.toList tokSet).isEmpty
theorem trim_spec (s : ByteArray) (w : World) (R : Ending → World → Prop) (hs : s.size ≤ 9223372036854775807)
    (h : ∀ w', Mod None' w w' → R (.returned (.string ⟨(Lib.trimS s.data.toList tokSet).toArray⟩)) w') :
    Calls Tryd.prog 35 #[.string s, .string ⟨tokSet.toArray⟩] w R := by
  refine (Any.strings_Trim_laid Tryd.lays160 (by kernel_rfl) s ⟨tokSet.toArray⟩ w hs (by decide) (ascii_of_all (by decide))).mono ?_
  rintro e w' ⟨rfl, hb⟩
  exact h _ (Mod.of_below hb)
theorem token_spec (s : ByteArray) (w : World) (R : Ending → World → Prop) (hs : s.size ≤ 1048576) (h : ∀ w', Mod None' w w' → R (.returned (.bool (tokenB s))) w') :
    Calls Tryd.prog 20 #[.string s] w R := by
  unfold tokenB at h
  by_cases h0 : s.toList = []
  · have h1 : (!s.toList.isEmpty) = false := by simp [h0]
    simp only [h1, Bool.false_and] at h
    go_enter Tryd.func20, Tryd.ntmps20
    go_wp2_with (fail)
    exact Mod.refl _ _
  · have h1 : (!s.toList.isEmpty) = true := by simp [h0]
    by_cases h2 : (s.size : Int) ≤ 400
    · have h3 : decide ((s.size : Int) ≤ 400) = true := by simp; omega
      simp only [h1, h3, Bool.true_and] at h
      go_enter Tryd.func20, Tryd.ntmps20
      go_wp2_with (go_at_call 35; refine trim_spec s _ _ (by omega) ?_; intro w1 m1)
      all_goals exact m1
    · have h3 : decide ((s.size : Int) ≤ 400) = false := by simp; omega
      simp only [h1, h3, Bool.true_and, Bool.false_and] at h
      go_enter Tryd.func20, Tryd.ntmps20
      go_wp2_with (fail)
      exact Mod.refl _ _
end Go.Proofs.YtekmgamjpjddiaaDoor
