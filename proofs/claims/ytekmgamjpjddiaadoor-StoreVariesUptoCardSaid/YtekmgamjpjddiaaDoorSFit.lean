/- fits: whether a kept reply is one to a request. -/
import Derived.Test.YtekmgamjpjddiaaDoorSFits
namespace Go.Proofs.YtekmgamjpjddiaaDoor
open Go Go.RowKit
set_option maxRecDepth 100000

theorem fits_spec (A1 A2 : Fs) (ns : List ByteArray) (m1 p1 o1 m2 p2 o2 : ByteArray) (f1 b1 f2 b2 rf rb v : Value) (code at_ : Int) (w : World) (R : Ending → World → Prop)
    (hb1 : ∃ A n c, b1 = .slice A n c) (hb2 : ∃ A n c, b2 = .slice A n c) (hrf : ∃ A n c, rf = .slice A n c) (hrb : ∃ A n c, rb = .slice A n c) (hv : Row w v ns.length 1 (ns.map .string)) (hl : ns.length ≤ 2147483648)
    (h1 : Row w f1 A1.length 2 (fcells A1)) (h2 : Row w f2 A2.length 2 (fcells A2)) (hl1 : A1.length ≤ 1048576) (hl2 : A2.length ≤ 1048576)
    (h : ∀ w', Mod None' w w' → R (.returned (.bool ((o1.toList == o2.toList) && (p1.toList == p2.toList) && !(ns.any (differs A1 A2))))) w') :
    Calls Tryd.prog 23 #[.agg #[.string m1, .string p1, .string o1, f1, b1, .int .i64 code, rf, rb, v, .int .i64 at_], .agg #[.string m2, .string p2, .string o2, f2, b2]] w R := by
  obtain ⟨x1, x2, x3, rfl⟩ := hb1
  obtain ⟨y1, y2, y3, rfl⟩ := hb2
  obtain ⟨z1, z2, z3, rfl⟩ := hrf
  obtain ⟨t1, t2, t3, rfl⟩ := hrb
  obtain ⟨B0, c0, rfl, _, _⟩ := hv.form
  obtain ⟨B1, c1, rfl, _, _⟩ := h1.form
  obtain ⟨B2, c2, rfl, _, _⟩ := h2.form
  have hk := (Blk.new w 58 #[.string m1, .string p1, .string o1, .slice B1 A1.length c1, .slice x1 x2 x3, .int .i64 code, .slice z1 z2 z3, .slice t1 t2 t3, .slice B0 ns.length c0, .int .i64 at_]).alloc (.cells #[.string m2, .string p2, .string o2, .slice B2 A2.length c2, .slice y1 y2 y3] 25)
  have hr : Blk ((w.alloc (.cells #[.string m1, .string p1, .string o1, .slice B1 A1.length c1, .slice x1 x2 x3, .int .i64 code, .slice z1 z2 z3, .slice t1 t2 t3, .slice B0 ns.length c0, .int .i64 at_] 58)).alloc (.cells #[.string m2, .string p2, .string o2, .slice B2 A2.length c2, .slice y1 y2 y3] 25)) (w.heap.size + 1) 25 #[.string m2, .string p2, .string o2, .slice B2 A2.length c2, .slice y1 y2 y3] := Blk.at (by simp)
  by_cases ho : (o1.toList == o2.toList) = true
  · by_cases hp : (p1.toList == p2.toList) = true
    · simp only [ho, hp, Bool.true_and] at h
      go_enter Tryd.func23, Tryd.ntmps23
      go_wp2_with (go_at_call 37; refine containsNames_spec A1 A2 ns _ _ _ _ _ _ _ _ _ ((hv.alloc _).alloc _) hl hk hr rfl rfl ((h1.alloc _).alloc _) ((h2.alloc _).alloc _) hl1 hl2 ?_; intro w1 mm1)
      exact (((Mod.refl _ w).alloc _).alloc _).then mm1
    · have hp' : (p1.toList == p2.toList) = false := by simpa using hp
      simp only [ho, hp', Bool.true_and, Bool.false_and, Bool.and_false] at h
      clear hk hr hp
      go_enter Tryd.func23, Tryd.ntmps23
      go_wp2_with (fail)
      exact ((Mod.refl _ w).alloc _).alloc _
  · have ho' : (o1.toList == o2.toList) = false := by simpa using ho
    simp only [ho', Bool.false_and] at h
    clear hk hr ho
    go_enter Tryd.func23, Tryd.ntmps23
    go_wp2_with (fail)
    exact ((Mod.refl _ w).alloc _).alloc _
end Go.Proofs.YtekmgamjpjddiaaDoor
