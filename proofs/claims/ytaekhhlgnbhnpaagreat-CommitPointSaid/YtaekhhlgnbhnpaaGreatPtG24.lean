import Derived.Test.YtaekhhlgnbhnpaaGreatPtG23
import Derived.Test.YtaekhhlgnbhnpaaGreatPtcG19
import Derived.Deep.Strs
set_option linter.unusedVariables false
set_option linter.unusedSimpArgs false
set_option maxRecDepth 100000
namespace Go.Proofs.YtaekhhlgnbhnpaaGreat
open Go Go.Tw Go.Proofs
open Go.ChangeShapes Go.WideShapes Go.ChangeAt Go.RowKit Go.Deep
section
variable {H : Type} {enc : TypeId × Value → H} {W : World} {r : Reach} {b0 : Nat} {v : Value} {d : DataW H} {p : List MemPlace}
theorem open_refs {cs : List Value} {fuel : Nat} {x : DataW H × List MemPlace} (h : DataW.trod enc Tryz.prog W 0 (fun _ => true) true fuel 31 cs = some x) :
   ∃ (u : Value) (av : AV) (l : List RefI) (y : List AV), cs = [u] ∧ VR Tryz.prog W (allI W) noneR av u ∧ RdSl av l.length (refsA l ++ y) ∧ l.length ≤ 9223372036854775807 := by
 obtain ⟨u, av, l, y, h1, h2, h3, h4, h5, _⟩ := open_cs (α := RefI) (fun b avs => avs = [intV b.1, intV b.2]) 2 (by decide) Tryz.underlying31 (by kernel_rfl) (fun n cs x hx => by
   obtain ⟨y0, y1, m, _, hl, g0, g1⟩ := trod_struct2 Tryz.underlying67 hx
   have hi1 : Tryz.prog.cellsOf 3 = 1 := by kernel_rfl
   have hl2 : cs.length = 2 := hl.trans (by kernel_rfl)
   match cs, hl2 with
   | [c0, c1], _ =>
     rw [hi1] at g0 g1
     obtain ⟨a0, q0, _, _⟩ := DataW.trod_int Tryz.underlying3 g0
     obtain ⟨a1, q1, _, _⟩ := DataW.trod_int Tryz.underlying3 g1
     simp at q0 q1
     subst q0 q1
     refine ⟨(a0, a1), [intV a0, intV a1], rfl, fun c hc => ?_, rfl, ⟨_, rfl, rfl⟩, ⟨_, rfl, rfl⟩, trivial⟩
     simp at hc
     rcases hc with rfl | rfl <;> rfl) h
 refine ⟨u, av, l.map (·.1), y, h1, h2, ?_, by have : l.length ≤ maxLen := h5; unfold maxLen at this; simpa using this⟩
 rw [List.length_map]
 have e : l.flatMap (·.2) = refsA (l.map (·.1)) := by
   unfold refsA
   rw [List.flatMap_map]
   have : ∀ (l : List (RefI × List AV)), (∀ a ∈ l, a.2 = [intV a.1.1, intV a.1.2]) → l.flatMap (·.2) = l.flatMap fun a => [intV a.1.1, intV a.1.2] := by
     intro l
     induction l with
     | nil => intro _; rfl
     | cons a l ih => intro h; rw [List.flatMap_cons, List.flatMap_cons, h a (by simp), ih fun b hb => h b (by simp [hb])]
   exact this l fun a ha => (h4 a ha).1
 rw [e] at h3
 exact h3
theorem open_desc (hv : Value.okWide Tryz.prog W r b0 33 v) (h : DataW.Trod enc Tryz.prog W 0 (fun _ => true) true 33 v d p) :
   ∃ (len dep : Int) (av : AV) (l : List RefI) (y : List AV), VR Tryz.prog W (allI W) noneR (.agg [intV len, intV dep, av]) v ∧ RdSl av l.length (refsA l ++ y) ∧ l.length ≤ 9223372036854775807 := by
 obtain ⟨cs, rfl, hsz⟩ := okWide_struct Tryz.underlying33 hv
 obtain ⟨fuel, hf⟩ := h
 have hc3 : Tryz.prog.cellsOf 33 = 3 := by kernel_rfl
 have hc1 : Tryz.prog.cellsOf 31 = 1 := by kernel_rfl
 have hi1 : Tryz.prog.cellsOf 3 = 1 := by kernel_rfl
 rw [hc3] at hsz
 obtain ⟨cs⟩ := cs
 have hl3 : cs.length = 3 := by simpa using hsz
 match cs, hl3 with
 | [c0, c1, c2], _ =>
   obtain ⟨y0, y1, y2, n, _, _, g0, g1, g2⟩ := trod_struct3 Tryz.underlying33 hf
   simp only [Value.cells] at g0 g1 g2
   rw [hi1] at g0 g1
   rw [hc1] at g2
   obtain ⟨a0, q0, _, _⟩ := DataW.trod_int Tryz.underlying3 g0
   obtain ⟨a1, q1, _, _⟩ := DataW.trod_int Tryz.underlying3 g1
   simp at q0 q1
   obtain ⟨u, av, l, y, k1, k2, k3, k4⟩ := open_refs g2
   obtain rfl : c2 = u := by simpa using k1
   subst q0 q1
   refine ⟨a0, a1, av, l, y, ?_, k3, k4⟩
   simp only [intV, VR, VRs]
   refine ⟨_, rfl, rfl, fun c hc => ?_, ⟨_, rfl, rfl⟩, ⟨_, rfl, rfl⟩, ⟨_, rfl, k2⟩, trivial⟩
   simp at hc
   rcases hc with rfl | rfl | rfl
   · rfl
   · rfl
   · exact rd_one k3
end
end Go.Proofs.YtaekhhlgnbhnpaaGreat