import Derived.Test.YtaekhhlgnbhnpaaGreatPtcG14
import Derived.Test.YtaekhhlgnbhnpaaGreatPtcG20
import Derived.Test.YtaekhhlgnbhnpaaGreatPtcG12
import Derived.Test.YtaekhhlgnbhnpaaGreatPtcG13
import Derived.Test.YtaekhhlgnbhnpaaGreatRows
import Derived.ProofKit
import Derived.OpenShut
import Derived.Lib.SmallJoins
import Derived.Deep.Fields
import Derived.ChangeMaps5
set_option linter.unusedVariables false
set_option linter.unusedSimpArgs false
set_option maxRecDepth 100000
namespace Go.Proofs.YtaekhhlgnbhnpaaGreat
open Go Go.Tw Go.Proofs
open Go.ChangeShapes Go.WideShapes Go.ChangeAt Go.RowKit Go.Deep
section
variable {H : Type} {enc : TypeId × Value → H} {W : World} {r : Reach} {b0 : Nat} {v : Value} {d : DataW H} {p : List MemPlace}
theorem lits_flat {α : Type} {f : α → AV} : ∀ (l : List (α × List AV)), (∀ a ∈ l, a.2 = [f a.1]) → l.flatMap (·.2) = (l.map (·.1)).map f
 | [], _ => rfl
 | a :: l, h => by rw [List.flatMap_cons, h a (by simp), lits_flat l fun b hb => h b (by simp [hb])]; rfl
theorem open_u8s {cs : List Value} {fuel : Nat} {x : DataW H × List MemPlace} (h : DataW.trod enc Tryz.prog W 0 (fun _ => true) true fuel 52 cs = some x) :
   ∃ (u : Value) (av : AV) (l : List UInt8) (y : List AV), cs = [u] ∧ VR Tryz.prog W (allI W) noneR av u ∧ RdSl av l.length (bytesA l ++ y) ∧ l.length ≤ maxLen := by
 obtain ⟨u, av, l, y, h1, h2, h3, h4, h5, _⟩ := open_cs (α := UInt8) (fun b avs => avs = [byteV b]) 1 (by decide) Tryz.underlying52 (by kernel_rfl) (fun n cs x hx => by
   obtain ⟨n, rfl, _, z1⟩ := DataW.trod_int Tryz.underlying5 hx
   refine ⟨UInt8.ofNat n.toNat, [.val (.int .u8 n)], rfl, fun c hc => by simp at hc; subst hc; rfl, ?_, ⟨_, rfl, rfl⟩, trivial⟩
   have : 0 ≤ n ∧ n ≤ 255 := by
     simp [Lit.wf, IntKind.min, IntKind.max, IntKind.signed, IntKind.bits] at z1
     omega
   simp only [byteV, UInt8.toNat_ofNat']
   congr 3
   omega) h
 refine ⟨u, av, l.map (·.1), y, h1, h2, ?_, by simpa using h5⟩
 rw [List.length_map]
 rw [lits_flat l fun a ha => (h4 a ha).1] at h3
 exact h3
theorem open_pairsS (hv : Value.okWide Tryz.prog W r b0 24 v) (h : DataW.Trod enc Tryz.prog W 0 (fun _ => true) true 24 v d p) :
   ∃ (av : AV) (ps : List PairB) (cells : List AV), VR Tryz.prog W (allI W) noneR av v ∧ RowV av ps cells ∧ (ps.length = 0 ∨ ∃ E S, d = .slice E S ∧ E.length = ps.length) := by
 obtain ⟨av, l, y, h2, h3, h4, h5, h6⟩ := open_relS (α := PairB) (fun p avs => ∃ a b xa xb, avs = [a, b] ∧ RdSl a p.1.length (bytesA p.1 ++ xa) ∧ RdSl b p.2.length (bytesA p.2 ++ xb)) 2 (by decide) Tryz.underlying24 (by kernel_rfl) (fun n cs x hx => by
   obtain ⟨xs, m, _, _, hlen, hxl, f⟩ := DataW.trod_array Tryz.underlying131 hx
   have hl : cs.length = 2 := hlen.trans (by kernel_rfl)
   have c1 : Tryz.prog.cellsOf 52 = 1 := by kernel_rfl
   match cs, hl, xs, hxl with
   | [c0, c1'], _, [x0, x1], _ =>
     have f0 := f 0 (by decide)
     have f1 := f 1 (by decide)
     rw [c1] at f0 f1
     obtain ⟨u0, a0, l0, y0, g1, g2, g3, _⟩ := open_u8s f0
     obtain ⟨u1, a1, l1, y1, k1, k2, k3, _⟩ := open_u8s f1
     obtain rfl : c0 = u0 := by simpa using g1
     obtain rfl : c1' = u1 := by simpa using k1
     refine ⟨(l0, l1), [a0, a1], rfl, fun c hc => ?_, ⟨a0, a1, y0, y1, rfl, g3, k3⟩, ⟨_, rfl, g2⟩, ⟨_, rfl, k2⟩, trivial⟩
     simp at hc
     rcases hc with rfl | rfl
     · exact rd_one g3
     · exact rd_one k3) hv h
 refine ⟨av, l.map (·.1), l.flatMap (·.2) ++ y, h2, ⟨?_, fun i q hq => ?_⟩, by rw [List.length_map]; exact h6⟩
 · rw [List.length_map]; exact h3
 · rw [List.getElem?_map, Option.map_eq_some_iff] at hq
   obtain ⟨a, ha, rfl⟩ := hq
   have hil := (List.getElem?_eq_some_iff.1 ha).1
   obtain ⟨⟨a0, b0, xa, xb, e, r1, r2⟩, _⟩ := h4 a (List.mem_of_getElem? ha)
   have hsp : l.flatMap (·.2) ++ y = (l.take i).flatMap (·.2) ++ ([a0, b0] ++ ((l.drop (i + 1)).flatMap (·.2) ++ y)) := by
     have : l = l.take i ++ a :: l.drop (i + 1) := by
       have := List.getElem?_eq_some_iff.1 ha
       rw [← this.2, ← List.drop_eq_getElem_cons, List.take_append_drop]
     conv => lhs; rw [this]
     rw [List.flatMap_append, List.flatMap_cons, e]
     simp
   have htl : ((l.take i).flatMap (·.2)).length = i * 2 := by
     rw [rows_len fun b hb => (h4 b (List.mem_of_mem_take hb)).2, List.length_take]
     congr 1
     omega
   refine ⟨a0, b0, xa, xb, ?_, ?_, r1, r2⟩
   · rw [hsp, List.getElem?_append_right (by omega), htl]
     simp
   · rw [hsp, List.getElem?_append_right (by omega), htl]
     simp
theorem open_pairs (hv : Value.okWide Tryz.prog W r b0 24 v) (h : DataW.Trod enc Tryz.prog W 0 (fun _ => true) true 24 v d p) :
   ∃ (av : AV) (ps : List PairB) (cells : List AV), VR Tryz.prog W (allI W) noneR av v ∧ RowV av ps cells := by
 obtain ⟨av, ps, cells, h1, h2, _⟩ := open_pairsS hv h
 exact ⟨av, ps, cells, h1, h2⟩
theorem open_bools (hv : Value.okWide Tryz.prog W r b0 25 v) (h : DataW.Trod enc Tryz.prog W 0 (fun _ => true) true 25 v d p) :
   ∃ (av : AV) (l : List Bool) (y : List AV), VR Tryz.prog W (allI W) noneR av v ∧ RdSl av l.length (boolsA l ++ y) := by
 obtain ⟨av, l, y, h2, h3, h4, h5⟩ := open_rel (α := Bool) (fun b avs => avs = [boolV b]) 1 (by decide) Tryz.underlying25 (by kernel_rfl) (fun n cs x hx => by
   obtain ⟨b, rfl, z1⟩ := DataW.trod_bool Tryz.underlying4 hx
   exact ⟨b, [boolV b], rfl, fun c hc => by simp at hc; subst hc; rfl, rfl, ⟨_, rfl, rfl⟩, trivial⟩) hv h
 refine ⟨av, l.map (·.1), y, h2, ?_⟩
 rw [List.length_map]
 rw [lits_flat l fun a ha => (h4 a ha).1] at h3
 exact h3
end
end Go.Proofs.YtaekhhlgnbhnpaaGreat