import Derived.Test.YtaekhhlgnbhnpaaGreatOycG21
import Derived.Test.YtaekhhlgnbhnpaaGreatOycG13
import Derived.Test.YtaekhhlgnbhnpaaGreatOycG14
import Derived.Test.YtaekhhlgnbhnpaaGreatRows
import Derived.ProofKit
import Derived.OpenShut
import Derived.Lib.SmallJoins
import Derived.Deep.Fields
import Derived.ChangeMaps5
set_option linter.unusedVariables false
set_option linter.unusedSimpArgs false
set_option maxRecDepth 100000
namespace Go.Proofs.YtaekhhlgnbhnpaaGreat
open Go Go.Tw Go.Proofs
open Go.ChangeShapes Go.WideShapes Go.ChangeAt Go.RowKit Go.Deep
section
variable {H:Type} {enc:TypeId×Value→H} {W:World} {r:Reach} {b0:Nat} {v:Value} {d:DataW H} {p:List MemPlace}
theorem ag7 {α:Type} {f:α→AV}:∀ (l:List (α×List AV)),(∀ a∈l,a.2=[f a.1])→l.flatMap (·.2)=(l.map (·.1)).map f
 | [],_=>rfl
 | a::l,h=>by rw [List.flatMap_cons,h a (by simp),ag7 l fun b hb=>h b (by simp [hb])];rfl
theorem anI {cs : List Value} {fuel : Nat} {x : DataW H × List MemPlace} (h : DataW.trod enc Tryz.prog W 0 (fun _ => true) true fuel 52 cs = some x) :
   ∃ (u : Value) (av : AV) (l : List UInt8) (y : List AV), cs = [u] ∧ VR Tryz.prog W (qZ W) dG av u ∧ bD av l.length (aQ l ++ y) ∧ l.length ≤ maxLen := by
 obtain ⟨u, av, l, y, h1, h2, h3, h4, h5, _⟩ := aka (α := UInt8) (fun b avs => avs = [aU b]) 1 (by decide) Tryz.underlying52 (by kernel_rfl) (fun n cs x hx => by
   obtain ⟨n, rfl, _, z1⟩ := DataW.trod_int Tryz.underlying5 hx
   refine ⟨UInt8.ofNat n.toNat, [.val (.int .u8 n)], rfl, fun c hc => by simp at hc; subst hc; rfl, ?_, ⟨_, rfl, rfl⟩, trivial⟩
   have : 0 ≤ n ∧ n ≤ 255 := by
     simp [Lit.wf, IntKind.min, IntKind.max, IntKind.signed, IntKind.bits] at z1
     omega
   simp only [aU, UInt8.toNat_ofNat']
   congr 3
   omega) h
 refine ⟨u, av, l.map (·.1), y, h1, h2, ?_, by simpa using h5⟩
 rw [List.length_map]
 rw [ag7 l fun a ha => (h4 a ha).1] at h3
 exact h3
theorem anJ {cs : List Value} {fuel : Nat} {x : DataW H × List MemPlace} (h : DataW.trod enc Tryz.prog W 0 (fun _ => true) true fuel 45 cs = some x) :
   ∃ (u : Value) (av : AV) (L : List (List UInt8)) (cells : List AV), cs = [u] ∧ VR Tryz.prog W (qZ W) dG av u ∧ fT av L cells ∧ (L.length = 0 ∨ ∃ E S, x.1 = .slice E S ∧ E.length = L.length) := by
 obtain ⟨u, av, l, y, h1, h2, h3, h4, h5, h6⟩ := aka (α := List UInt8) (fun b avs => ∃ a x, avs = [a] ∧ bD a b.length (aQ b ++ x)) 1 (by decide) Tryz.underlying45 (by kernel_rfl) (fun n cs x hx => by
   obtain ⟨u, a, l, y, g1, g2, g3, _⟩ := anI hx
   subst g1
   exact ⟨l, [a], rfl, fun c hc => by simp at hc; subst hc; exact bP g3, ⟨a, y, rfl, g3⟩, ⟨_, rfl, g2⟩, trivial⟩) h
 refine ⟨u, av, l.map (·.1), l.flatMap (·.2) ++ y, h1, h2, ⟨by rw [List.length_map]; exact h3, fun i b hb => ?_⟩, by rw [List.length_map]; exact h6⟩
 rw [List.getElem?_map, Option.map_eq_some_iff] at hb
 obtain ⟨a, ha, rfl⟩ := hb
 have hil := (List.getElem?_eq_some_iff.1 ha).1
 obtain ⟨⟨a0, xa, e, r1⟩, _⟩ := h4 a (List.mem_of_getElem? ha)
 have hsp : l.flatMap (·.2) ++ y = (l.take i).flatMap (·.2) ++ ([a0] ++ ((l.drop (i + 1)).flatMap (·.2) ++ y)) := by
   have : l = l.take i ++ a :: l.drop (i + 1) := by
     have := List.getElem?_eq_some_iff.1 ha
     rw [← this.2, ← List.drop_eq_getElem_cons, List.take_append_drop]
   conv => lhs; rw [this]
   rw [List.flatMap_append, List.flatMap_cons, e]
   simp
 have htl : ((l.take i).flatMap (·.2)).length = i := by
   rw [afE fun b hb => (h4 b (List.mem_of_mem_take hb)).2, List.length_take]
   omega
 refine ⟨a0, xa, ?_, r1⟩
 rw [hsp, List.getElem?_append_right (by omega), htl]
 simp
theorem anK (hv : Value.okWide Tryz.prog W r b0 47 v) (h : DataW.Trod enc Tryz.prog W 0 (fun _ => true) true 47 v d p) :
   ∃ (k rr c w : Int) (av : AV) (L : List (List UInt8)) (cells : List AV), VR Tryz.prog W (qZ W) dG (dD k rr c w av) v ∧ fT av L cells ∧ (L.length = 0 ∨ ∃ a E S, d = .agg [a, .slice E S] ∧ E.length = L.length) := by
 obtain ⟨cs, rfl, hsz⟩ := okWide_struct Tryz.underlying47 hv
 obtain ⟨fuel, hf⟩ := h
 have hc5 : Tryz.prog.cellsOf 47 = 5 := by kernel_rfl
 have hc4 : Tryz.prog.cellsOf 23 = 4 := by kernel_rfl
 have hc1 : Tryz.prog.cellsOf 45 = 1 := by kernel_rfl
 have hi1 : Tryz.prog.cellsOf 3 = 1 := by kernel_rfl
 rw [hc5] at hsz
 obtain ⟨cs⟩ := cs
 have hl5 : cs.length = 5 := by simpa using hsz
 match cs, hl5 with
 | [c0, c1, c2, c3, c4], _ =>
   obtain ⟨y0, y1, n, hxd, _, g0, g1⟩ := trod_struct2 Tryz.underlying47 hf
   have e1 : (([c0, c1, c2, c3, c4] : List Value).drop 0).take 4 = [c0, c1, c2, c3] := rfl
   have e2 : (([c0, c1, c2, c3, c4] : List Value).drop 4).take 1 = [c4] := rfl
   simp only [Value.cells] at g0 g1
   rw [hc4, e1] at g0
   rw [hc1, e2] at g1
   obtain ⟨z0, z1, z2, z3, n', _, _, t0, t1, t2, t3⟩ := Go.Joins.trod_struct4 Tryz.underlying23 g0
   rw [hi1] at t0 t1 t2 t3
   obtain ⟨a0, q0, _, _⟩ := DataW.trod_int Tryz.underlying3 t0
   obtain ⟨a1, q1, _, _⟩ := DataW.trod_int Tryz.underlying3 t1
   obtain ⟨a2, q2, _, _⟩ := DataW.trod_int Tryz.underlying3 t2
   obtain ⟨a3, q3, _, _⟩ := DataW.trod_int Tryz.underlying3 t3
   simp at q0 q1 q2 q3
   obtain ⟨u, av, L, cells, k1, k2, k3, k4⟩ := anJ g1
   obtain rfl : c4 = u := by simpa using k1
   subst q0 q1 q2 q3
   refine ⟨a0, a1, a2, a3, av, L, cells, ?_, k3, k4.imp id fun ⟨E, S, q1, q2⟩ => ⟨y0.1, E, S, by rw [(Prod.mk.inj hxd).1, q1], q2⟩⟩
   simp only [dD, aE, VR, bH]
   refine ⟨_, rfl, rfl, fun c hc => ?_, ⟨_, rfl, rfl⟩, ⟨_, rfl, rfl⟩, ⟨_, rfl, rfl⟩, ⟨_, rfl, rfl⟩, ⟨_, rfl, k2⟩, trivial⟩
   simp at hc
   rcases hc with rfl | rfl | rfl | rfl | rfl
   · rfl
   · rfl
   · rfl
   · rfl
   · exact bP k3.rd
theorem anL {ts:List TypeId} {ds:List (DataW H)} (h:(DataW.weightsEach Tryz.prog ts ds).all (·≤reachBytes)=true) {j:Nat} {a:DataW H} {E S:List (DataW H)} (ht:ts[j]? = some 47) (hd:ds[j]? = some (.agg [a,.slice E S])):E.length*24≤140737488355328:=by
 have hb:Tryz.prog.bytesOf 52=24:=by kernel_rfl
 have:=List.all_eq_true.1 h _ (DataW.weights_mem_each ht hd ((E.length+S.length)*Tryz.prog.bytesOf 52) (by simp [DataW.weights,Tryz.underlying47,DataW.weightsEach,Tryz.underlying45]))
 rw [hb] at this
 have h2:reachBytes≤140737488355328:=by decide
 have h3:=of_decide_eq_true this
 omega
end
end Go.Proofs.YtaekhhlgnbhnpaaGreat