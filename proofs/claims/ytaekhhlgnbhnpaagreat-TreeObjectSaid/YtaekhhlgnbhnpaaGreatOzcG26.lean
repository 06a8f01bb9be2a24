import Derived.Test.YtaekhhlgnbhnpaaGreatOzcG21
import Derived.Test.YtaekhhlgnbhnpaaGreatOzcG13
import Derived.Test.YtaekhhlgnbhnpaaGreatOzcG14
import Derived.Test.YtaekhhlgnbhnpaaGreatRows
import Derived.ProofKit
import Derived.OpenShut
import Derived.Lib.SmallJoins
import Derived.Deep.Fields
import Derived.ChangeMaps5
import Derived.Test.YtaekhhlgnbhnpaaGreatOzcG25
import Derived.Test.YtaekhhlgnbhnpaaGreatOzcG23
set_option linter.unusedVariables false
set_option linter.unusedSimpArgs false
set_option maxRecDepth 100000
namespace Go.Proofs.YtaekhhlgnbhnpaaGreat
open Go Go.Tw Go.Proofs
open Go.ChangeShapes Go.WideShapes Go.ChangeAt Go.RowKit Go.Deep
section
variable {H:Type} {enc:TypeId×Value→H} {W:World} {r:Reach} {b0:Nat} {v:Value} {d:DataW H} {p:List MemPlace}
theorem aoI {α:Type} {f:α→AV}:∀ (l:List (α×List AV)),(∀ a∈l,a.2=[f a.1])→l.flatMap (·.2)=(l.map (·.1)).map f
 | [],_=>rfl
 | a::l,h=>by rw [List.flatMap_cons,h a (by simp),aoI l fun b hb=>h b (by simp [hb])];rfl
theorem awi {cs : List Value} {fuel : Nat} {x : DataW H × List MemPlace} (h : DataW.trod enc Tryz.prog W 0 (fun _ => true) true fuel 52 cs = some x) :
   ∃ (u : Value) (av : AV) (l : List UInt8) (y : List AV), cs = [u] ∧ VR Tryz.prog W (rP W) dL av u ∧ bC av l.length (aT l ++ y) ∧ l.length ≤ maxLen := by
 obtain ⟨u, av, l, y, h1, h2, h3, h4, h5, _⟩ := akV (α := UInt8) (fun b avs => avs = [aU b]) 1 (by decide) Tryz.underlying52 (by kernel_rfl) (fun n cs x hx => by
   obtain ⟨n, rfl, _, z1⟩ := DataW.trod_int Tryz.underlying5 hx
   refine ⟨UInt8.ofNat n.toNat, [.val (.int .u8 n)], rfl, fun c hc => by simp at hc; subst hc; rfl, ?_, ⟨_, rfl, rfl⟩, trivial⟩
   have : 0 ≤ n ∧ n ≤ 255 := by
     simp [Lit.wf, IntKind.min, IntKind.max, IntKind.signed, IntKind.bits] at z1
     omega
   simp only [aU, UInt8.toNat_ofNat']
   congr 3
   omega) h
 refine ⟨u, av, l.map (·.1), y, h1, h2, ?_, by simpa using h5⟩
 rw [List.length_map]
 rw [aoI l fun a ha => (h4 a ha).1] at h3
 exact h3
theorem awj {cs : List Value} {fuel : Nat} {x : DataW H × List MemPlace} (h : DataW.trod enc Tryz.prog W 0 (fun _ => true) true fuel 45 cs = some x) :
   ∃ (u : Value) (av : AV) (L : List (List UInt8)) (cells : List AV), cs = [u] ∧ VR Tryz.prog W (rP W) dL av u ∧ gI av L cells ∧ (L.length = 0 ∨ ∃ E S, x.1 = .slice E S ∧ E.length = L.length) := by
 obtain ⟨u, av, l, y, h1, h2, h3, h4, h5, h6⟩ := akV (α := List UInt8) (fun b avs => ∃ a x, avs = [a] ∧ bC a b.length (aT b ++ x)) 1 (by decide) Tryz.underlying45 (by kernel_rfl) (fun n cs x hx => by
   obtain ⟨u, a, l, y, g1, g2, g3, _⟩ := awi hx
   subst g1
   exact ⟨l, [a], rfl, fun c hc => by simp at hc; subst hc; exact b6 g3, ⟨a, y, rfl, g3⟩, ⟨_, rfl, g2⟩, trivial⟩) h
 refine ⟨u, av, l.map (·.1), l.flatMap (·.2) ++ y, h1, h2, ⟨by rw [List.length_map]; exact h3, fun i b hb => ?_⟩, by rw [List.length_map]; exact h6⟩
 rw [List.getElem?_map, Option.map_eq_some_iff] at hb
 obtain ⟨a, ha, rfl⟩ := hb
 have hil := (List.getElem?_eq_some_iff.1 ha).1
 obtain ⟨⟨a0, xa, e, r1⟩, _⟩ := h4 a (List.mem_of_getElem? ha)
 have hsp : l.flatMap (·.2) ++ y = (l.take i).flatMap (·.2) ++ ([a0] ++ ((l.drop (i + 1)).flatMap (·.2) ++ y)) := by
   have : l = l.take i ++ a :: l.drop (i + 1) := by
     have := List.getElem?_eq_some_iff.1 ha
     rw [← this.2, ← List.drop_eq_getElem_cons, List.take_append_drop]
   conv => lhs; rw [this]
   rw [List.flatMap_append, List.flatMap_cons, e]
   simp
 have htl : ((l.take i).flatMap (·.2)).length = i := by
   rw [age fun b hb => (h4 b (List.mem_of_mem_take hb)).2, List.length_take]
   omega
 refine ⟨a0, xa, ?_, r1⟩
 rw [hsp, List.getElem?_append_right (by omega), htl]
 simp
theorem awk (hv : Value.okWide Tryz.prog W r b0 47 v) (h : DataW.Trod enc Tryz.prog W 0 (fun _ => true) true 47 v d p) :
   ∃ (k rr c w : Int) (av : AV) (L : List (List UInt8)) (cells : List AV), VR Tryz.prog W (rP W) dL (d5 k rr c w av) v ∧ gI av L cells ∧ (L.length = 0 ∨ ∃ a E S, d = .agg [a, .slice E S] ∧ E.length = L.length) := by
 obtain ⟨cs, rfl, hsz⟩ := okWide_struct Tryz.underlying47 hv
 obtain ⟨fuel, hf⟩ := h
 have hc5 : Tryz.prog.cellsOf 47 = 5 := by kernel_rfl
 have hc4 : Tryz.prog.cellsOf 23 = 4 := by kernel_rfl
 have hc1 : Tryz.prog.cellsOf 45 = 1 := by kernel_rfl
 have hi1 : Tryz.prog.cellsOf 3 = 1 := by kernel_rfl
 rw [hc5] at hsz
 obtain ⟨cs⟩ := cs
 have hl5 : cs.length = 5 := by simpa using hsz
 match cs, hl5 with
 | [c0, c1, c2, c3, c4], _ =>
   obtain ⟨y0, y1, n, hxd, _, g0, g1⟩ := trod_struct2 Tryz.underlying47 hf
   have e1 : (([c0, c1, c2, c3, c4] : List Value).drop 0).take 4 = [c0, c1, c2, c3] := rfl
   have e2 : (([c0, c1, c2, c3, c4] : List Value).drop 4).take 1 = [c4] := rfl
   simp only [Value.cells] at g0 g1
   rw [hc4, e1] at g0
   rw [hc1, e2] at g1
   obtain ⟨z0, z1, z2, z3, n', _, _, t0, t1, t2, t3⟩ := Go.Joins.trod_struct4 Tryz.underlying23 g0
   rw [hi1] at t0 t1 t2 t3
   obtain ⟨a0, q0, _, _⟩ := DataW.trod_int Tryz.underlying3 t0
   obtain ⟨a1, q1, _, _⟩ := DataW.trod_int Tryz.underlying3 t1
   obtain ⟨a2, q2, _, _⟩ := DataW.trod_int Tryz.underlying3 t2
   obtain ⟨a3, q3, _, _⟩ := DataW.trod_int Tryz.underlying3 t3
   simp at q0 q1 q2 q3
   obtain ⟨u, av, L, cells, k1, k2, k3, k4⟩ := awj g1
   obtain rfl : c4 = u := by simpa using k1
   subst q0 q1 q2 q3
   refine ⟨a0, a1, a2, a3, av, L, cells, ?_, k3, k4.imp id fun ⟨E, S, q1, q2⟩ => ⟨y0.1, E, S, by rw [(Prod.mk.inj hxd).1, q1], q2⟩⟩
   simp only [d5, aD, VR, bK]
   refine ⟨_, rfl, rfl, fun c hc => ?_, ⟨_, rfl, rfl⟩, ⟨_, rfl, rfl⟩, ⟨_, rfl, rfl⟩, ⟨_, rfl, rfl⟩, ⟨_, rfl, k2⟩, trivial⟩
   simp at hc
   rcases hc with rfl | rfl | rfl | rfl | rfl
   · rfl
   · rfl
   · rfl
   · rfl
   · exact b6 k3.rd
theorem awl {ts:List TypeId} {ds:List (DataW H)} (h:(DataW.weightsEach Tryz.prog ts ds).all (·≤reachBytes)=true) {j:Nat} {a:DataW H} {E S:List (DataW H)} (ht:ts[j]? = some 47) (hd:ds[j]? = some (.agg [a,.slice E S])):E.length*24≤140737488355328:=by
 have hb:Tryz.prog.bytesOf 52=24:=by kernel_rfl
 have:=List.all_eq_true.1 h _ (DataW.weights_mem_each ht hd ((E.length+S.length)*Tryz.prog.bytesOf 52) (by simp [DataW.weights,Tryz.underlying47,DataW.weightsEach,Tryz.underlying45]))
 rw [hb] at this
 have h2:reachBytes≤140737488355328:=by decide
 have h3:=of_decide_eq_true this
 omega
end
end Go.Proofs.YtaekhhlgnbhnpaaGreat
set_option maxRecDepth 10000
namespace Go.Proofs.YtaekhhlgnbhnpaaGreat
open Go Go.Tw Go.Proofs Go.Gf
theorem awm (i j:Nat) (a kd b:Int):dV Tryz.prog .neq 104 (.tmp i) (.tmp j) (.agg [.val (.int .i64 a),.val (.int .u8 kd),.val (.int .i64 b)]) (.agg [.val (.int .i64 a),.val (.int .u8 kd),.val (.int .i64 b)])=some (.val (.bool false)):=by
 have h:tJ Tryz.prog #[.int .i64 a,.int .u8 kd,.int .i64 b] #[.int .i64 a,.int .u8 kd,.int .i64 b] (xF Tryz.prog 104)=if a=a then (if kd=kd then (if b=b then some true else some false) else some false) else some false:=by kernel_rfl
 rw [if_pos rfl,if_pos rfl,if_pos rfl] at h
 exact (agc (a:=[.val (.int .i64 a),.val (.int .u8 kd),.val (.int .i64 b)]) (b:=[.val (.int .i64 a),.val (.int .u8 kd),.val (.int .i64 b)]) (u:=[.int .i64 a,.int .u8 kd,.int .i64 b]) (v:=[.int .i64 a,.int .u8 kd,.int .i64 b]) rfl rfl (by kernel_rfl) (by kernel_rfl) (by kernel_rfl) h).2
theorem ahI (v v':AV) (l:List bP) (x x':List AV) (hv:bC v l.length (bI l++x)) (hv':bC v' l.length (bI l++x')) (hl:l.length≤1000000):aX Tryz.prog 65 [v,v'] ⟨bB true,[]⟩:=by
 refine bE follows Tryz.func65 (by unfold Tryz.f65;rfl) (by unfold Tryz.f65;simp) aE (by unfold Tryz.f65;simp) (by kernel_rfl) ?_;unfold Tryz.f65
 simp only [↓pre,simprocAttr,aA,sx,agh,aE,aC,aL,hv.len',hv'.len',sr]
 rw [b9]
 refine cA (fun q e m=>∃ i,q+i=l.length∧e 0=v∧e 1=v'∧e 5=aD (i:Nat)) l.length ⟨0,by omega,rfl,rfl,rfl⟩ ?_
 rintro q e m ⟨i,hq,e0,e1,e5⟩
 replace hq:=aB.mk hq
 by_cases hlt:i < l.length
 ·have hlt':((i:Nat):Int) < ((l.length:Nat):Int):=by omega
  have wi:=cI (n:=i) (by omega)
  obtain ⟨y,hy⟩:∃ y,l[i]? = some y:=⟨_,List.getElem?_eq_getElem hlt⟩
  obtain ⟨ha,hb⟩:=qX l x i y hy
  obtain ⟨ht,htl⟩:=nZ ha hb
  obtain ⟨ha',hb'⟩:=qX l x' i y hy
  obtain ⟨ht',htl'⟩:=nZ ha' hb'
  have hrs:=fun p q=>aoH p q y.1 y.2
  replace hy:=aB.mk hy
  simp only [↓pre,simprocAttr,aA,sx,agh,aE,aC,aL,e0,e1,e5,hv.len',hlt',hlt,hv.addr',hv'.addr',ht,htl,ht',htl',hrs,wi,sr]
  exact ⟨q - 1,by have:=hq.out;omega,i+1,by have:=hq.out;omega,rfl⟩
 ·have hlt':¬ ((i:Nat):Int) < ((l.length:Nat):Int):=by omega
  simp only [↓pre,simprocAttr,aA,sx,agh,aE,aC,aL,e0,e1,e5,hv.len',hlt',sr]
theorem awn (v:AV) (l:List gO) (hv:bC v l.length (jY l)) (hl:l.length≤1000000):aX Tryz.prog 66 [v,v] ⟨bB true,[]⟩:=by
 refine bE follows Tryz.func66 (by unfold Tryz.f66;rfl) (by unfold Tryz.f66;simp) aE (by unfold Tryz.f66;simp) (by kernel_rfl) ?_;unfold Tryz.f66
 simp only [↓pre,simprocAttr,aA,sx,agi,aE,aC,aL,hv.len',sr]
 rw [b9]
 refine cA (fun q e m=>∃ i,q+i=l.length∧e 0=v∧e 1=v∧e 5=aD (i:Nat)) l.length ⟨0,by omega,rfl,rfl,rfl⟩ ?_
 rintro q e m ⟨i,hq,e0,e1,e5⟩
 replace hq:=aB.mk hq
 by_cases hlt:i < l.length
 ·have hlt':((i:Nat):Int) < ((l.length:Nat):Int):=by omega
  have wi:=cI (n:=i) (by omega)
  obtain ⟨y,hy⟩:∃ y,l[i]? = some y:=⟨_,List.getElem?_eq_getElem hlt⟩
  obtain ⟨ha,hb,hc⟩:=ae5 l i y hy
  obtain ⟨ht,htl⟩:=aoF ha hb hc
  have hrs:=fun p q=>awm p q y.1 y.2.1 y.2.2
  replace hy:=aB.mk hy
  simp only [↓pre,simprocAttr,aA,sx,agi,aE,aC,aL,e0,e1,e5,hv.len',hlt',hlt,hv.addr',ht,htl,hrs,wi,sr]
  exact ⟨q - 1,by have:=hq.out;omega,i+1,by have:=hq.out;omega,rfl⟩
 ·have hlt':¬ ((i:Nat):Int) < ((l.length:Nat):Int):=by omega
  simp only [↓pre,simprocAttr,aA,sx,agi,aE,aC,aL,e0,e1,e5,hv.len',hlt',sr]
theorem awo (a b:Int) (v v':AV) (l:List bP) (x x':List AV) (hv:bC v l.length (bI l++x)) (hv':bC v' l.length (bI l++x')) (hl:l.length≤1000000):aX Tryz.prog 44 [.agg [aD a,aD b,v],.agg [aD a,aD b,v']] ⟨bB true,[]⟩:=by
 have hs:=ahI v v' l x x' hv hv' hl
 have f1:=cM hv
 have q1:=b6 hv
 have p1:=hv.plain
 have f2:=cM hv'
 have q2:=b6 hv'
 have p2:=hv'.plain
 refine bE follows Tryz.func44 (by unfold Tryz.f44;rfl) (by unfold Tryz.f44;simp) aE (by unfold Tryz.f44;simp) (by kernel_rfl) ?_;unfold Tryz.f44
 simp only [↓pre,simprocAttr,aA,sx,ala,aE,aC,aL,f1,f2,q1,q2,sr]
 refine aM (hs) (by simp only [aA,aV, *]) ?_;simp only [↓pre,simprocAttr,aA,sx,ala,aE,aC,aL,f1,f2,q1,q2,sr]
def t7:Nat→Bool:=fun d=>d != 4 && d != 7
theorem ahJ (k r c w row:Int) (v:AV) (L:List (List UInt8)) (cells:List AV) (hv:gI v L cells):aX Tryz.prog 60 [d5 k r c w v,aD row] ⟨yH k r c w L row,[]⟩:=by
 refine eA ?_
 have hp:=hv.rd.plain
 have hf:=cM hv.rd
 have ho:=b6 hv.rd
 have hck:=avI k r c w row v L cells hv
 unfold d5 at hck ⊢
 by_cases hR:iM k r c w L row=0
 ·have hof:=avK k r c w row v L cells hv hR
  rw [hR] at hck
  unfold yH at hof ⊢
  unfold d5 at hof
  by_cases hE:gM k r c w L row=0
  ·rw [if_pos hE] at hof ⊢
   unfold sW t6 at *
   have r1:=dX (cS (dU k r c w L row)).length (bI (cS (dU k r c w L row)))
   have r2:=dX (g9 k r c w L row).length (bI (g9 k r c w L row))
   have r3:=dX (hU k r c w L row).length (bI (hU k r c w L row))
   generalize bJ (cS (dU k r c w L row)).length (bI (cS (dU k r c w L row)))=DV at *
   generalize bJ (g9 k r c w L row).length (bI (g9 k r c w L row))=LV at *
   generalize bJ (hU k r c w L row).length (bI (hU k r c w L row))=SV at *
   generalize dK (dU k r c w L row)=PL at *
   generalize dQ (dU k r c w L row)=PD at *
   generalize eV k r c w (eW k r w L row)=WI at *
   have s1:=cQ r1
   have s2:=cQ r2
   have s3:=cQ r3
   have o1:=b6 r1
   have o2:=b6 r2
   have o3:=b6 r3
   have hfin:=fun m=>abJ (n:=0) (b8 (.int .i64 PL)) (b8 (.int .i64 PD)) (kD r1) (b8 (.int .i64 WI)) (kD r2) (kD r3) 1 m
   simp only [aD] at hof
   replace hfin:=aB.mk hfin
   refine bZ follows Tryz.func60 (by unfold Tryz.f60;rfl) (by unfold Tryz.f60;simp) t7 (by unfold Tryz.f60;simp) (by kernel_rfl) ?_;unfold Tryz.f60
   simp only [↓pre,simprocAttr,aA,sx,xK,b7,t7,bne,aC,aJ,aK,aG,aH,aZ,aW,aQ,Nat.one_ne_zero,Nat.zero_ne_one,Nat.reduceEqDiff,hf,ho,sr]
   refine aM (hck) (by simp only [aA,aV, *]) ?_;simp only [↓pre,simprocAttr,aA,sx,xK,b7,t7,bne,aC,aJ,aK,aG,aH,aZ,aW,aQ,Nat.one_ne_zero,Nat.zero_ne_one,Nat.reduceEqDiff,hf,ho,s1,s2,s3,o1,o2,o3,sr];refine aM (hof) (by simp only [aA,aV, *]) ?_;simp only [↓pre,simprocAttr,aA,sx,xK,b7,t7,bne,aC,aJ,aK,aG,aH,aZ,aW,aQ,Nat.one_ne_zero,Nat.zero_ne_one,Nat.reduceEqDiff,hf,ho,s1,s2,s3,o1,o2,o3,sr]
   exact ⟨1,hfin.out _⟩
  ·rw [if_neg hE] at hof ⊢
   unfold aag t6 aO at *
   generalize gM k r c w L row=OE at *
   have hfin:=fun m=>abJ (n:=OE) (b8 (.int .i64 0)) (b8 (.int .i64 0)) (b8 (.slice none 0 0)) (b8 (.int .i64 0)) (b8 (.slice none 0 0)) (b8 (.slice none 0 0)) 1 m
   simp only [aD] at hof
   replace hfin:=aB.mk hfin
   refine bZ follows Tryz.func60 (by unfold Tryz.f60;rfl) (by unfold Tryz.f60;simp) t7 (by unfold Tryz.f60;simp) (by kernel_rfl) ?_;unfold Tryz.f60
   simp only [↓pre,simprocAttr,aA,sx,xK,b7,t7,bne,aC,aJ,aK,aG,aH,aZ,aW,aQ,Nat.one_ne_zero,Nat.zero_ne_one,Nat.reduceEqDiff,hf,ho,sr]
   refine aM (hck) (by simp only [aA,aV, *]) ?_;simp only [↓pre,simprocAttr,aA,sx,xK,b7,t7,bne,aC,aJ,aK,aG,aH,aZ,aW,aQ,Nat.one_ne_zero,Nat.zero_ne_one,Nat.reduceEqDiff,hf,ho,sr];refine aM (hof) (by simp only [aA,aV, *]) ?_;simp only [↓pre,simprocAttr,aA,sx,xK,b7,t7,bne,aC,aJ,aK,aG,aH,aZ,aW,aQ,Nat.one_ne_zero,Nat.zero_ne_one,Nat.reduceEqDiff,hf,ho,sr]
   exact ⟨1,hfin.out _⟩
 ·have hE:gM k r c w L row=iM k r c w L row:=by unfold gM;rw [if_neg hR]
  unfold yH
  rw [hE,if_neg hR]
  unfold aag t6 aO
  generalize iM k r c w L row=OE at *
  have hfin:=fun m=>abJ (n:=OE) (b8 (.int .i64 0)) (b8 (.int .i64 0)) (b8 (.slice none 0 0)) (b8 (.int .i64 0)) (b8 (.slice none 0 0)) (b8 (.slice none 0 0)) 1 m
  replace hfin:=aB.mk hfin
  replace hE:=aB.mk hE
  refine bZ follows Tryz.func60 (by unfold Tryz.f60;rfl) (by unfold Tryz.f60;simp) t7 (by unfold Tryz.f60;simp) (by kernel_rfl) ?_;unfold Tryz.f60
  simp only [↓pre,simprocAttr,aA,sx,xK,b7,t7,bne,aC,aJ,aK,aG,aH,aZ,aW,aQ,Nat.one_ne_zero,Nat.zero_ne_one,Nat.reduceEqDiff,hf,ho,sr]
  refine aM (hck) (by simp only [aA,aV, *]) ?_;simp only [↓pre,simprocAttr,aA,sx,xK,b7,t7,bne,aC,aJ,aK,aG,aH,aZ,aW,aQ,Nat.one_ne_zero,Nat.zero_ne_one,Nat.reduceEqDiff,hf,ho,hR,sr]
  exact ⟨1,hfin.out _⟩
structure yI (m:aF) (hd:gO) (v:AV) (pre:List bP):Prop where
 form:(pre=[]∧v = .tree 1 1 [aD hd.1,.val (.int .u8 hd.2.1),aD hd.2.2] true)∨(0 < pre.length∧cY m 104 3 v (1+pre.length) (jY (hd::iR pre)))
theorem yI.fin {m:aF} {hd:gO} {v:AV} {pre:List bP} (h:yI m hd v pre):fzT 0 m v=some (sX (hd::iR pre)):=by
 rcases h.form with ⟨rfl,rfl⟩ | ⟨h0,hown⟩
 ·exact vO
 ·rw [tY hown 0]
  unfold bJ sX
  rw [if_neg (by omega)]
  have:(hd::iR pre).length=1+pre.length:=by rw [List.length_cons,ae6];omega
  rw [this,decide_eq_false (by omega)]
theorem yI.step {m:aF} {hd:gO} {v:AV} {pre:List bP} (h:yI m hd v pre) (x:bP) (hl:pre.length≤1000000) {K:bY→Prop} (hK:∀ lv' m',yI m' hd lv' (pre++[x])→K ⟨lv',m',none⟩):eG (dW Tryz.prog 104 m v (.tree 1 1 [.val (.int .i64 x.1),.val (.int .u8 1),.val (.int .i64 x.2)] true)) K:=by
 have hsr:eZ Tryz.prog 104 3 m (.tree 1 1 [.val (.int .i64 x.1),.val (.int .u8 1),.val (.int .i64 x.2)] true)=some ([.val (.int .i64 x.1),.val (.int .u8 1),.val (.int .i64 x.2)],1):=uD (by simp)
 have hcell:jY (hd::iR (pre++[x]))=jY (hd::iR pre)++[.val (.int .i64 x.1),.val (.int .u8 1),.val (.int .i64 x.2)]:=by
  rw [show hd::iR (pre++[x])=(hd::iR pre)++[(x.1,1,x.2)] by simp [iR],aoz]
  rfl
 rcases h.form with ⟨rfl,rfl⟩ | ⟨h0,hown⟩
 ·have h1:cH Tryz.prog 104=some 3:=by kernel_rfl
  have h2:hY Tryz.prog 104=some 24:=by kernel_rfl
  have h3:eX Tryz.prog 104=some [.int .i64 0,.int .u8 0,.int .i64 0]:=by kernel_rfl
  have h4:bW Tryz.prog 104 = .flat:=by kernel_rfl
  have:dW Tryz.prog 104 m (.tree 1 1 [aD hd.1,.val (.int .u8 hd.2.1),aD hd.2.2] true) (.tree 1 1 [.val (.int .i64 x.1),.val (.int .u8 1),.val (.int .i64 x.2)] true)=some ⟨.sl m.next 0 2 2 false,m.push ⟨[aD hd.1,.val (.int .u8 hd.2.1),aD hd.2.2]++[.val (.int .i64 x.1),.val (.int .u8 1),.val (.int .i64 x.2)],104,.flat,true⟩,none⟩:=by
   simp only [dW,h1,h2,h3,h4,hsr,dR,Option.bind_some]
   simp [bO]
  rw [this]
  refine hK _ _ ⟨.inr ⟨by simp,.inr ⟨m.next,rfl, ?_,by rw [aW];omega,by omega⟩, ?_⟩⟩
  ·rw [aH,if_pos rfl];rfl
  ·rw [aoy];simp [iR]
 ·refine oT (kd := .flat) (sz:=3) (y:=24) (zl:=[.int .i64 0,.int .u8 0,.int .i64 0]) (by kernel_rfl) hown (by kernel_rfl) (by kernel_rfl) (by kernel_rfl) rfl hsr rfl (by omega) (by omega) ?_
  intro lv' m' ho' hn'
  rw [←hcell] at ho'
  exact hK _ _ ⟨.inr ⟨by simp,by rw [List.length_append];exact ho'⟩⟩
theorem take_succ {α:Type} {l:List α} {i:Nat} {x:α} (h:l[i]? = some x):l.take (i+1)=l.take i++[x]:=by
 rw [List.take_add_one,h];rfl
theorem aoJ (a b WI row:Int) (DV LV SV:AV) (D LL SS:List bP) (hD:bC DV D.length (bI D)) (hL:bC LV LL.length (bI LL)) (hS:bC SV SS.length (bI SS)) (h1:LL.length≤10000) (h2:SS.length≤100000):aX Tryz.prog 138 [.agg [aD a,aD b,DV,aD WI,LV,SV],aD row] ⟨sX ((row,2,WI)::iR (LL++SS)),[]⟩:=by
 refine eA ?_
 have f1:=cM hD
 have f2:=cM hL
 have f3:=cM hS
 have q1:=b6 hD
 have q2:=b6 hL
 have q3:=b6 hS
 have p1:=hD.plain
 have p2:=hL.plain
 have p3:=hS.plain
 have hbl:∀ m (a kd b:Int),eY Tryz.prog m 96 1 [(0,.agg [.val (.int .i64 a),.val (.int .u8 kd),.val (.int .i64 b)])]=some ⟨.tree 1 1 [.val (.int .i64 a),.val (.int .u8 kd),.val (.int .i64 b)] true,m,none⟩:=fun m a kd b=>tI (el:=104) (sz:=3) (z:=[.val (.int .i64 0),.val (.int .u8 0),.val (.int .i64 0)]) (by kernel_rfl) (by kernel_rfl) (by kernel_rfl) rfl rfl (by decide)
 have haL:=fun (i:Nat) (x:bP) (hi:LL[i]? = some x)=>qX LL [] i x hi
 have haS:=fun (i:Nat) (x:bP) (hi:SS[i]? = some x)=>qX SS [] i x hi
 rw [List.append_nil] at haL haS
 replace haL:=aB.mk haL
 replace haS:=aB.mk haS
 refine bZ follows Tryz.func138 (by unfold Tryz.f138;rfl) (by unfold Tryz.f138;simp) aE (by unfold Tryz.f138;simp) (by kernel_rfl) ?_;unfold Tryz.f138
 simp only [↓pre,simprocAttr,aA,sx,zB,aE,aC,aL,f1,f2,f3,q1,q2,q3,hbl,sr]
 rw [b9]
 refine cA (fun q e m=>∃ i,q+i=LL.length∧e 2 = .tptr 0 [aD a,aD b,DV,aD WI,LV,SV]∧e 6=aD (i:Nat)∧aB (yI m (row,2,WI) (e 5) (LL.take i))) LL.length ⟨0,by omega,rfl,rfl,⟨⟨.inl ⟨rfl,rfl⟩⟩⟩⟩ ?_
 rintro q e m ⟨i,hq,e2,e6,hJ⟩
 replace hq:=aB.mk hq
 generalize e5:e 5=v5 at *
 by_cases hlt:i < LL.length
 ·have hlt':((i:Nat):Int) < ((LL.length:Nat):Int):=by omega
  have wi:=cI (n:=i) (by omega)
  obtain ⟨x,hx⟩:∃ y,LL[i]? = some y:=⟨_,List.getElem?_eq_getElem hlt⟩
  obtain ⟨ha,hb⟩:=haL.out i x hx
  have hsu:=take_succ hx
  replace hsu:=aB.mk hsu
  replace hx:=aB.mk hx
  simp only [↓pre,simprocAttr,aA,sx,zB,aE,aC,aL,f1,f2,f3,q1,q2,q3,hbl,e2,e5,e6,hL.len',hlt',hlt,hL.addr',ha,hb,wi,sr]
  refine hJ.out.step x (by rw [List.length_take];omega) fun lv' m' h' => ?_
  replace h':=aB.mk h'
  refine dJ (by kernel_rfl) ?_
  simp only [↓pre,simprocAttr,aA,sx,zB,aE,aC,aL,f1,f2,f3,q1,q2,q3,hbl,e2,e5,e6,wi,sr]
  exact ⟨q - 1,by have:=hq.out;omega,i+1,by have:=hq.out;omega,rfl,⟨by rw [hsu.out];exact h'.out⟩⟩
 ·have hlt':¬ ((i:Nat):Int) < ((LL.length:Nat):Int):=by omega
  have hi:LL.take i=LL:=List.take_of_length_le (by omega)
  rw [hi] at hJ
  replace hi:=aB.mk hi
  simp only [↓pre,simprocAttr,aA,sx,zB,aE,aC,aL,f1,f2,f3,q1,q2,q3,hbl,e2,e5,e6,hL.len',hlt',sr]
  rw [b9]
  refine cA (fun q e m=>∃ i,q+i=SS.length∧e 2 = .tptr 0 [aD a,aD b,DV,aD WI,LV,SV]∧e 7=aD (i:Nat)∧aB (yI m (row,2,WI) (e 5) (LL++SS.take i))) SS.length ⟨0,by omega,e2,rfl,⟨by rw [List.take_zero,List.append_nil];show yI m _ (e 5) _;rw [e5];exact hJ.out⟩⟩ ?_
  clear e2 e5 e6 hJ hlt hlt' hq hi
  rintro q e m ⟨i,hq,e2,e7,hJ⟩
  replace hq:=aB.mk hq
  generalize e5:e 5=v5 at *
  by_cases hlt:i < SS.length
  ·have hlt':((i:Nat):Int) < ((SS.length:Nat):Int):=by omega
   have wi:=cI (n:=i) (by omega)
   obtain ⟨x,hx⟩:∃ y,SS[i]? = some y:=⟨_,List.getElem?_eq_getElem hlt⟩
   obtain ⟨ha,hb⟩:=haS.out i x hx
   have hsu:=take_succ hx
   replace hsu:=aB.mk hsu
   replace hx:=aB.mk hx
   simp only [↓pre,simprocAttr,aA,sx,zB,aE,aC,aL,f1,f2,f3,q1,q2,q3,hbl,e2,e5,e7,hS.len',hlt',hlt,hS.addr',ha,hb,wi,sr]
   refine hJ.out.step x (by rw [List.length_append,List.length_take];omega) fun lv' m' h' => ?_
   replace h':=aB.mk h'
   refine dJ (by kernel_rfl) ?_
   simp only [↓pre,simprocAttr,aA,sx,zB,aE,aC,aL,f1,f2,f3,q1,q2,q3,hbl,e2,e5,e7,wi,sr]
   exact ⟨q - 1,by have:=hq.out;omega,i+1,by have:=hq.out;omega,rfl,⟨by rw [hsu.out,←List.append_assoc];exact h'.out⟩⟩
  ·have hlt':¬ ((i:Nat):Int) < ((SS.length:Nat):Int):=by omega
   have hi:SS.take i=SS:=List.take_of_length_le (by omega)
   rw [hi] at hJ
   replace hi:=aB.mk hi
   simp only [↓pre,simprocAttr,aA,sx,zB,aE,aC,aL,f1,f2,f3,q1,q2,q3,hbl,e2,e5,e7,hS.len',hlt',sr]
   exact ⟨0,hJ.out.fin⟩
def t8 (l:List gO) (i:Nat):Bool:=l.any fun x=>x.1 == ((i:Nat):Int)
def mW (l:List gO) (n:Nat):List Int:=((List.range n).filter (t8 l)).map fun i=>((i:Nat):Int)
theorem aoK (l:List gO) (n:Nat):mW l (n+1)=if t8 l n=true then mW l n++[((n:Nat):Int)] else mW l n:=by
 unfold mW
 rw [List.range_succ,List.filter_append,List.map_append]
 by_cases h:t8 l n=true
 ·rw [if_pos h];simp [List.filter_cons,h]
 ·rw [if_neg h];simp [List.filter_cons,h]
theorem awp (l:List gO) (n:Nat):(mW l n).length≤n:=by
 unfold mW
 rw [List.length_map]
 exact Nat.le_trans (List.length_filter_le _ _) (by simp)
theorem aoL (l:List gO) (n:Nat) (z:Int):z∈mW l n↔(∃ x∈l,x.1=z)∧0≤z∧z < n:=by
 unfold mW t8
 simp only [List.mem_map,List.mem_filter,List.mem_range,List.any_eq_true,beq_iff_eq]
 constructor
 ·rintro ⟨i,⟨hi,x,hx,he⟩,rfl⟩
  exact ⟨⟨x,hx,he⟩,by omega,by omega⟩
 ·rintro ⟨⟨x,hx,he⟩,h0,h1⟩
  exact ⟨z.toNat,⟨by omega,x,hx,by omega⟩,by omega⟩
theorem ahK (l:List gO):∀ n,(mW l n).Pairwise (· < ·)
 | 0=>List.Pairwise.nil
 | n+1=>by
  rw [aoK]
  split
  ·refine List.pairwise_append.2 ⟨ahK l n,by simp,fun a ha b hb => ?_⟩
   have:=((aoL l n a).1 ha).2.2
   simp only [List.mem_singleton] at hb
   omega
  ·exact ahK l n
theorem aoM:∀ (a b:List Int),a.Pairwise (· < ·)→b.Pairwise (· < ·)→(∀ z,z∈a↔z∈b)→a=b
 | [],[],_,_,_=>rfl
 | [],y::b,_,_,h=>by have:=(h y).2 (by simp);simp at this
 | x::a,[],_,_,h=>by have:=(h x).1 (by simp);simp at this
 | x::a,y::b,ha,hb,h=>by
  rw [List.pairwise_cons] at ha hb
  have hxy:x=y:=by
   rcases List.mem_cons.1 ((h x).1 (by simp)) with e | e
   ·exact e
   ·rcases List.mem_cons.1 ((h y).2 (by simp)) with e2 | e2
    ·exact e2.symm
    ·have:=hb.1 x e
     have:=ha.1 y e2
     omega
  subst hxy
  rw [aoM a b ha.2 hb.2 fun z=>⟨fun hz=>by
   rcases List.mem_cons.1 ((h z).1 (List.mem_cons_of_mem _ hz)) with e | e
   ·have:=ha.1 z hz;omega
   ·exact e,fun hz=>by
   rcases List.mem_cons.1 ((h z).2 (List.mem_cons_of_mem _ hz)) with e | e
   ·have:=hb.1 z hz;omega
   ·exact e⟩]
theorem awq (l:List gO) (n:Nat) (h:∀ x∈l,0≤x.1∧x.1 < n):mW l n=lY l:=by
 refine aoM _ _ (ahK l n) (awg l) fun z => ?_
 rw [aoL,awf]
 constructor
 ·exact fun h=>h.1
 ·rintro ⟨x,hx,rfl⟩
  exact ⟨⟨x,hx,rfl⟩,h x hx⟩
def yJ:Nat→Bool:=fun d=>true
def qK (l:List gO) (N:Nat):List Bool:=(List.range N).map (t8 l)
theorem ac7 (l:List gO) (N:Nat):(qK l N).length=N:=by simp [qK]
theorem ahL (l:List gO) {N i:Nat} (h:i < N):(qK l N)[i]? = some (t8 l i):=by
 unfold qK
 rw [List.getElem?_map,List.getElem?_range h]
 rfl
theorem awr (l:List gO) {N j:Nat} {x:gO} (hx:x.1=((j:Nat):Int)) (h:j < N):List.take j (rC (qK l N))++[AV.val (.bool true)]++List.drop (j+1) (rC (qK l N))=rC (qK (l++[x]) N):=by
 have h1:(qK l N).set j true=qK (l++[x]) N:=List.ext_getElem? fun i=>by
  by_cases hi:i < N
  ·rw [List.getElem?_set,ahL _ hi,ahL _ hi]
   have ha:t8 (l++[x]) i=(t8 l i || (((j:Nat):Int) == ((i:Nat):Int))):=by unfold t8;simp [hx]
   rw [ha]
   by_cases e:j=i
   ·subst e
    rw [if_pos rfl,if_pos (by rw [ac7];exact h)]
    simp
   ·rw [if_neg e,show (((j:Nat):Int) == ((i:Nat):Int))=false by simp;omega,Bool.or_false]
  ·rw [List.getElem?_eq_none (by rw [List.length_set,ac7];omega),List.getElem?_eq_none (by rw [ac7];omega)]
 rw [←h1]
 unfold rC
 rw [List.set_eq_take_append_cons_drop,if_pos (by rw [ac7];exact h),List.map_append,List.map_cons,List.map_take,List.map_drop,List.append_assoc]
 rfl
theorem aws (N:Nat):qK [] N=List.replicate N false:=by
 unfold qK t8
 simp [List.map_const']
theorem awt (k r c w:Int) (v:AV) (l:List gO) (hv:bC v l.length (jY l)) (hl:l.length≤1000000) (hw0:0≤w) (hw:w≤65536) (hr:∀ x∈l,0≤x.1∧x.1 < w):aX Tryz.prog 137 [aA k r c w,v] ⟨bJ (mW l w.toNat).length (cC (mW l w.toNat)),[]⟩:=by
 refine eA ?_
 have hp:=hv.plain
 obtain ⟨N,hN⟩:∃ N:Nat,w=(N:Int):=⟨w.toNat,by omega⟩
 subst hN
 rw [Int.toNat_natCast]
 have hmk:=fun m=>auv m (n:=N) (by omega)
 have hbt:∀ (m:aF) (i:Int),eY Tryz.prog m 41 1 [(0,.val (.int .i64 i))]=some ⟨.tree 1 1 [.val (.int .i64 i)] true,m,none⟩:=fun m i=>af3 (by kernel_rfl) (by kernel_rfl)
 replace hr:=aB.mk hr
 refine bZ follows Tryz.func137 (by unfold Tryz.f137;rfl) (by unfold Tryz.f137;simp) yJ (by unfold Tryz.f137;simp) (by kernel_rfl) ?_;unfold Tryz.f137
 simp only [↓pre,simprocAttr,aA,sx,zA,yJ,bne,aC,aL,aI,Nat.zero_add,aJ,aG,aH,aQ,hbt,hmk,d6,sr]
 rw [b9]
 refine cA (fun q e m=>∃ i,q+i=l.length∧e 1=v∧e 2 = .tptr 0 [aD k,aD r,aD c,aD (N:Nat)]∧e 5 = .sl 0 0 N N true∧e 6=aD (i:Nat)∧aB (m.at_ 0=some ⟨rC (qK (l.take i) N),4,.flat,true⟩∧0 < m.next)) l.length ⟨0,by omega,rfl,rfl,rfl,rfl,⟨by rw [aH,if_pos (show 0=aF.empty.next from rfl),List.take_zero,aws],by simp [aW]⟩⟩ ?_
 rintro q e m ⟨i,hq,e1,e2,e5,e6,hJ⟩
 replace hq:=aB.mk hq
 obtain ⟨hb,hn⟩:=hJ.out
 clear hJ
 by_cases hlt:i < l.length
 ·have hlt':((i:Nat):Int) < ((l.length:Nat):Int):=by omega
  have wi:=cI (n:=i) (by omega)
  obtain ⟨x,hx⟩:∃ y,l[i]? = some y:=⟨_,List.getElem?_eq_getElem hlt⟩
  obtain ⟨ha,_,_⟩:=ae5 l i x hx
  obtain ⟨hx0,hx1⟩:=hr.out x (List.mem_of_getElem? hx)
  obtain ⟨j,hj⟩:∃ j:Nat,x.1=(j:Int):=⟨x.1.toNat,by omega⟩
  have hjN:j < N:=by omega
  have hset:=awr (l.take i) hj hjN
  rw [←take_succ hx] at hset
  have hlen:j+1≤(rC (qK (l.take i) N)).length:=by unfold rC;rw [List.length_map,ac7];omega
  rw [hj] at ha
  replace hx:=aB.mk hx
  replace hset0:=aB.mk hset
  replace hj:=aB.mk hj
  clear hx0 hx1
  simp only [↓pre,simprocAttr,aA,sx,zA,yJ,bne,aC,aL,aI,Nat.zero_add,aJ,aG,aH,aQ,hbt,hmk,d6,e1,e2,e5,e6,hv.len',hlt',hlt,hv.addr',ha,hjN,hb,hlen,hset,wi,sr]
  exact ⟨q - 1,by have:=hq.out;omega,i+1,by have:=hq.out;omega,rfl,⟨rfl,hn⟩⟩
 ·have hlt':¬ ((i:Nat):Int) < ((l.length:Nat):Int):=by omega
  have hi:l.take i=l:=List.take_of_length_le (by omega)
  rw [hi] at hb
  replace hi:=aB.mk hi
  simp only [↓pre,simprocAttr,aA,sx,zA,yJ,bne,aC,aL,aI,Nat.zero_add,aJ,aG,aH,aQ,hbt,hmk,d6,e1,e2,e5,e6,hv.len',hlt',sr]
  rw [b9]
  refine cA (fun q e m=>∃ i,q+i=N∧e 2 = .tptr 0 [aD k,aD r,aD c,aD (N:Nat)]∧e 5 = .sl 0 0 N N true∧e 8=aD (i:Nat)∧aB (m.at_ 0=some ⟨rC (qK l N),4,.flat,true⟩∧0 < m.next∧cY m 3 1 (e 7) (mW l i).length (cC (mW l i))∧cF (e 7)≠some 0)) N ⟨0,by omega,e2,e5,rfl,⟨hb,hn,fB,by intro h;cases h⟩⟩ ?_
  clear e1 e2 e5 e6 hb hn hlt hlt' hq hi
  rintro q e m ⟨i,hq,e2,e5,e8,hJ⟩
  replace hq:=aB.mk hq
  obtain ⟨hb,hn,ho,hk⟩:=hJ.out
  clear hJ
  generalize e7:e 7=v7 at *
  by_cases hlt:i < N
  ·have hlt':((i:Nat):Int) < ((N:Nat):Int):=by omega
   have wi:=cI (n:=i) (by omega)
   have hat:=auu (ahL l hlt)
   have hsu:=aoK l i
   have hle:=awp l i
   replace ho:=aB.mk ho
   replace hle:=aB.mk hle
   replace hk:=aB.mk hk
   cases hB:t8 l i with
   | true =>
    rw [hB] at hat
    rw [hB,if_pos rfl] at hsu
    replace hsu:=aB.mk hsu
    replace hB:=aB.mk hB
    simp only [↓pre,simprocAttr,aA,sx,zA,yJ,bne,aC,aL,aI,Nat.zero_add,aJ,aG,aH,aQ,hbt,hmk,d6,e2,e5,e7,e8,hlt',hlt,hb,hat,wi,sr]
    refine vN (kd := .flat) (sz:=1) (y:=8) (zl:=[.int .i64 0]) (by kernel_rfl) ho.out (by kernel_rfl) (by kernel_rfl) (by kernel_rfl) rfl l8 rfl (by have:=hle.out;omega) (by have:=hle.out;omega) fun lv' m' ho' hn' hkp hbk => ?_
    have hb':=hkp 0 _ hb hn hk.out
    have hk':cF lv'≠some 0:=fun h=>by
     rcases hbk 0 h with h1 | h1
     ·omega
     ·exact hk.out h1
    have hn2:0 < m'.next:=by omega
    have hcs:cC (mW l (i+1))=cC (mW l i)++[.val (.int .i64 ((i:Nat):Int))]:=by rw [hsu.out];simp [cC,aD]
    have hln:(mW l (i+1)).length=(mW l i).length+1:=by rw [hsu.out];simp
    rw [←hcs,←hln] at ho'
    replace ho':=aB.mk ho'
    replace hkp:=aB.mk hkp
    replace hbk:=aB.mk hbk
    replace hk':=aB.mk hk'
    replace hcs:=aB.mk hcs
    replace hln:=aB.mk hln
    replace hb':=aB.mk hb'
    simp only [↓pre,simprocAttr,aA,sx,zA,yJ,bne,aC,aL,aI,Nat.zero_add,aJ,aG,aH,aQ,hbt,hmk,d6,e2,e5,e7,e8,wi,sr]
    exact ⟨q - 1,by have:=hq.out;omega,i+1,by have:=hq.out;omega,rfl,⟨hb'.out,hn2,ho'.out,hk'.out⟩⟩
   | false =>
    rw [hB] at hat
    rw [hB,if_neg (by decide)] at hsu
    replace hsu:=aB.mk hsu
    replace hB:=aB.mk hB
    simp only [↓pre,simprocAttr,aA,sx,zA,yJ,bne,aC,aL,aI,Nat.zero_add,aJ,aG,aH,aQ,hbt,hmk,d6,e2,e5,e7,e8,hlt',hlt,hb,hat,wi,sr]
    exact ⟨q - 1,by have:=hq.out;omega,i+1,by have:=hq.out;omega,rfl,⟨hn,by rw [hsu.out];exact ho.out,hk.out⟩⟩
  ·have hlt':¬ ((i:Nat):Int) < ((N:Nat):Int):=by omega
   have hi:i=N:=by have:=hq.out;omega
   rw [hi] at ho
   replace ho:=aB.mk ho
   replace hk:=aB.mk hk
   replace hi:=aB.mk hi
   simp only [↓pre,simprocAttr,aA,sx,zA,yJ,bne,aC,aL,aI,Nat.zero_add,aJ,aG,aH,aQ,hbt,hmk,d6,e2,e5,e7,e8,hlt',sr]
   exact ⟨0,tY ho.out 0⟩
theorem aoN {k r c w row:Int} {L:List (List UInt8)} (h:gM k r c w L row=0):∀ x∈jF k r c w L row,0≤x.1∧x.1 < w:=by
 obtain ⟨_,hR,hC,hre,_⟩:=yD h
 obtain ⟨_,_,_,_,hlr⟩:=wM (abH hC)
 have hrow:0≤row∧row < w:=by
  unfold iM at hR
  split at hR
  ·split at hR
   ·omega
   ·omega
  ·omega
 intro x hx
 unfold jF iR at hx
 rcases List.mem_cons.1 hx with rfl | hx
 ·exact hrow
 ·obtain ⟨y,hy,rfl⟩:=List.mem_map.1 hx
  rcases List.mem_append.1 hy with hy | hy
  ·unfold g9 at hy
   split at hy
   ·cases hy
   ·exact (hlr y hy).1
  ·have:=hre y hy
   unfold jV at this
   have:=of_decide_eq_true this
   exact this.1
theorem aoO {k r c w row:Int} {L:List (List UInt8)} (h:gM k r c w L row=0):(jF k r c w L row).length≤30000:=by
 have h1:=abL h
 obtain ⟨_,_,_,_,h2,_⟩:=yD h
 rw [ahG]
 omega
theorem awu (k r c w row:Int) (v:AV) (L:List (List UInt8)) (cells:List AV) (hv:gI v L cells):aX Tryz.prog 64 [d5 k r c w v,aD row] ⟨aaj k r c w L row,[]⟩:=by
 refine eA ?_
 have hp:=hv.rd.plain
 have hf:=cM hv.rd
 have ho:=b6 hv.rd
 have hob:=ahJ k r c w row v L cells hv
 unfold aaj
 unfold yH t6 sW aag t6 at hob
 unfold d5 at hob ⊢
 by_cases hE:gM k r c w L row=0
 ·rw [if_pos hE] at hob ⊢
  have h1:=abL hE
  obtain ⟨_,_,_,_,h2,_⟩:=yD hE
  have r1:=dX (cS (dU k r c w L row)).length (bI (cS (dU k r c w L row)))
  have r2:=dX (g9 k r c w L row).length (bI (g9 k r c w L row))
  have r3:=dX (hU k r c w L row).length (bI (hU k r c w L row))
  have hlv:=aoJ (dK (dU k r c w L row)) (dQ (dU k r c w L row)) (eV k r c w (eW k r w L row)) row _ _ _ _ _ _ r1 r2 r3 (by omega) (by omega)
  unfold jF
  have s9:=cQ (ac5 ((row,2,eV k r c w (eW k r w L row))::iR (g9 k r c w L row++hU k r c w L row)))
  have hfin:=fun m=>iI (kD (ac5 ((row,2,eV k r c w (eW k r w L row))::iR (g9 k r c w L row++hU k r c w L row)))) (b8 (.int .i64 0)) 1 m
  generalize sX ((row,2,eV k r c w (eW k r w L row))::iR (g9 k r c w L row++hU k r c w L row))=LT at *
  generalize bJ (cS (dU k r c w L row)).length (bI (cS (dU k r c w L row)))=DV at *
  generalize bJ (g9 k r c w L row).length (bI (g9 k r c w L row))=LV at *
  generalize bJ (hU k r c w L row).length (bI (hU k r c w L row))=SV at *
  generalize dK (dU k r c w L row)=PL at *
  generalize dQ (dU k r c w L row)=PD at *
  generalize eV k r c w (eW k r w L row)=WI at *
  have s1:=cQ r1
  have s2:=cQ r2
  have s3:=cQ r3
  have o1:=b6 r1
  have o2:=b6 r2
  have o3:=b6 r3
  have f1:=cM r1
  have f2:=cM r2
  have f3:=cM r3
  have p1:=r1.plain
  have p2:=r2.plain
  have p3:=r3.plain
  simp only [aD] at hob hlv
  replace hfin:=aB.mk hfin
  refine bZ follows Tryz.func64 (by unfold Tryz.f64;rfl) (by unfold Tryz.f64;simp) aE (by unfold Tryz.f64;simp) (by kernel_rfl) ?_;unfold Tryz.f64
  simp only [↓pre,simprocAttr,aA,sx,acj,b7,aE,aC,aL,aJ,aK,aG,aH,aZ,aW,aQ,hf,ho,sr]
  refine aM (hob) (by simp only [aA,aV, *]) ?_;simp only [↓pre,simprocAttr,aA,sx,acj,b7,aE,aC,aL,aJ,aK,aG,aH,aZ,aW,aQ,hf,ho,s1,s2,s3,o1,o2,o3,f1,f2,f3,s9,sr];refine aM (hlv) (by simp only [aA,aV, *]) ?_;simp only [↓pre,simprocAttr,aA,sx,acj,b7,aE,aC,aL,aJ,aK,aG,aH,aZ,aW,aQ,hf,ho,s1,s2,s3,o1,o2,o3,f1,f2,f3,s9,sr]
  exact ⟨1,hfin.out _⟩
 ·rw [if_neg hE] at hob ⊢
  unfold aO at hob
  simp only [aD] at hob
  refine bZ follows Tryz.func64 (by unfold Tryz.f64;rfl) (by unfold Tryz.f64;simp) aE (by unfold Tryz.f64;simp) (by kernel_rfl) ?_;unfold Tryz.f64
  simp only [↓pre,simprocAttr,aA,sx,acj,b7,aE,aC,aL,aJ,aK,aG,aH,aZ,aW,aQ,hf,ho,sr]
  refine aM (hob) (by simp only [aA,aV, *]) ?_;simp only [↓pre,simprocAttr,aA,sx,acj,b7,aE,aC,aL,aJ,aK,aG,aH,aZ,aW,aQ,hf,ho,hE,sr]
  exact ⟨1,iI (b8 (.slice none 0 0)) (b8 (.int .i64 (gM k r c w L row))) 1 _⟩
def ahM (k r c w:Int) (L:List (List UInt8)) (row:Int):AV:=if gM k r c w L row=0 then .tup [bJ (lY (jF k r c w L row)).length (cC (lY (jF k r c w L row))),aD 0] else .tup [aO,aD (gM k r c w L row)]
theorem awv (k r c w row:Int) (v:AV) (L:List (List UInt8)) (cells:List AV) (hv:gI v L cells):aX Tryz.prog 62 [d5 k r c w v,aD row] ⟨ahM k r c w L row,[]⟩:=by
 refine eA ?_
 have hp:=hv.rd.plain
 have hf:=cM hv.rd
 have ho:=b6 hv.rd
 have hob:=ahJ k r c w row v L cells hv
 unfold ahM
 unfold yH t6 sW aag t6 at hob
 unfold d5 at hob ⊢
 by_cases hE:gM k r c w L row=0
 ·rw [if_pos hE] at hob ⊢
  have h1:=abL hE
  obtain ⟨_,hR,_,_,h2,_⟩:=yD hE
  obtain ⟨_,hm⟩:=yB hR
  have hml:=jN.1 hm
  have r1:=dX (cS (dU k r c w L row)).length (bI (cS (dU k r c w L row)))
  have r2:=dX (g9 k r c w L row).length (bI (g9 k r c w L row))
  have r3:=dX (hU k r c w L row).length (bI (hU k r c w L row))
  have hlv:=aoJ (dK (dU k r c w L row)) (dQ (dU k r c w L row)) (eV k r c w (eW k r w L row)) row _ _ _ _ _ _ r1 r2 r3 (by omega) (by omega)
  have r9:=ac5 (jF k r c w L row)
  have hri:=awt k r c w _ _ r9 (by have:=aoO hE;omega) (by omega) (by omega) (aoN hE)
  rw [awq _ _ (fun x hx=>by have:=aoN hE x hx;omega)] at hri
  have sA:=cQ (dX (lY (jF k r c w L row)).length (cC (lY (jF k r c w L row))))
  have hfin:=fun m=>iI (kD (dX (lY (jF k r c w L row)).length (cC (lY (jF k r c w L row))))) (b8 (.int .i64 0)) 1 m
  generalize bJ (lY (jF k r c w L row)).length (cC (lY (jF k r c w L row)))=RS at *
  rw [show sX ((row,2,eV k r c w (eW k r w L row))::iR (g9 k r c w L row++hU k r c w L row))=sX (jF k r c w L row) from rfl] at hlv
  have s9:=cQ r9
  have p9:=r9.plain
  generalize sX (jF k r c w L row)=LT at *
  generalize bJ (cS (dU k r c w L row)).length (bI (cS (dU k r c w L row)))=DV at *
  generalize bJ (g9 k r c w L row).length (bI (g9 k r c w L row))=LV at *
  generalize bJ (hU k r c w L row).length (bI (hU k r c w L row))=SV at *
  generalize dK (dU k r c w L row)=PL at *
  generalize dQ (dU k r c w L row)=PD at *
  generalize eV k r c w (eW k r w L row)=WI at *
  have s1:=cQ r1
  have s2:=cQ r2
  have s3:=cQ r3
  have o1:=b6 r1
  have o2:=b6 r2
  have o3:=b6 r3
  have f1:=cM r1
  have f2:=cM r2
  have f3:=cM r3
  have p1:=r1.plain
  have p2:=r2.plain
  have p3:=r3.plain
  simp only [aD] at hob hlv
  replace hfin:=aB.mk hfin
  replace hml:=aB.mk hml
  refine bZ follows Tryz.func62 (by unfold Tryz.f62;rfl) (by unfold Tryz.f62;simp) aE (by unfold Tryz.f62;simp) (by kernel_rfl) ?_;unfold Tryz.f62
  simp only [↓pre,simprocAttr,aA,sx,aa1,b7,aE,aC,aL,aJ,aK,aG,aH,aZ,aW,aQ,hf,ho,sr]
  refine aM (hob) (by simp only [aA,aV, *]) ?_;simp only [↓pre,simprocAttr,aA,sx,aa1,b7,aE,aC,aL,aJ,aK,aG,aH,aZ,aW,aQ,hf,ho,s1,s2,s3,o1,o2,o3,f1,f2,f3,s9,sA,sr];(refine cE (hlv) (by simp only [aA,aV, *]) (by intro k;simp only [sq,sr, *]) ?_);simp only [↓pre,simprocAttr,aA,sx,aa1,b7,aE,aC,aL,aJ,aK,aG,aH,aZ,aW,aQ,hf,ho,s1,s2,s3,o1,o2,o3,f1,f2,f3,s9,sA,sr];(refine cE (hri) (by simp only [aA,aV, *]) (by intro k;simp only [sq,sr, *]) ?_);simp only [↓pre,simprocAttr,aA,sx,aa1,b7,aE,aC,aL,aJ,aK,aG,aH,aZ,aW,aQ,hf,ho,s1,s2,s3,o1,o2,o3,f1,f2,f3,s9,sA,sr]
  exact ⟨1,hfin.out _⟩
 ·rw [if_neg hE] at hob ⊢
  unfold aO at hob
  simp only [aD] at hob
  refine bZ follows Tryz.func62 (by unfold Tryz.f62;rfl) (by unfold Tryz.f62;simp) aE (by unfold Tryz.f62;simp) (by kernel_rfl) ?_;unfold Tryz.f62
  simp only [↓pre,simprocAttr,aA,sx,aa1,b7,aE,aC,aL,aJ,aK,aG,aH,aZ,aW,aQ,hf,ho,sr]
  refine aM (hob) (by simp only [aA,aV, *]) ?_;simp only [↓pre,simprocAttr,aA,sx,aa1,b7,aE,aC,aL,aJ,aK,aG,aH,aZ,aW,aQ,hf,ho,hE,sr]
  exact ⟨1,iI (b8 (.slice none 0 0)) (b8 (.int .i64 (gM k r c w L row))) 1 _⟩
def u9 (k:Nat) (l:List bP):AV:=if l.length=0 then .val (.slice none 0 0) else .sl k 0 l.length l.length false
def mX (l:List bP):List (TypeId×List AV):=if l.length=0 then [] else [(67,bI l)]
def ac8 (x y W e:Int) (D LL SS:List bP):gJ:=⟨.tup [.agg [.val (.int .i64 x),.val (.int .i64 y),u9 0 D],.val (.int .i64 W),u9 (mX D).length LL,u9 ((mX D).length+(mX LL).length) SS,.val (.int .i64 e)],mX D++(mX LL++mX SS)⟩
theorem aoP {m:aF} {dv lv sv:AV} {D LL SS:List bP} (x y W e:Int) (h:mU m dv D lv LL sv SS):kG m (.tup [.agg [.val (.int .i64 x),.val (.int .i64 y),dv],.val (.int .i64 W),lv,sv,.val (.int .i64 e)]) (ac8 x y W e D LL SS):=by
 have h4:bW Tryz.prog 67 = .flat:=by kernel_rfl
 have e1:∀ b b',cF dv=some b→cF lv=some b'→¬ b=b':=fun b b' h1 h2 e=>h.dl b h1 (e ▸ h2)
 have e2:∀ b b',cF dv=some b→cF sv=some b'→¬ b=b':=fun b b' h1 h2 e=>h.ds b h1 (e ▸ h2)
 have e3:∀ b b',cF lv=some b→cF sv=some b'→¬ b=b':=fun b b' h1 h2 e=>h.ls b h1 (e ▸ h2)
 unfold ac8 u9 mX
 rcases h.d.form with ⟨rfl,a1,_⟩ | ⟨b1,rfl,a1,_,n1⟩
 all_goals rcases h.l.form with ⟨rfl,a2,_⟩ | ⟨b2,rfl,a2,_,n2⟩
 all_goals rcases h.s.form with ⟨rfl,a3,_⟩ | ⟨b3,rfl,a3,_,n3⟩
 all_goals (
  try replace n1:=Nat.ne_of_gt n1
  try replace n2:=Nat.ne_of_gt n2
  try replace n3:=Nat.ne_of_gt n3
  simp only [cF,aO,Option.some.injEq,reduceCtorEq,false_imp_iff,implies_true,forall_eq'] at e1 e2 e3
  simp [kG,iT,canon,f9,aO, *])
def pG (m:aF) (l:List bP):aF:=if l.length=0 then m else m.push ⟨bI l,67,.flat,true⟩
def yK (m:aF) (l:List bP):AV:=if l.length=0 then .val (.slice none 0 0) else .sl m.next 0 l.length l.length false
theorem ahN (m:aF) (l:List bP):abA m (pG m l) (yK m l) l:=by
 refine abz.abs ⟨?_⟩
 unfold pG yK
 split
 ·rename_i h
  exact .inl ⟨rfl,List.eq_nil_of_length_eq_zero h,rfl⟩
 ·rename_i h
  exact .inr ⟨rfl,h,rfl⟩
structure ahO (m:aF) (dv:AV) (D:List bP) (lv:AV) (LL:List bP) (sv:AV) (SS:List bP):Prop where
 d:cY m 67 2 dv D.length (bI D)
 l:cY m 67 2 lv LL.length (bI LL)
 s:cY m 67 2 sv SS.length (bI SS)
 dl:∀ b,cF dv=some b→cF lv≠some b
 ds:∀ b,cF dv=some b→cF sv≠some b
 ls:∀ b,cF lv=some b→cF sv≠some b
theorem ahP (m:aF) (l:List bP):(pG m l).next=m.next+(mX l).length:=by
 unfold pG mX
 split <;> simp [aW]
theorem aww {d:Bool} {f:FuncId} {args:List AV} {m:aF} {K:bY→Prop} {x y W e:Int} {D LL SS:List bP} (h:aX Tryz.prog f args (ac8 x y W e D LL SS)) (hp:eB args=true) (hk:∀ dv lv sv m1,ahO m1 dv D lv LL sv SS→m.next≤m1.next→(dv.cells=[dv]∧fK dv=true∧dF dv=true)→K ⟨.tup [.agg [.val (.int .i64 x),.val (.int .i64 y),dv],.val (.int .i64 W),lv,sv,.val (.int .i64 e)],m1,none⟩):m6 Tryz.prog d f args m K:=by
 refine aM h hp ?_
 have h4:bW Tryz.prog 67 = .flat:=by kernel_rfl
 have A:=ahN m D
 have B:=ahN (pG m D) LL
 have C:=ahN (pG (pG m D) LL) SS
 have:=hk _ _ _ _ (⟨(A.own.keep B.next fun b k h1 h2=>B.keep b k h2 (nL A.own b h1)).keep C.next fun b k h1 h2=>C.keep b k h2 (by have:=nL A.own b h1;have:=B.next;omega),B.own.keep C.next fun b k h1 h2=>C.keep b k h2 (nL B.own b h1),C.own,
  fun b h1 h2=>by have:=nL A.own b h1;have:=B.blk b h2;omega,fun b h1 h2=>by have:=nL A.own b h1;have:=C.blk b h2;have:=B.next;omega,fun b h1 h2=>by have:=nL B.own b h1;have:=C.blk b h2;omega⟩:ahO _ _ D _ LL _ SS) (by have:=A.next;have:=B.next;have:=C.next;omega) ⟨A.cells,A.ok,A.one⟩
 have e1:shift m.next (u9 0 D)=yK m D:=by unfold u9 yK;split <;> simp [shift]
 have e2:shift m.next (u9 (mX D).length LL)=yK (pG m D) LL:=by unfold u9 yK;rw [ahP];split <;> simp [shift]
 have e3:shift m.next (u9 ((mX D).length+(mX LL).length) SS)=yK (pG (pG m D) LL) SS:=by unfold u9 yK;rw [ahP,ahP];split <;> simp [shift,Nat.add_assoc]
 have e4:∀ (base:Nat) (m:aF) (l:List bP) (rest:List (TypeId×List AV)),gG Tryz.prog base m (mX l++rest)=gG Tryz.prog base (pG m l) rest:=fun base m l rest=>by unfold mX pG;split <;> simp [gG,h4]
 have e5:d8 Tryz.prog m (mX D++(mX LL++mX SS))=pG (pG (pG m D) LL) SS:=by
  unfold d8
  rw [e4,e4,←List.append_nil (mX SS),e4]
  rfl
 unfold ac8
 simp only [shift,gS,e1,e2,e3,e5]
 exact this
theorem awx (k r c w row : Int) (v v' : AV) (L : List (List UInt8)) (cells cells' : List AV) (hv : gI v L cells) (hv' : gI v' L cells') : ∃ (PL PD W E : Int) (D LL SS : List bP) (S : List gO) (R : List Int) (sv rv rv' : AV) (x x' : List AV),
   aX Tryz.prog 59 [d5 k r c w v, aD row] (ac8 PL PD W E D LL SS) ∧
   aX Tryz.prog 60 [d5 k r c w v', aD row] ⟨.tup [.agg [aD PL, aD PD, bJ D.length (bI D), aD W, bJ LL.length (bI LL), bJ SS.length (bI SS)], aD E], []⟩ ∧
   aX Tryz.prog 61 [d5 k r c w v, aD row] ⟨.tup [rv, aD E], []⟩ ∧
   aX Tryz.prog 62 [d5 k r c w v', aD row] ⟨.tup [rv', aD E], []⟩ ∧
   aX Tryz.prog 63 [d5 k r c w v, aD row] ⟨.tup [sv, aD E], []⟩ ∧
   aX Tryz.prog 64 [d5 k r c w v', aD row] ⟨.tup [sv, aD E], []⟩ ∧
   bC rv R.length (cC R ++ x) ∧ bC rv' R.length (cC R ++ x') ∧ bC sv S.length (jY S) ∧
   D.length ≤ 30000 ∧ LL.length ≤ 30000 ∧ SS.length ≤ 30000 ∧ S.length ≤ 30000 ∧ R.length ≤ 30000 := by
 have h1 := an2 k r c w row v L cells hv
 have h2 := ahJ k r c w row v' L cells' hv'
 have h4 := awv k r c w row v' L cells' hv'
 have h5 := ahE k r c w row v L cells hv
 have h6 := awu k r c w row v' L cells' hv'
 unfold yH t6 sW at h2
 unfold ahM at h4
 unfold aaj at h5 h6
 by_cases hE : gM k r c w L row = 0
 · rw [if_pos hE] at h2 h4 h5 h6
   have h3 := awh k r c w row v L cells hv hE
   have b1 := abL hE
   obtain ⟨_, hR, hC, _, b2, _⟩ := yD hE
   have b3 := aoO hE
   have b4 := aoG (jF k r c w L row)
   obtain ⟨_, hm⟩ := yB hR
   have hdb := vX (gZ hm).1 (gZ hm).2
   obtain ⟨_, _, _, b5, _⟩ := wM (abH hC)
   refine ⟨_, _, _, 0, _, _, _, jF k r c w L row, lY (jF k r c w L row), _, _, _, _, [], aac (pX h1 fun a m h => ?_), h2, h3, h4, h5, h6, awe _, by rw [List.append_nil]; exact dX _ _, ac5 _, ?_, by omega, by omega, b3, by omega⟩
   · rcases h with ⟨_, dv, lv, sv, rfl, ho⟩ | ⟨h, _⟩
     · exact aoP _ _ _ _ ho
     · exact absurd hE h
   · unfold dI at hdb b5
     unfold dU
     omega
 · rw [if_neg hE] at h2 h4 h5 h6
   have h3 := aoA k r c w row v L cells hv hE
   refine ⟨0, 0, 0, gM k r c w L row, [], [], [], [], [], _, _, _, [], [], aac (pX h1 fun a m h => ?_), h2, h3, h4, h5, h6, ⟨.inl ⟨rfl, rfl⟩⟩, ⟨.inl ⟨rfl, rfl⟩⟩, ⟨.inl ⟨rfl, rfl⟩⟩, by simp, by simp, by simp, by simp, by simp⟩
   rcases h with ⟨h, _⟩ | ⟨_, rfl⟩
   · exact absurd h hE
   · exact aoP 0 0 0 _ ⟨fB, fB, fB, fun _ h => (by cases h), fun _ h => (by cases h), fun _ h => (by cases h), fun _ h => (by cases h), fun _ h => (by cases h), fun _ h => (by cases h)⟩
structure qL (m:aF) (a:AV) (n:Nat):Prop where
 form:(a = .val (.slice none 0 0)∧n=0)∨∃ b cs,a = .sl b 0 n n false∧0 < n∧b < m.next∧m.at_ b=some ⟨cs,67,.flat,true⟩∧cs.length=n*2
theorem ahQ {m:aF} {a:AV} {l:List bP} (h:cY m 67 2 a l.length (bI l)):qL m a l.length:=by
 rcases h.form with ⟨rfl,h1,_⟩ | ⟨b,rfl,h1,h2,h3⟩
 ·exact ⟨.inl ⟨rfl,h1⟩⟩
 ·exact ⟨.inr ⟨b,_,rfl,h3,h2,h1,lW _⟩⟩
theorem qL.lenE {m:aF} {a:AV} {n:Nat} (h:qL m a n):Go.Tw.lenE Tryz.prog 31 a=some (.val (.int .i64 (n:Nat))):=by
 have h1:cD Tryz.prog 31=some 67:=by kernel_rfl
 rcases h.form with ⟨rfl,h2⟩ | ⟨b,cs,rfl,_⟩
 ·rw [h2]
  show Go.Tw.lenE Tryz.prog 31 (.val (.slice none 0 0))=some (.val (.int .i64 0))
  kernel_rfl
 ·simp [Go.Tw.lenE,h1,rH,aD]
theorem qL.keep {m m':aF} {a:AV} {n:Nat} (h:qL m a n) (hn:m.next≤m'.next) (hk:∀ b k,cF a=some b→m.at_ b=some k→m'.at_ b=some k):qL m' a n:=by
 rcases h.form with h1 | ⟨b,cs,rfl,h1,h2,h3,h4⟩
 ·exact ⟨.inl h1⟩
 ·exact ⟨.inr ⟨b,cs,rfl,h1,by omega,hk b _ rfl h3,h4⟩⟩
theorem qL.step {m:aF} {a:AV} {n i:Nat} (h:qL m a n) (hi:i < n) (z:AV):∃ b cs,a = .sl b 0 n n false∧m.at_ b=some ⟨cs,67,.flat,true⟩∧b < m.next∧i*2+1≤cs.length∧qL (m.put b (some ⟨List.take (i*2) cs++[z]++List.drop (i*2+1) cs,67,.flat,true⟩)) a n:=by
 rcases h.form with ⟨_,h1⟩ | ⟨b,cs,rfl,h1,h2,h3,h4⟩
 ·omega
 ·refine ⟨b,cs,rfl,h3,h2,by omega,⟨.inr ⟨b,_,rfl,h1,h2,by rw [aG,if_pos rfl], ?_⟩⟩⟩
  simp
  omega
structure LvL (m:aF) (a:AV) (n:Nat):Prop where
 form:(a = .val (.slice none 0 0)∧n=0)∨∃ b c cs,a = .sl b 0 n c false∧0 < n∧b < m.next∧m.at_ b=some ⟨cs,67,.flat,true⟩∧((c=n∧cs.length=n*2)∨(c=n+1∧cs.length=(n+1)*2))
theorem qL.lv {m:aF} {a:AV} {n:Nat} (h:qL m a n):LvL m a n:=by
 rcases h.form with h1 | ⟨b,cs,h0,h1,h2,h3,h4⟩
 ·exact ⟨.inl h1⟩
 ·exact ⟨.inr ⟨b,n,cs,h0,h1,h2,h3,.inl ⟨rfl,h4⟩⟩⟩
theorem awy {m:aF} {b n:Nat} {cs:List AV} {u u':AV} (hb:m.at_ b=some ⟨cs,67,.flat,true⟩) (hl:cs.length=n*2) (hn:n≤100000):dW Tryz.prog 67 m (.sl b 0 n n false) (.tree 1 1 [u,u'] true)=some ⟨.sl m.next 0 (n+1) (n+1) false,(m.put b none).push ⟨cs++[u,u'],67,.flat,true⟩,none⟩:=by
 have h1:cH Tryz.prog 67=some 2:=by kernel_rfl
 have h2:hY Tryz.prog 67=some 16:=by kernel_rfl
 have h3:eX Tryz.prog 67=some [.int .i64 0,.int .i64 0]:=by kernel_rfl
 have h4:bW Tryz.prog 67 = .flat:=by kernel_rfl
 have h5:eZ Tryz.prog 67 2 m (.tree 1 1 [u,u'] true)=some ([u,u'],1):=uD (by simp)
 simp only [dW,h1,h2,h3,h4,h5,dR,hb,Option.bind_some]
 have e1:(n+1)*16≤140737488355328:=by omega
 have e2:n+1≤140737488355328:=by omega
 have ht:Go.Tw.vA (.sl b 0 n n false) 1=false:=rfl
 simp [bO,hl,ht,e1,e2]
 omega
theorem awz {m:aF} {b n:Nat} {cs:List AV} {u u':AV} (hb:m.at_ b=some ⟨cs,67,.flat,true⟩) (hl:cs.length=(n+1)*2) (hn:n≤100000):dW Tryz.prog 67 m (.sl b 0 n (n+1) false) (.tree 1 1 [u,u'] true)=some ⟨.sl b 0 (n+1) (n+1) false,m.put b (some ⟨cN cs (n*2) [u,u'],67,.flat,true⟩),none⟩:=by
 have h1:cH Tryz.prog 67=some 2:=by kernel_rfl
 have h2:hY Tryz.prog 67=some 16:=by kernel_rfl
 have h3:eX Tryz.prog 67=some [.int .i64 0,.int .i64 0]:=by kernel_rfl
 have h4:bW Tryz.prog 67 = .flat:=by kernel_rfl
 have h5:eZ Tryz.prog 67 2 m (.tree 1 1 [u,u'] true)=some ([u,u'],1):=uD (by simp)
 simp only [dW,h1,h2,h3,h4,h5,dR,hb,Option.bind_some]
 have e1:(n+1)*16≤140737488355328:=by omega
 have e2:n+1≤140737488355328:=by omega
 have ht:Go.Tw.vA (.sl b 0 n (n+1) false) 1=false:=rfl
 have h6:¬ n*2=(n+1)*2:=by omega
 simp [bO,hl,ht,h6,e1,e2]
 omega
def gW:Nat→Bool:=fun d=>d != 7 && d != 157
set_option maxHeartbeats 4000000 in
theorem awA (k r c w row:Int) (v:AV) (L:List (List UInt8)) (cells:List AV) (hv:gI v L cells) (hn:L.length*24≤140737488355328):aX Tryz.prog 10 [d5 k r c w v,aD row] ⟨bB true,[]⟩:=by
 have hp:=hv.rd.plain
 have hf:=cM hv.rd
 have ho:=b6 hv.rd
 have haw:=avW
 have hbi:=avX k r c w v L cells hv
 unfold d5 at hbi ⊢
 cases hb:bU k r c w && decide (400 < (k+r)*w) with
 | true =>
  rw [hb] at hbi
  refine bE follows Tryz.func10 (by unfold Tryz.f10;rfl) (by unfold Tryz.f10;simp) gW (by unfold Tryz.f10;simp) (by kernel_rfl) ?_;unfold Tryz.f10
  simp only [↓pre,simprocAttr,aA,sx,iG,b7,gW,bne,aC,aL,aI,aJ,aK,aG,aH,aZ,aW,aQ,d6,hf,ho,sr]
  refine aM (haw) (by rfl) ?_;simp only [↓pre,simprocAttr,aA,sx,iG,b7,gW,bne,aC,aL,aI,aJ,aK,aG,aH,aZ,aW,aQ,d6,hf,ho,sr];refine aM (hbi) (by simp only [aA,aV, *]) ?_;simp only [↓pre,simprocAttr,aA,sx,iG,b7,gW,bne,aC,aL,aI,aJ,aK,aG,aH,aZ,aW,aQ,d6,hf,ho,sr]
 | false =>
  rw [hb] at hbi
  clear hb
  have htw:=avN k r c w v L cells hv hn
  have hin:=avM L
  generalize L.map fQ=cin at *
  generalize bJ L.length cin=vin at *
  obtain ⟨PL,PD,W,E,D,LL,SS,S,RI,lvS,rv,rv',xr,xr',h1,h2,h3,h4,h5,h6,g1,g2,g3,bD,bL,bS,bV,bR⟩:=awx k r c w row vin v L cin cells hin hv
  have hsm:=avP k r c w vin v L cin cells hin hv hn
  have rD:=dX D.length (bI D)
  have rL:=dX LL.length (bI LL)
  have rS:=dX SS.length (bI SS)
  have hsA:=awo PL PD (bJ D.length (bI D)) (bJ D.length (bI D)) D [] [] (by rw [List.append_nil];exact rD) (by rw [List.append_nil];exact rD) (by omega)
  have hsL:=ahI (bJ LL.length (bI LL)) (bJ LL.length (bI LL)) LL [] [] (by rw [List.append_nil];exact rL) (by rw [List.append_nil];exact rL) (by omega)
  have hsS:=ahI (bJ SS.length (bI SS)) (bJ SS.length (bI SS)) SS [] [] (by rw [List.append_nil];exact rS) (by rw [List.append_nil];exact rS) (by omega)
  have hsI:=arD rv rv' RI RI xr xr' g1 g2 (by omega) (by omega)
  rw [show vY RI RI=true by unfold vY;simp] at hsI
  have hsV:=awn lvS S g3 (by omega)
  generalize hTD:bJ D.length (bI D)=TD at *
  generalize hTL:bJ LL.length (bI LL)=TL at *
  generalize hTS:bJ SS.length (bI SS)=TS at *
  have pI:=hin.rd.plain
  have fI:=cM hin.rd
  have oI:=b6 hin.rd
  have sI:=cQ hin.rd
  have sD:=cQ rD
  have sL:=cQ rL
  have sS:=cQ rS
  have oD:=b6 rD
  have oL:=b6 rL
  have oS:=b6 rS
  have fD:=cM rD
  have fL:=cM rL
  have fS:=cM rS
  have pD:=rD.plain
  have pL:=rL.plain
  have pS:=rS.plain
  have s1:=cQ g1
  have s2:=cQ g2
  have s3:=cQ g3
  have p1:=g1.plain
  have p2:=g2.plain
  have p3:=g3.plain
  unfold d5 at htw h1 h2 h3 h4 h5 h6 hsm
  simp only [aD] at htw h1 h2 h3 h4 h5 h6 hsm hsA
  replace hin:=aB.mk hin
  replace g1:=aB.mk g1
  replace g2:=aB.mk g2
  replace g3:=aB.mk g3
  replace rD:=aB.mk rD
  replace rL:=aB.mk rL
  replace hn:=aB.mk hn
  replace hTD:=aB.mk hTD
  replace hTL:=aB.mk hTL
  replace hTS:=aB.mk hTS
  refine bE follows Tryz.func10 (by unfold Tryz.f10;rfl) (by unfold Tryz.f10;simp) gW (by unfold Tryz.f10;simp) (by kernel_rfl) ?_;unfold Tryz.f10
  simp only [↓pre,simprocAttr,aA,sx,iG,b7,gW,bne,aC,aL,aI,aJ,aK,aG,aH,aZ,aW,aQ,d6,hf,ho,fI,oI,sI,sD,sL,sS,oD,oL,oS,fD,fL,fS,s1,s2,s3,sr]
  refine aM (haw) (by rfl) ?_;simp only [↓pre,simprocAttr,aA,sx,iG,b7,gW,bne,aC,aL,aI,aJ,aK,aG,aH,aZ,aW,aQ,d6,hf,ho,fI,oI,sI,sD,sL,sS,oD,oL,oS,fD,fL,fS,s1,s2,s3,sr];refine aM (hbi) (by simp only [aA,aV, *]) ?_;simp only [↓pre,simprocAttr,aA,sx,iG,b7,gW,bne,aC,aL,aI,aJ,aK,aG,aH,aZ,aW,aQ,d6,hf,ho,fI,oI,sI,sD,sL,sS,oD,oL,oS,fD,fL,fS,s1,s2,s3,sr];refine aM (htw) (by simp only [aA,aV, *]) ?_;simp only [↓pre,simprocAttr,aA,sx,iG,b7,gW,bne,aC,aL,aI,aJ,aK,aG,aH,aZ,aW,aQ,d6,hf,ho,fI,oI,sI,sD,sL,sS,oD,oL,oS,fD,fL,fS,s1,s2,s3,sr]
  refine aww h1 (by simp [eB,plain,pI]) fun dv lv sv m1 hT hn1 hdv => ?_
  obtain ⟨q1,q2,q3⟩:=hdv
  replace hT:=aB.mk hT
  replace hn1:=aB.mk hn1
  have w0:¬ m1.next=m1.next+1:=by omega
  simp only [↓pre,simprocAttr,aA,sx,iG,b7,gW,bne,aC,aL,aI,aJ,aK,aG,aH,aZ,aW,aQ,d6,hf,ho,fI,oI,sI,sD,sL,sS,oD,oL,oS,fD,fL,fS,s1,s2,s3,q1,q2,q3,w0,sr]
  refine aM (h2) (by simp only [aA,aV, *]) ?_;simp only [↓pre,simprocAttr,aA,sx,iG,b7,gW,bne,aC,aL,aI,aJ,aK,aG,aH,aZ,aW,aQ,d6,hf,ho,fI,oI,sI,sD,sL,sS,oD,oL,oS,fD,fL,fS,s1,s2,s3,q1,q2,q3,w0,sr];refine aM (h3) (by simp only [aA,aV, *]) ?_;simp only [↓pre,simprocAttr,aA,sx,iG,b7,gW,bne,aC,aL,aI,aJ,aK,aG,aH,aZ,aW,aQ,d6,hf,ho,fI,oI,sI,sD,sL,sS,oD,oL,oS,fD,fL,fS,s1,s2,s3,q1,q2,q3,w0,sr];refine aM (h4) (by simp only [aA,aV, *]) ?_;simp only [↓pre,simprocAttr,aA,sx,iG,b7,gW,bne,aC,aL,aI,aJ,aK,aG,aH,aZ,aW,aQ,d6,hf,ho,fI,oI,sI,sD,sL,sS,oD,oL,oS,fD,fL,fS,s1,s2,s3,q1,q2,q3,w0,sr];refine aM (h5) (by simp only [aA,aV, *]) ?_;simp only [↓pre,simprocAttr,aA,sx,iG,b7,gW,bne,aC,aL,aI,aJ,aK,aG,aH,aZ,aW,aQ,d6,hf,ho,fI,oI,sI,sD,sL,sS,oD,oL,oS,fD,fL,fS,s1,s2,s3,q1,q2,q3,w0,sr];refine aM (h6) (by simp only [aA,aV, *]) ?_;simp only [↓pre,simprocAttr,aA,sx,iG,b7,gW,bne,aC,aL,aI,aJ,aK,aG,aH,aZ,aW,aQ,d6,hf,ho,fI,oI,sI,sD,sL,sS,oD,oL,oS,fD,fL,fS,s1,s2,s3,q1,q2,q3,w0,sr]
  generalize hM:aF.put (aF.push (aF.put (aF.push m1 _) _ _) _) _ _=M
  have kM:∀ j kk,j < m1.next→m1.at_ j=some kk→M.at_ j=some kk:=fun j kk hj hk=>by
   rw [←hM,aG,if_neg (by omega),aH,if_neg (by simp only [aW,aZ];omega),aG,if_neg (by omega),aH,if_neg (by omega)]
   exact hk
  have nM:m1.next < M.next:=by rw [←hM];simp only [aZ,aW];omega
  have bM:M.at_ m1.next=some ⟨[.val (.int .i64 PL),.val (.int .i64 PD),dv],33,.var,true⟩:=by
   rw [←hM]
   simp [aG,aH,aZ,aW]
  have hT:=hT.out
  have tM:ahO M dv D lv LL sv SS:=⟨hT.d.keep (by omega) fun b kk e1 e2=>kM b kk (nL hT.d b e1) e2,hT.l.keep (by omega) fun b kk e1 e2=>kM b kk (nL hT.l b e1) e2,hT.s.keep (by omega) fun b kk e1 e2=>kM b kk (nL hT.s b e1) e2,hT.dl,hT.ds,hT.ls⟩
  clear hM kM hT
  generalize m1.next=p at *
  refine aaJ hsA (by simp [eM,lend,acf tM.d,hTD.out,(vK 3 TD pD).1]) rfl rfl ?_
  simp only [↓pre,simprocAttr,aA,sx,iG,b7,gW,bne,aC,aL,aI,aJ,aK,aG,aH,aZ,aW,aQ,d6,hf,ho,fI,oI,sI,sD,sL,sS,oD,oL,oS,fD,fL,fS,s1,s2,s3,sr]
  refine aaJ hsL (by simp [eM,lend,acf tM.l,hTL.out,(vK 3 TL pL).1]) rfl rfl ?_
  simp only [↓pre,simprocAttr,aA,sx,iG,b7,gW,bne,aC,aL,aI,aJ,aK,aG,aH,aZ,aW,aQ,d6,hf,ho,fI,oI,sI,sD,sL,sS,oD,oL,oS,fD,fL,fS,s1,s2,s3,sr]
  refine aaJ hsS (by simp [eM,lend,acf tM.s,hTS.out,(vK 3 TS pS).1]) rfl rfl ?_
  simp only [↓pre,simprocAttr,aA,sx,iG,b7,gW,bne,aC,aL,aI,aJ,aK,aG,aH,aZ,aW,aQ,d6,hf,ho,fI,oI,sI,sD,sL,sS,oD,oL,oS,fD,fL,fS,s1,s2,s3,sr]
  refine aM (hsI) (by simp only [aA,aV, *]) ?_;simp only [↓pre,simprocAttr,aA,sx,iG,b7,gW,bne,aC,aL,aI,aJ,aK,aG,aH,aZ,aW,aQ,d6,hf,ho,fI,oI,sI,sD,sL,sS,oD,oL,oS,fD,fL,fS,s1,s2,s3,sr];refine aM (hsV) (by simp only [aA,aV, *]) ?_;simp only [↓pre,simprocAttr,aA,sx,iG,b7,gW,bne,aC,aL,aI,aJ,aK,aG,aH,aZ,aW,aQ,d6,hf,ho,fI,oI,sI,sD,sL,sS,oD,oL,oS,fD,fL,fS,s1,s2,s3,sr]
  rw [b9]
  refine cA (fun q e m=>∃ i,q+i=D.length∧e 1=aD row∧e 2 = .tptr 0 [aD k,aD r,aD c,aD w,v]∧e 6 = .tptr 0 [aD k,aD r,aD c,aD w,vin]∧e 7 = .ptr p 0∧e 9=lv∧e 10=sv∧e 12 = .tptr 0 [aD PL,aD PD,TD,aD W,TL,TS]∧e 20=lvS∧e 22=bB true∧e 23=bB true∧e 24=aD (i:Nat)∧aB (m.at_ p=some ⟨[.val (.int .i64 PL),.val (.int .i64 PD),dv],33,.var,true⟩∧qL m dv D.length∧qL m lv LL.length∧cY m 67 2 sv SS.length (bI SS))) D.length ⟨0,by omega,rfl,rfl,rfl,rfl,rfl,rfl,rfl,rfl,rfl,rfl,rfl,⟨bM,ahQ tM.d,ahQ tM.l,tM.s⟩⟩ ?_
  have tdl:=tM.dl
  have tds:=tM.ds
  have tls:=tM.ls
  clear bM nM tM w0
  rintro q e m ⟨i,hq,e1,e2,e6,e7,e9,e10,e12,e20,e22,e23,e24,hJ⟩
  replace hq:=aB.mk hq
  obtain ⟨hbp,hd,hl,hs⟩:=hJ.out
  clear hJ
  have hld:=hd.lenE
  by_cases hlt:i < D.length
  ·have hlt':((i:Nat):Int) < ((D.length:Nat):Int):=by omega
   have wi:=cI (n:=i) (by omega)
   obtain ⟨b,cs,hdv,hb,hbn,hcl,hst⟩:=hd.step hlt (.val (.int .i64 (-9)))
   have hpb:¬ p=b:=fun h=>by rw [h,hb] at hbp;cases hbp
   have hl2:=hl.keep (m':=m.put b (some ⟨List.take (i*2) cs++[.val (.int .i64 (-9))]++List.drop (i*2+1) cs,67,.flat,true⟩)) (by rw [aZ];exact Nat.le_refl _) fun b' kk u1 u2=>by rw [aG,if_neg (fun h=>tdl b (by rw [hdv];rfl) (by rw [←h];exact u1))];exact u2
   have hs2:=hs.put_ne (j:=b) (x:=some ⟨List.take (i*2) cs++[.val (.int .i64 (-9))]++List.drop (i*2+1) cs,67,.flat,true⟩) (tds b (by rw [hdv];rfl))
   replace hst:=aB.mk hst
   replace hl2:=aB.mk hl2
   replace hs2:=aB.mk hs2
   replace hl:=aB.mk hl
   replace hs:=aB.mk hs
   replace hd:=aB.mk hd
   subst hdv
   simp only [↓pre,simprocAttr,aA,sx,iG,b7,gW,bne,aC,aL,aI,aJ,aK,aG,aH,aZ,aW,aQ,d6,hf,ho,e1,e2,e6,e7,e9,e10,e12,e20,e22,e23,e24,hbp,hld,hlt',hlt,hb,hcl,hpb,wi,sr]
   exact ⟨q - 1,by have:=hq.out;omega,i+1,by have:=hq.out;omega,rfl,⟨hst.out,hl2.out,hs2.out⟩⟩
  ·have hlt':¬ ((i:Nat):Int) < ((D.length:Nat):Int):=by omega
   replace hl:=aB.mk hl
   replace hs:=aB.mk hs
   replace hd:=aB.mk hd
   simp only [↓pre,simprocAttr,aA,sx,iG,b7,gW,bne,aC,aL,aI,aJ,aK,aG,aH,aZ,aW,aQ,d6,hf,ho,e1,e2,e6,e7,e9,e10,e12,e20,e22,e23,e24,hbp,hld,hlt',sr]
   rw [b9]
   refine cA (fun q e m=>∃ i,q+i=LL.length∧e 1=aD row∧e 2 = .tptr 0 [aD k,aD r,aD c,aD w,v]∧e 6 = .tptr 0 [aD k,aD r,aD c,aD w,vin]∧e 10=sv∧e 12 = .tptr 0 [aD PL,aD PD,TD,aD W,TL,TS]∧e 20=lvS∧e 22=bB true∧e 23=bB true∧e 25=aD (i:Nat)∧aB (LvL m (e 9) LL.length∧cY m 67 2 sv SS.length (bI SS)∧∀ b,cF (e 9)=some b→cF sv≠some b)) LL.length ⟨0,by omega,e1,e2,e6,e10,e12,e20,e22,e23,rfl,⟨by show LvL m (e 9) _;rw [e9];exact hl.out.lv,hs.out,by show ∀ b,cF (e 9)=some b→_;rw [e9];exact tls⟩⟩ ?_
   clear e1 e2 e6 e7 e9 e10 e12 e20 e22 e23 e24 hbp hd hl hs hld hlt hlt' hq tdl tds tls
   rintro q e m ⟨i,hq,e1,e2,e6,e10,e12,e20,e22,e23,e25,hJ⟩
   replace hq:=aB.mk hq
   obtain ⟨hl,hs,hne⟩:=hJ.out
   clear hJ
   generalize e9:e 9=la at *
   by_cases hlt:i < LL.length
   ·have hlt':((i:Nat):Int) < ((LL.length:Nat):Int):=by omega
    have wi:=cI (n:=i) (by omega)
    have ws:IntKind.i64.wrap ((((LL.length+1:Nat):Nat):Int) - 1)=((LL.length:Nat):Int):=by rw [show (((LL.length+1:Nat):Nat):Int) - 1=((LL.length:Nat):Int) by omega];exact dT (by omega)
    have hbt:∀ m,eY Tryz.prog m 31 1 [(0,.agg [.val (.int .i64 (-7)),.val (.int .i64 0)])]=some ⟨.tree 1 1 [.val (.int .i64 (-7)),.val (.int .i64 0)] true,m,none⟩:=fun m=>af4 rfl rfl (by kernel_rfl) (by kernel_rfl)
    rcases hl.form with ⟨_,h0⟩ | ⟨b,cp,cs,hla,hn0,hbn,hb,hcc⟩
    ·omega
    ·subst hla
     have hsb:=hne b rfl
     have hbl:i*2+1≤cs.length:=by omega
     have hel:cD Tryz.prog 31=some 67:=by kernel_rfl
     have hrs:cH Tryz.prog 67=some 2:=by kernel_rfl
     have hsl:∀ B,kI Tryz.prog 31 none (some LL.length) none (.sl B 0 (LL.length+1) (LL.length+1) false)=some (.sl B 0 LL.length (LL.length+1) false):=fun B=>by
      simp [kI,hel,hrs,Go.Tw.cutE]
     have hlen:∀ B n c,lenE Tryz.prog 31 (.sl B 0 n c false)=some (.val (.int .i64 (n:Nat))):=fun B n c=>by simp [lenE,hel,rH,aD]
     have hs1:=hs.put_ne (j:=b) (x:=some ⟨List.take (i*2) cs++[.val (.int .i64 (-8))]++List.drop (i*2+1) cs,67,.flat,true⟩) hsb
     have hcl2:(List.take (i*2) cs++[AV.val (.int .i64 (-8))]++List.drop (i*2+1) cs).length=cs.length:=by simp;omega
     replace hs:=aB.mk hs
     replace hl:=aB.mk hl
     replace hne:=aB.mk hne
     rcases hcc with ⟨rfl,hcl⟩ | ⟨rfl,hcl⟩
     ·have hap:=awy (m:=m.put b (some ⟨List.take (i*2) cs++[.val (.int .i64 (-8))]++List.drop (i*2+1) cs,67,.flat,true⟩)) (u := .val (.int .i64 (-7))) (u' := .val (.int .i64 0)) (by rw [aG,if_pos rfl]) (by rw [hcl2];exact hcl) (by omega)
      replace hs1:=aB.mk hs1
      simp only [↓pre,simprocAttr,aA,sx,iG,b7,gW,bne,aC,aL,aI,aJ,aK,aG,aH,aZ,aW,aQ,d6,hf,ho,e1,e2,e6,e9,e10,e12,e20,e22,e23,e25,hlt',hlt,hb,hbl,wi,ws,hbt,hap,hlen,hsl,slOk,hel,bH,Option.map_some,Option.map_none,sr]
      exact ⟨q - 1,by have:=hq.out;omega,i+1,by have:=hq.out;omega,rfl,⟨⟨.inr ⟨m.next,LL.length+1,_,rfl,hn0,by rw [aW,aZ,aZ];omega,by rw [aH,if_pos (by rw [aZ,aZ])],.inr ⟨rfl,by rw [List.length_append,hcl2,hcl];simp;omega⟩⟩⟩,(hs1.out.put_ne hsb).push _,fun b' u1 u2=>by cases u1;have:=nL hs.out _ u2;omega⟩⟩
     ·have hap:=awz (m:=m.put b (some ⟨List.take (i*2) cs++[.val (.int .i64 (-8))]++List.drop (i*2+1) cs,67,.flat,true⟩)) (u := .val (.int .i64 (-7))) (u' := .val (.int .i64 0)) (by rw [aG,if_pos rfl]) (by rw [hcl2];exact hcl) (by omega)
      replace hs1:=aB.mk hs1
      simp only [↓pre,simprocAttr,aA,sx,iG,b7,gW,bne,aC,aL,aI,aJ,aK,aG,aH,aZ,aW,aQ,d6,hf,ho,e1,e2,e6,e9,e10,e12,e20,e22,e23,e25,hlt',hlt,hb,hbl,wi,ws,hbt,hap,hlen,hsl,slOk,hel,bH,Option.map_some,Option.map_none,sr]
      exact ⟨q - 1,by have:=hq.out;omega,i+1,by have:=hq.out;omega,rfl,⟨⟨.inr ⟨b,LL.length+1,_,rfl,hn0,by rw [aZ,aZ];exact hbn,by rw [aG,if_pos rfl],.inr ⟨rfl,by simp;omega⟩⟩⟩,hs1.out.put_ne hsb,hne.out⟩⟩
   ·have hlt':¬ ((i:Nat):Int) < ((LL.length:Nat):Int):=by omega
    have hla:lenE Tryz.prog 31 la=some (.val (.int .i64 (LL.length:Nat))):=by
     have h1:cD Tryz.prog 31=some 67:=by kernel_rfl
     rcases hl.form with ⟨rfl,h2⟩ | ⟨b,cp,cs,rfl,_⟩
     ·rw [h2]
      show lenE Tryz.prog 31 (.val (.slice none 0 0))=some (.val (.int .i64 0))
      kernel_rfl
     ·simp [lenE,h1,rH,aD]
    replace hl:=aB.mk hl
    replace hne:=aB.mk hne
    replace hs:=aB.mk hs
    have hls:=ant hs.out
    have e10':=aB.mk e10
    simp only [↓pre,simprocAttr,aA,sx,iG,b7,gW,bne,aC,aL,aI,aJ,aK,aG,aH,aZ,aW,aQ,d6,hf,ho,e1,e2,e6,e9,e10,e12,e20,e22,e23,e25,hlt',hla,hls,sr]
    by_cases h0:SS.length=0
    case' pos =>
     have hgt:¬ (0:Int) < ((SS.length:Nat):Int):=by omega
     simp only [↓pre,simprocAttr,aA,sx,iG,b7,gW,bne,aC,aL,aI,aJ,aK,aG,aH,aZ,aW,aQ,d6,hf,ho,e1,e2,e6,e9,e10,e12,e20,e22,e23,e25,hls,hgt,sr]
    case' neg =>
     have hgt:(0:Int) < ((SS.length:Nat):Int):=by omega
     have h0':0 < SS.length:=by omega
     obtain ⟨b,hsv,hb,hbn⟩:=hs.out.sl h0'
     obtain ⟨y,hy⟩:∃ y,SS[0]? = some y:=⟨_,List.getElem?_eq_getElem h0'⟩
     obtain ⟨u1,u2⟩:=qX SS [] 0 y hy
     rw [List.append_nil] at u1 u2
     obtain ⟨ht,htl⟩:=nZ u1 u2
     simp only [Nat.zero_mul,List.drop_zero,Nat.zero_add] at ht htl
     have hrs:=fun p q=>aoH p q y.1 y.2
     rw [hsv] at e10
     have hlv:lenE Tryz.prog 31 (.sl b 0 SS.length SS.length false)=some (.val (.int .i64 (SS.length:Nat))):=hsv ▸ hls
     replace hsv:=aB.mk hsv
     replace hy:=aB.mk hy
     replace h0:=aB.mk h0
     simp only [↓pre,simprocAttr,aA,sx,iG,b7,gW,bne,aC,aL,aI,aJ,aK,aG,aH,aZ,aW,aQ,d6,hf,ho,e1,e2,e6,e9,e10,e12,e20,e22,e23,e25,hlv,hgt,h0',hb,ht,htl,hrs,rS.addr',Nat.zero_mul,sr]
    all_goals (
     have hL:=ahQ hs.out
     rw [b9]
     refine cA (fun q e m=>∃ i,q+i=SS.length∧e 1=aD row∧e 2 = .tptr 0 [aD k,aD r,aD c,aD w,v]∧e 6 = .tptr 0 [aD k,aD r,aD c,aD w,vin]∧e 10=sv∧e 20=lvS∧e 22=bB true∧e 23=bB true∧e 26=aD (i:Nat)∧aB (qL m sv SS.length)) SS.length ⟨0,by omega,e1,e2,e6,e10'.out,e20,e22,e23,rfl,⟨hL⟩⟩ ?_
     clear e1 e2 e6 e9 e10 e10' e12 e20 e22 e23 e25 hls hgt h0 hs hl hne hL hla hlt hlt' hq
     rintro q e m ⟨i,hq,e1,e2,e6,e10,e20,e22,e23,e26,hJ⟩
     replace hq:=aB.mk hq
     have hd:=hJ.out
     clear hJ
     have hld:=hd.lenE
     by_cases hlt:i < SS.length
     ·have hlt':((i:Nat):Int) < ((SS.length:Nat):Int):=by omega
      have wi:=cI (n:=i) (by omega)
      obtain ⟨b,cs,hdv,hb,hbn,hcl,hst⟩:=hd.step hlt (.val (.int .i64 (-6)))
      replace hst:=aB.mk hst
      replace hd:=aB.mk hd
      have e10':=aB.mk e10
      rw [hdv] at e10 hld
      replace hdv:=aB.mk hdv
      simp only [↓pre,simprocAttr,aA,sx,iG,b7,gW,bne,aC,aL,aI,aJ,aK,aG,aH,aZ,aW,aQ,d6,hf,ho,e1,e2,e6,e10,e20,e22,e23,e26,hld,hlt',hlt,hb,hcl,wi,sr]
      exact ⟨q - 1,by have:=hq.out;omega,i+1,by have:=hq.out;omega,hdv.out.symm,rfl,⟨hst.out⟩⟩
     ·have hlt':¬ ((i:Nat):Int) < ((SS.length:Nat):Int):=by omega
      replace hd:=aB.mk hd
      simp only [↓pre,simprocAttr,aA,sx,iG,b7,gW,bne,aC,aL,aI,aJ,aK,aG,aH,aZ,aW,aQ,d6,hf,ho,fI,oI,sI,sD,sL,sS,oD,oL,oS,fD,fL,fS,s1,s2,s3,e1,e2,e6,e10,e20,e22,e23,e26,hld,hlt',sr]
      refine aM (h5) (by simp only [aA,aV, *]) ?_;simp only [↓pre,simprocAttr,aA,sx,iG,b7,gW,bne,aC,aL,aI,aJ,aK,aG,aH,aZ,aW,aQ,d6,hf,ho,fI,oI,sI,sD,sL,sS,oD,oL,oS,fD,fL,fS,s1,s2,s3,e1,e2,e6,e10,e20,e22,e23,e26,sr];refine aM (hsV) (by simp only [aA,aV, *]) ?_;simp only [↓pre,simprocAttr,aA,sx,iG,b7,gW,bne,aC,aL,aI,aJ,aK,aG,aH,aZ,aW,aQ,d6,hf,ho,fI,oI,sI,sD,sL,sS,oD,oL,oS,fD,fL,fS,s1,s2,s3,e1,e2,e6,e10,e20,e22,e23,e26,sr];refine aM (hsm) (by simp only [aA,aV, *]) ?_;simp only [↓pre,simprocAttr,aA,sx,iG,b7,gW,bne,aC,aL,aI,aJ,aK,aG,aH,aZ,aW,aQ,d6,hf,ho,fI,oI,sI,sD,sL,sS,oD,oL,oS,fD,fL,fS,s1,s2,s3,e1,e2,e6,e10,e20,e22,e23,e26,sr])
end Go.Proofs.YtaekhhlgnbhnpaaGreat