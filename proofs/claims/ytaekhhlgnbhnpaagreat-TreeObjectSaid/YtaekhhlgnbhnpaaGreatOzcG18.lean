import Derived.Test.YtaekhhlgnbhnpaaGreatOzcG17
import Derived.Shelf.SlSortCmp.NoneTotal
set_option linter.unusedVariables false
set_option linter.unusedSimpArgs false
set_option maxRecDepth 10000
namespace Go.Proofs.YtaekhhlgnbhnpaaGreat
open Go Go.Tw Go.Proofs
theorem ass:amf:=by
 refine ⟨by kernel_rfl,fun w I vs hI hsz hv => ?_⟩
 have hsz2:vs.size=2:=hsz
 obtain ⟨v0,hv0,h0⟩:=fY hv (j:=0) rfl
 obtain ⟨v1,hv1,h1⟩:=fY hv (j:=1) rfl
 simp only [aO,VR] at h0
 subst h0
 have hvs:vs = #[.slice none 0 0,v1]:=by
  apply Array.ext (by simpa using hsz2)
  intro i h1 h2
  have:i=0∨i=1:=by simp at h2;omega
  rcases this with rfl | rfl
  ·simp only [Array.getElem?_eq_getElem h1,Option.some.injEq] at hv0;simpa using hv0
  ·simp only [Array.getElem?_eq_getElem h1,Option.some.injEq] at hv1;simpa using hv1
 have hcon:=AnyF.slices_SortFunc_none amh none 0 v1 w
 change Calls Tryz.prog 322 _ _ _ at hcon
 rw [hvs]
 refine hcon.mono ?_
 rintro en w' ⟨rfl,rfl⟩
 exact ⟨.tuple #[],I,dL,rfl,by simp only [eE,VR],⟨fun b k g o h=>by simp [d8,gG,aF.empty] at h,fun b b' k k' g o o' h=>by simp [d8,gG,aF.empty] at h,hI,j3.none⟩,cP.refl _ _ _ _⟩
theorem ast (k r c w:Int) (v:AV) (ps:List bX) (cells:List AV) (hv:fR v ps cells) (hc:eK k r c w ps=0):aX Tryz.prog 290 [aA k r c w,v] (zV (f8 k r c w ps)):=ash asr ass k r c w v ps cells hv hc
theorem asu (k r c w:Int) (v:AV) (ps:List bX) (cells:List AV) (hv:fR v ps cells) (hc:¬ eK k r c w ps=0):aX Tryz.prog 290 [aA k r c w,v] ⟨.tup [aO,aD (eK k r c w ps)],[]⟩:=by
 have hp:=hv.rd.plain
 have hh:=alZ k r c w v ps cells hv
 unfold acI at hh
 rw [if_neg hc] at hh
 generalize eK k r c w ps=ck at *
 refine bE follows Tryz.func290 (by unfold Tryz.f290;rfl) (by unfold Tryz.f290;simp) aE (by unfold Tryz.f290;simp) (by kernel_rfl) ?_;unfold Tryz.f290
 simp only [↓pre,simprocAttr,aA,sx,j8,aE,aC]
 refine aM (hh) (by simp only [aA,aV, *]) ?_;simp only [↓pre,simprocAttr,aA,sx,j8,aE,aC,aO,hc]
def jS (k r c w:Int) (ps:List bX):List Int:=if eK k r c w ps=0 then gH (f8 k r c w ps) else []
theorem asv {hs:List (Int×Int)} {v:Int} (hv:v∈gH hs):(iH hs v hs.length).length≠0:=by
 obtain ⟨_,_,i,y,hy,hh⟩:=((zS hs).mem v).1 hv
 have hil:=(List.getElem?_eq_some_iff.1 hy).1
 have:(i:Int)∈iH hs v hs.length:=by
  unfold iH
  rw [List.mem_filterMap]
  refine ⟨i,by rw [List.mem_range];omega, ?_⟩
  have:qD hs i v=true:=by
   unfold qD
   rw [hy]
   simpa using hh
  rw [if_pos this]
 intro h0
 rw [List.length_eq_zero_iff.1 h0] at this
 cases this
theorem ami {α β:Type} {f g:α→List β}:∀ (l:List α),(∀ x∈l,f x=g x)→l.flatMap f=l.flatMap g
 | [],_=>rfl
 | a::l,h=>by rw [List.flatMap_cons,List.flatMap_cons,h a (by simp),ami l fun x hx=>h x (by simp [hx])]
theorem asw (hs:List (Int×Int)):(tX hs).flatMap (fun x=>[aD x.1,.tree x.2.2.length x.2.2.length (cC x.2.2) false])=iY hs (gH hs):=by
 unfold tX iY
 rw [List.flatMap_map]
 refine ami _ fun v hv => ?_
 have:=asv hv
 simp only [abi,bJ,if_neg this]
theorem asx (k r c w:Int) (v:AV) (ps:List bX) (cells:List AV) (hv:fR v ps cells):aX Tryz.prog 290 [aA k r c w,v] ⟨.tup [bJ (jS k r c w ps).length (iY (f8 k r c w ps) (jS k r c w ps)),aD (eK k r c w ps)],[]⟩:=by
 by_cases hc:eK k r c w ps=0
 ·have h:=ast k r c w v ps cells hv hc
  rw [hc]
  unfold jS
  rw [if_pos hc]
  generalize f8 k r c w ps=hs at *
  by_cases hn:gH hs=[]
  ·unfold zV at h
   rw [if_pos hn] at h
   rw [hn]
   exact h
  ·unfold zV at h
   rw [if_neg hn] at h
   have hxl:(tX hs).length=(gH hs).length:=by simp [tX]
   have hnl:(nE (tX hs)).length=(gH hs).length:=by simp [nE,hxl]
   have k9:bW Tryz.prog 226 = .var:=by kernel_rfl
   have hlast:(nE (tX hs)++[(226,kB 0 (tX hs))]).getD (gH hs).length (0,[])=(226,kB 0 (tX hs)):=by
    rw [List.getD_eq_getElem?_getD,List.getElem?_append_right (by omega),hnl,Nat.sub_self]
    rfl
   have hnf:=al9 (nE (tX hs)++[(226,kB 0 (tX hs))]) 0 (tX hs) 0 fun j x hj=>by
    have hjl:=(List.getElem?_eq_some_iff.1 hj).1
    rw [Nat.zero_add,List.getElem?_append_left (by omega)]
    unfold nE
    rw [List.getElem?_map,hj]
    rfl
   have hlast2:=hlast
   rw [List.getD_eq_getElem?_getD] at hlast2
   have h2:=yY 1 h (by simp [iU,j5,aD,hlast2,hnf.2])
   have e:fM Tryz.prog (nE (tX hs)++[(226,kB 0 (tX hs))]) 1 (.tup [.sl (gH hs).length 0 (gH hs).length (gH hs).length false,aD 0]) = .tup [bJ (gH hs).length (iY hs (gH hs)),aD 0]:=by
    have hne:¬ (gH hs).length=0:=fun h=>hn (List.length_eq_zero_iff.1 h)
    rw [←asw hs]
    simp only [fM,iF,aD,hlast,k9,reduceCtorEq,if_false,hnf.1,List.drop_zero,bJ,if_neg hne]
   rw [e] at h2
   exact h2
 ·have h:=asu k r c w v ps cells hv hc
  unfold jS
  rw [if_neg hc]
  exact h
def nF (k:Int) (hs:List (Int×Int)) (v:Int):Bool:=decide (k≤((iH hs v hs.length).length:Nat))
def jC (k:Int) (hs:List (Int×Int)) (T:List Int):List Int:=T.filter (nF k hs)
theorem amj (k r c w:Int) (ps:List bX):(jS k r c w ps).length≤1073741824:=by
 have key:∀ (T:List Int) (n:Nat),T.Pairwise (· > ·)→(∀ v∈T,1≤v∧v≤n)→T.length≤n:=by
  intro T
  induction T with
  | nil=>intro n _ _;simp
  | cons a T ih =>
   intro n hp hb
   rw [List.pairwise_cons] at hp
   have h1:=hb a (by simp)
   have:=ih (a.toNat - 1) hp.2 fun v hv=>by
    have:=hp.1 v hv
    have:=hb v (by simp [hv])
    omega
   rw [List.length_cons]
   omega
 unfold jS
 split
 ·have hf:=zS (f8 k r c w ps)
  refine key _ 1073741824 hf.pw fun v hv => ?_
  have:=(hf.mem v).1 hv
  have:=agF v this.2.2
  omega
 ·simp
theorem asy (k r c w:Int) (v:AV) (ps:List bX) (cells:List AV) (hv:fR v ps cells):aX Tryz.prog 232 [aA k r c w,v] (zT 3 (jC k (f8 k r c w ps) (jS k r c w ps)).length (cC (jC k (f8 k r c w ps) (jS k r c w ps))) (eK k r c w ps)):=by
 have hp:=hv.rd.plain
 have hh:=asx k r c w v ps cells hv
 by_cases hc:eK k r c w ps=0
 ·rw [hc] at hh ⊢
  have hTl:=amj k r c w ps
  generalize jS k r c w ps=T at *
  generalize f8 k r c w ps=hs at *
  generalize hres:zT 3 (jC k hs T).length (cC (jC k hs T)) 0=res
  have hrd:=dX T.length (iY hs T)
  have hlst:(if T.length=0 then (0:Int) else (0:Int))=0:=by split <;> rfl
  replace hres:=aB.mk hres
  replace hTl:=aB.mk hTl
  refine bE follows Tryz.func232 (by unfold Tryz.f232;rfl) (by unfold Tryz.f232;simp) aE (by unfold Tryz.f232;simp) (by kernel_rfl) ?_;unfold Tryz.f232
  simp only [↓pre,simprocAttr,aA,sx,xQ,aE,aC]
  refine aM (hh) (by simp only [eB,plain,aaN,aA,aD,bB,Bool.and_true,Bool.and_self, *]) ?_;simp only [↓pre,simprocAttr,aA,sx,xQ,aE,aC,bQ,hrd.len']
  rw [b9]
  refine cA (fun q e m=>∃ i lv,q+i=T.length∧e 2 = .tptr 0 [aD k,aD r,aD c,aD w]∧e 8=lv∧e 20=bJ T.length (iY hs T)∧e 21=aD (T.length:Nat)∧e 22=aD (i:Nat)∧aB (cY m 3 1 lv (jC k hs (T.take i)).length (cC (jC k hs (T.take i))))) T.length ⟨0,aO,by omega,rfl,rfl,rfl,rfl,rfl,⟨fB⟩⟩ ?_
  rintro q e m ⟨i,lv,hqi,e2,e8,e20,e21,e22,hJ⟩
  replace hqi:=aB.mk hqi
  by_cases hlt:i < T.length
  ·have hlt':((i:Nat):Int) < ((T.length:Nat):Int):=by omega
   have w1:=cI (n:=i) (by have:=hTl.out;omega)
   obtain ⟨z,hz⟩:∃ z,T[i]? = some z:=⟨_,List.getElem?_eq_getElem hlt⟩
   obtain ⟨t1,t2⟩:=agE hs T i z hz
   obtain ⟨ht,htl⟩:=nZ t1 t2
   have hcell:bC (abi hs z) (iH hs z hs.length).length (cC (iH hs z hs.length)):=dX _ _
   have f1:=cM hcell
   have o1:=b6 hcell
   have htk:T.take (i+1)=T.take i++[z]:=by rw [List.take_add_one,hz];rfl
   have hct:jC k hs (T.take (i+1))=jC k hs (T.take i)++(if nF k hs z=true then [z] else []):=by
    unfold jC
    rw [htk,List.filter_append]
    cases h:nF k hs z <;> simp [h]
   have hcl:(jC k hs (T.take i)).length≤1073741824:=by
    unfold jC
    have:=List.length_filter_le (nF k hs) (T.take i)
    have:=List.length_take_le i T
    have:=hTl.out
    omega
   replace hz:=aB.mk hz
   replace htk:=aB.mk htk
   replace hct:=aB.mk hct
   replace hcl:=aB.mk hcl
   by_cases hb:k≤((iH hs z hs.length).length:Nat)
   ·have hcb:nF k hs z=true:=by unfold nF;rw [decide_eq_true hb]
    simp only [↓pre,simprocAttr,aA,sx,xQ,aE,aC,aI,aL,aK,aJ,eq_self,aG,aH,e2,e8,e20,e21,e22,hlt',hrd.addr',hlt,ht,htl,f1,o1,hcell.len',hb,dH]
    refine vN (kd := .flat) (sz:=1) (y:=8) (zl:=[.int .i64 0]) (by kernel_rfl) (hJ.out.pp _ _) (by kernel_rfl) (by kernel_rfl) (by kernel_rfl) rfl l8 (by rfl) (by have:=hcl.out;omega) (by have:=hcl.out;omega) ?_
    intro lv' m3 ho' hnx' hkeep hbl
    simp only [↓pre,simprocAttr,aA,sx,xQ,aE,aC,e2,e8,e20,e21,e22,w1]
    refine ⟨q - 1,by have:=hqi.out;omega,i+1,lv',by have:=hqi.out;omega,rfl,rfl,⟨?_⟩⟩
    rw [hct.out,if_pos hcb,List.length_append,acG]
    exact ho'
   ·have hcb:nF k hs z=false:=by unfold nF;rw [decide_eq_false hb]
    simp only [↓pre,simprocAttr,aA,sx,xQ,aE,aC,aI,aL,aK,aJ,eq_self,aG,aH,e2,e8,e20,e21,e22,hlt',hrd.addr',hlt,ht,htl,f1,o1,hcell.len',hb,dH,cW,w1]
    refine ⟨q - 1,by have:=hqi.out;omega,i+1,lv,by have:=hqi.out;omega,rfl,rfl,⟨?_⟩⟩
    rw [hct.out,if_neg (by rw [hcb];decide),List.append_nil]
    exact hJ.out.pp _ _
  ·have hlt':¬ ((i:Nat):Int) < ((T.length:Nat):Int):=by omega
   have hiT:i=T.length:=by have:=hqi.out;omega
   have htk:T.take i=T:=by rw [hiT,List.take_length]
   rw [htk] at hJ
   have hcan:=aks (P:=Tryz.prog) (by kernel_rfl) hJ.out
   simp only [↓pre,simprocAttr,aA,sx,xQ,aE,aC,e2,e8,e20,e21,e22,hlt',cW,hcan]
   rw [←hres.out]
   rfl
 ·have hT:jS k r c w ps=[]:=by unfold jS;rw [if_neg hc]
  rw [hT] at hh ⊢
  have hn:bJ ([]:List Int).length (iY (f8 k r c w ps) [])=aO:=rfl
  rw [hn] at hh
  generalize eK k r c w ps=ck at *
  refine bE follows Tryz.func232 (by unfold Tryz.f232;rfl) (by unfold Tryz.f232;simp) aE (by unfold Tryz.f232;simp) (by kernel_rfl) ?_;unfold Tryz.f232
  simp only [↓pre,simprocAttr,aA,sx,xQ,aE,aC]
  refine aM (hh) (by simp only [eB,plain,aaN,aA,aD,bB,Bool.and_true,Bool.and_self, *]) ?_;simp only [↓pre,simprocAttr,aA,sx,xQ,aE,aC,aO,hc]
  rfl
theorem asz (k r c w:Int) (v:AV) (ps:List bX) (cells:List AV) (hv:fR v ps cells):aX Tryz.prog 232 [aA k r c w,v] ⟨.tup [bJ (jC k (f8 k r c w ps) (jS k r c w ps)).length (cC (jC k (f8 k r c w ps) (jS k r c w ps))),aD (eK k r c w ps)],[]⟩ :=
 asb (by kernel_rfl) (asy k r c w v ps cells hv)
def jJ (k r c w:Int) (ps:List bX):List Int:=jC k (f8 k r c w ps) (jS k r c w ps)
theorem asA {k r c w:Int} {ps:List bX} (h:¬ eK k r c w ps=0):jJ k r c w ps=[]:=by unfold jJ jS;rw [if_neg h];rfl
def aep (k r c w:Int) (ps:List bX):AV := .tup [aD ((jJ k r c w ps).getD 0 0),bB (decide (1≤(jJ k r c w ps).length)),aD (eK k r c w ps)]
theorem z0:((0:Nat):Int)=0:=rfl
theorem asC (n:Nat) (l:List Int):bC (bJ n (cC l)) n (cC l):=dX _ _
theorem asD (k r c w:Int) (v:AV) (ps:List bX) (cells:List AV) (hv:fR v ps cells):aX Tryz.prog 157 [aA k r c w,v] ⟨aep k r c w ps,[]⟩:=by
 have hp:=hv.rd.plain
 have hh:=asz k r c w v ps cells hv
 have hbad:=asA (k:=k) (r:=r) (c:=c) (w:=w) (ps:=ps)
 unfold aep
 change aX _ _ _ ⟨.tup [bJ (jJ k r c w ps).length (cC (jJ k r c w ps)),_],[]⟩ at hh
 generalize jJ k r c w ps=l at *
 generalize eK k r c w ps=ck at *
 have hrd:=asC l.length l
 have hpl:=hrd.plain
 by_cases hc:ck=0
 ·subst hc
  cases l with
  | nil =>
   refine bE follows Tryz.func157 (by unfold Tryz.f157;rfl) (by unfold Tryz.f157;simp) aE (by unfold Tryz.f157;simp) (by kernel_rfl) ?_;unfold Tryz.f157
   simp only [↓pre,simprocAttr,aA,sx,aa4,aE,aC]
   refine aM (hh) (by simp only [eB,plain,aaN,aA,aD,bB,Bool.and_true,Bool.and_self, *]) ?_;simp only [↓pre,simprocAttr,aA,sx,aa4,aE,aC,bQ,z0]
   rfl
  | cons a l =>
   have h1:¬ (((a::l).length:Nat):Int)=0:=by simp;omega
   have h2:0 < (a::l).length:=by simp
   have h3:(cC (a::l))[0]? = some (.val (.int .i64 a)):=rfl
   generalize hL:a::l=L at *
   have h4:decide (1≤L.length)=true:=by rw [decide_eq_true_eq];omega
   have h5:L.getD 0 0=a:=by rw [←hL];rfl
   rw [h4,h5]
   replace hL:=aB.mk hL
   refine bE follows Tryz.func157 (by unfold Tryz.f157;rfl) (by unfold Tryz.f157;simp) aE (by unfold Tryz.f157;simp) (by kernel_rfl) ?_;unfold Tryz.f157
   simp only [↓pre,simprocAttr,aA,sx,aa4,aE,aC]
   refine aM (hh) (by simp only [eB,plain,aaN,aA,aD,bB,Bool.and_true,Bool.and_self, *]) ?_;simp only [↓pre,simprocAttr,aA,sx,aa4,aE,aC,bQ,hrd.len',hrd.addr',h1,h2,h3,Nat.mul_one]
   rfl
 ·have hl:l=[]:=hbad hc
  subst hl
  refine bE follows Tryz.func157 (by unfold Tryz.f157;rfl) (by unfold Tryz.f157;simp) aE (by unfold Tryz.f157;simp) (by kernel_rfl) ?_;unfold Tryz.f157
  simp only [↓pre,simprocAttr,aA,sx,aa4,aE,aC]
  refine aM (hh) (by simp only [eB,plain,aaN,aA,aD,bB,Bool.and_true,Bool.and_self, *]) ?_;simp only [↓pre,simprocAttr,aA,sx,aa4,aE,aC,bQ,hc]
  rfl
section
variable {k:Int} {hs:List (Int×Int)} {T:List Int}
end
theorem amk (k r c w:Int) (ps:List bX):(jS k r c w ps).Pairwise (· > ·)∧∀ x∈jS k r c w ps,1≤x∧x≤1073741824:=by
 unfold jS
 split
 ·refine ⟨(zS _).pw,fun x hx => ?_⟩
  have:=((zS _).mem x).1 hx
  have:=agF x this.2.2
  omega
 ·exact ⟨.nil,fun x hx=>by cases hx⟩
theorem asE {k r c w:Int} {ps:List bX} (h:1≤(jJ k r c w ps).length):(jJ k r c w ps).getD 0 0∈jJ k r c w ps:=by
 cases hl:jJ k r c w ps with
 | nil=>rw [hl] at h;simp at h
 | cons a l=>exact List.mem_cons_self
def firm:AV→Bool
 | .val _=>true
 | .tree .. => true
 | _=>false
theorem aml {P:Program} {rows:List (TypeId×List AV)} (d:Nat):∀ (cs:List AV),(∀ c∈cs,firm c=true)→iF P rows d cs=cs∧j5 P rows d cs=true
 | [],_=>by unfold iF j5;exact ⟨rfl,rfl⟩
 | c::cs,h=>by
  obtain ⟨h1,h2⟩:=aml (P:=P) (rows:=rows) d cs fun x hx=>h x (by simp [hx])
  have hc:=h c (by simp)
  unfold iF j5
  rw [h1,h2]
  cases c <;> simp [firm] at hc <;> (cases d <;> (unfold fM iU;exact ⟨rfl,rfl⟩))
theorem asF {P:Program} {f:FuncId} {args:List AV} {el:TypeId} {n:Nat} {cells:List AV} (hk:bW P el = .var) (hf:∀ c∈cells,firm c=true) (h:aX P f args (i6 el n cells)):aX P f args ⟨bJ n cells,[]⟩:=by
 obtain ⟨h1,h2⟩:=aml (P:=P) (rows:=(i6 el n cells).rows) 0 cells hf
 have h3:=yY 1 h (by
  unfold i6 at h2 ⊢
  split
  ·simp [iU,aO]
  ·rename_i hn
   rw [if_neg hn] at h2
   simp only at h2
   simp [iU,hk,h2])
 have e2:fM P (i6 el n cells).rows 1 (i6 el n cells).v=bJ n cells:=by
  unfold bJ
  unfold i6 at h1 ⊢
  split
  ·simp [fM,aO]
  ·rename_i hn
   rw [if_neg hn] at h1
   simp only at h1
   simp [fM,hk,h1]
 rw [e2] at h3
 exact h3
theorem asG (n:Nat) (cs:List AV):firm (bJ n cs)=true:=by unfold bJ;split <;> rfl
theorem asH (hs:List (Int×Int)) (T:List Int):∀ c∈iY hs T,firm c=true:=by
 intro x hx
 unfold iY at hx
 rw [List.mem_flatMap] at hx
 obtain ⟨v,_,hx⟩:=hx
 rw [List.mem_cons,List.mem_singleton] at hx
 rcases hx with rfl | rfl
 ·rfl
 ·exact asG _ _
theorem asI (k r c w:Int) (v:AV) (ps:List bX) (cells:List AV) (hv:fR v ps cells) (hm:bU k r c w=true) (hn:ps.length≤1000000):aX Tryz.prog 198 [aA k r c w,v] ⟨bJ (gH (f8 k r c w ps)).length (iY (f8 k r c w ps) (gH (f8 k r c w ps))),[]⟩ :=
 asF (by kernel_rfl) (asH _ _) (ar2 k r c w v ps cells hv hm hn)
theorem asJ {k r c w:Int} {v:AV} {ps:List bX} {cells:List AV} (hv:fR v ps cells) (hc:eK k r c w ps=0):aX Tryz.prog 198 [aA k r c w,v] ⟨bJ (jS k r c w ps).length (iY (f8 k r c w ps) (jS k r c w ps)),[]⟩:=by
 obtain ⟨hm,_,_,h16⟩:=al0 hc
 have h:=asI k r c w v ps cells hv hm (by omega)
 have:jS k r c w ps=gH (f8 k r c w ps):=by unfold jS;rw [if_pos hc]
 rw [this]
 exact h
def asK (l:List Int) (W:Int):Prop:=(l=[]∧W=0)∨(l=[W]∧0 < W)
theorem asL (k r c w:Int) (v:AV) (ps:List bX) (cells:List AV) (hv:fR v ps cells) (hc:eK k r c w ps=0):aX Tryz.prog 112 [aA k r c w,v] ⟨.tup [aD ((jJ k r c w ps).getD 0 0),aD ((jJ k r c w ps).getD 1 0)],[]⟩:=by
 have hp:=hv.rd.plain
 have ha:=asJ hv hc
 have hTl:=amj k r c w ps
 obtain ⟨hpw,hge⟩:=amk k r c w ps
 unfold jJ
 generalize jS k r c w ps=T at *
 generalize f8 k r c w ps=hs at *
 have hrd:=dX T.length (iY hs T)
 replace hpw:=aB.mk hpw
 replace hge:=aB.mk hge
 replace hTl:=aB.mk hTl
 replace hc:=aB.mk hc
 refine bE follows Tryz.func112 (by unfold Tryz.f112;rfl) (by unfold Tryz.f112;simp) aE (by unfold Tryz.f112;simp) (by kernel_rfl) ?_;unfold Tryz.f112
 simp only [↓pre,simprocAttr,aA,sx,aa3,aE,aC]
 refine aM (ha) (by simp only [eB,plain,aaN,aA,aD,bB,Bool.and_true,Bool.and_self, *]) ?_;simp only [↓pre,simprocAttr,aA,sx,aa3,aE,aC,aI,bQ,sr]
 rw [b9]
 refine cA (fun q e m=>∃ i W,q+i=T.length∧e 1=v∧e 2 = .tptr 0 [aD k,aD r,aD c,aD w]∧e 6=bJ T.length (iY hs T)∧e 7=aD W∧e 8=aD (i:Nat)∧aB (asK (jC k hs (T.take i)) W)) T.length ⟨0,0,by omega,rfl,rfl,rfl,rfl,rfl,⟨.inl ⟨rfl,rfl⟩⟩⟩ ?_
 rintro q e m ⟨i,W,hqi,e1,e2,e6,e7,e8,hJ⟩
 replace hqi:=aB.mk hqi
 by_cases hlt:i < T.length
 ·have hlt':((i:Nat):Int) < ((T.length:Nat):Int):=by omega
  have w1:=cI (n:=i) (by have:=hTl.out;omega)
  obtain ⟨z,hz⟩:∃ z,T[i]? = some z:=⟨_,List.getElem?_eq_getElem hlt⟩
  obtain ⟨t1,t2⟩:=agE hs T i z hz
  have hz1:=hge.out z (List.mem_of_getElem? hz)
  have hcell:bC (abi hs z) (iH hs z hs.length).length (cC (iH hs z hs.length)):=dX _ _
  have htk:T.take (i+1)=T.take i++[z]:=by rw [List.take_add_one,hz];rfl
  have hsplit:jC k hs T=jC k hs (T.take i)++((if nF k hs z=true then [z] else [])++jC k hs (T.drop (i+1))):=by
   conv=>lhs;rw [←List.take_append_drop (i+1) T,htk]
   unfold jC
   rw [List.filter_append,List.filter_append,List.append_assoc]
   cases h:nF k hs z <;> simp [h]
  have hct:jC k hs (T.take (i+1))=jC k hs (T.take i)++(if nF k hs z=true then [z] else []):=by
   unfold jC
   rw [htk,List.filter_append]
   cases h:nF k hs z <;> simp [h]
  replace hz:=aB.mk hz
  replace htk:=aB.mk htk
  replace hct:=aB.mk hct
  replace hsplit:=aB.mk hsplit
  by_cases hb:((iH hs z hs.length).length:Nat) < k
  ·have hcb:nF k hs z=false:=by unfold nF;rw [decide_eq_false (by omega)]
   simp only [↓pre,simprocAttr,aA,sx,aa3,aE,aC,aI,bQ,e1,e2,e6,e7,e8,hlt',hrd.len',hrd.addr',hlt,t1,t2,hcell.len',hb,w1,sr]
   refine ⟨q - 1,by have:=hqi.out;omega,i+1,W,by have:=hqi.out;omega,rfl,rfl,⟨?_⟩⟩
   rw [hct.out,if_neg (by rw [hcb];decide),List.append_nil]
   exact hJ.out
  ·have hcb:nF k hs z=true:=by unfold nF;rw [decide_eq_true (by omega)]
   by_cases hW:0 < W
   ·have hl:jC k hs T=W::z::jC k hs (T.drop (i+1)):=by
     rcases hJ.out with ⟨_,h0⟩ | ⟨h0,_⟩
     ·omega
     ·rw [hsplit.out,h0,if_pos hcb];rfl
    rw [hl]
    simp only [↓pre,simprocAttr,aA,sx,aa3,aE,aC,aI,bQ,e1,e2,e6,e7,e8,hlt',hrd.len',hrd.addr',hlt,t1,t2,hcell.len',hb,hW,sr]
    rfl
   ·simp only [↓pre,simprocAttr,aA,sx,aa3,aE,aC,aI,bQ,e1,e2,e6,e7,e8,hlt',hrd.len',hrd.addr',hlt,t1,t2,hcell.len',hb,hW,w1,sr]
    refine ⟨q - 1,by have:=hqi.out;omega,i+1,z,by have:=hqi.out;omega,rfl,rfl,⟨?_⟩⟩
    rw [hct.out,if_pos hcb]
    rcases hJ.out with ⟨h0,_⟩ | ⟨_,h0⟩
    ·rw [h0];exact .inr ⟨rfl,by omega⟩
    ·omega
 ·have hlt':¬ ((i:Nat):Int) < ((T.length:Nat):Int):=by omega
  have htk:T.take i=T:=by rw [List.take_of_length_le (by omega)]
  rw [htk] at hJ
  have hg:(jC k hs T).getD 0 0=W∧(jC k hs T).getD 1 0=0:=by
   rcases hJ.out with ⟨h0,h1⟩ | ⟨h0,_⟩
   ·rw [h0,h1];exact ⟨rfl,rfl⟩
   ·rw [h0];exact ⟨rfl,rfl⟩
  rw [hg.1,hg.2]
  simp only [↓pre,simprocAttr,aA,sx,aa3,aE,aC,aI,bQ,e1,e2,e6,e7,e8,hlt',hrd.len',sr]
theorem asM {P:Program} {d c:Bool} {m:aF} {src dst:TypeId} {v:AV} {n:Nat} {cs:List AV} (h:bC v n cs) (hd:cD P dst=none):nR P d c m src dst v=mK P m src dst v:=by
 rcases h.form with ⟨rfl,_⟩ | ⟨a,f,rfl,_⟩ | ⟨a,f,rfl,_⟩
 ·unfold aO;rw [afW,acd hd]
 ·have:nR P d c m src dst (.emp a f)=mM P c m src dst (.emp a f):=by cases c <;> cases d <;> rfl
  rw [this,acd hd]
 ·exact afX hd
def n9 (bs:List UInt8):AV := .val (.string ⟨bs.toArray⟩)
theorem wC {d c:Bool} {m:aF} {v:AV} {bs:List UInt8} {x:List AV} (h:bC v bs.length (aT bs++x)):nR Tryz.prog d c m 52 9 v=some ⟨n9 bs,m,none⟩:=by
 rw [asM h (by kernel_rfl)]
 exact bC.str (el:=5) h (by kernel_rfl) (by kernel_rfl) (by kernel_rfl) (by kernel_rfl)
theorem asN {d:Bool} {m:aF} {bs:List UInt8}:nR Tryz.prog d true m 9 52 (n9 bs)=some ⟨.tree bs.length bs.length (aT bs) false,m,none⟩:=by
 have h:=afY (P:=Tryz.prog) (d:=d) (m:=m) (src:=9) (dst:=52) (s:=⟨bs.toArray⟩) (by kernel_rfl) (by kernel_rfl) (by kernel_rfl) (by kernel_rfl)
 unfold n9
 rw [h]
 rfl
end Go.Proofs.YtaekhhlgnbhnpaaGreat