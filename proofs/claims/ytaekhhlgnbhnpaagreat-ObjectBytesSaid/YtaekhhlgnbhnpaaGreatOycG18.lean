import Derived.Test.YtaekhhlgnbhnpaaGreatOycG17
import Derived.Shelf.SlSortCmp.NoneTotal
set_option linter.unusedVariables false
set_option linter.unusedSimpArgs false
set_option maxRecDepth 10000
namespace Go.Proofs.YtaekhhlgnbhnpaaGreat
open Go Go.Tw Go.Proofs
theorem ari:als:=by
 refine ⟨by kernel_rfl,fun w I vs hI hsz hv => ?_⟩
 have hsz2:vs.size=2:=hsz
 obtain ⟨v0,hv0,h0⟩:=gN hv (j:=0) rfl
 obtain ⟨v1,hv1,h1⟩:=gN hv (j:=1) rfl
 simp only [aP,VR] at h0
 subst h0
 have hvs:vs = #[.slice none 0 0,v1]:=by
  apply Array.ext (by simpa using hsz2)
  intro i h1 h2
  have:i=0∨i=1:=by simp at h2;omega
  rcases this with rfl | rfl
  ·simp only [Array.getElem?_eq_getElem h1,Option.some.injEq] at hv0;simpa using hv0
  ·simp only [Array.getElem?_eq_getElem h1,Option.some.injEq] at hv1;simpa using hv1
 have hcon:=AnyF.slices_SortFunc_none alu none 0 v1 w
 change Calls Tryz.prog 322 _ _ _ at hcon
 rw [hvs]
 refine hcon.mono ?_
 rintro en w' ⟨rfl,rfl⟩
 exact ⟨.tuple #[],I,dG,rfl,by simp only [eI,VR],⟨fun b k g o h=>by simp [eB,g7,aH.empty] at h,fun b b' k k' g o o' h=>by simp [eB,g7,aH.empty] at h,hI,jV.none⟩,cM.refl _ _ _ _⟩
theorem arj (k r c w:Int) (v:AV) (ps:List bN) (cells:List AV) (hv:fQ v ps cells) (hc:eD k r c w ps=0):aY Tryz.prog 290 [aA k r c w,v] (yS (fR k r c w ps)):=aq7 arh ari k r c w v ps cells hv hc
theorem ark (k r c w:Int) (v:AV) (ps:List bN) (cells:List AV) (hv:fQ v ps cells) (hc:¬ eD k r c w ps=0):aY Tryz.prog 290 [aA k r c w,v] ⟨.tup [aP,aE (eD k r c w ps)],[]⟩:=by
 have hp:=hv.rd.plain
 have hh:=alb k r c w v ps cells hv
 unfold ab4 at hh
 rw [if_neg hc] at hh
 generalize eD k r c w ps=ck at *
 refine bB follows Tryz.func290 (by unfold Tryz.f290;rfl) (by unfold Tryz.f290;simp) aD (by unfold Tryz.f290;simp) (by kernel_rfl) ?_;unfold Tryz.f290
 simp only [↓pre,simprocAttr,aA,sx,jZ,aD,aC]
 refine aL (hh) (by simp only [aA,aO, *]) ?_;simp only [↓pre,simprocAttr,aA,sx,jZ,aD,aC,aP,hc]
def jO (k r c w:Int) (ps:List bN):List Int:=if eD k r c w ps=0 then gG (fR k r c w ps) else []
theorem arl {hs:List (Int×Int)} {v:Int} (hv:v∈gG hs):(iC hs v hs.length).length≠0:=by
 obtain ⟨_,_,i,y,hy,hh⟩:=((yP hs).mem v).1 hv
 have hil:=(List.getElem?_eq_some_iff.1 hy).1
 have:(i:Int)∈iC hs v hs.length:=by
  unfold iC
  rw [List.mem_filterMap]
  refine ⟨i,by rw [List.mem_range];omega, ?_⟩
  have:pH hs i v=true:=by
   unfold pH
   rw [hy]
   simpa using hh
  rw [if_pos this]
 intro h0
 rw [List.length_eq_zero_iff.1 h0] at this
 cases this
theorem alv {α β:Type} {f g:α→List β}:∀ (l:List α),(∀ x∈l,f x=g x)→l.flatMap f=l.flatMap g
 | [],_=>rfl
 | a::l,h=>by rw [List.flatMap_cons,List.flatMap_cons,h a (by simp),alv l fun x hx=>h x (by simp [hx])]
theorem arm (hs:List (Int×Int)):(tX hs).flatMap (fun x=>[aE x.1,.tree x.2.2.length x.2.2.length (cJ x.2.2) false])=iT hs (gG hs):=by
 unfold tX iT
 rw [List.flatMap_map]
 refine alv _ fun v hv => ?_
 have:=arl hv
 simp only [aaH,bE,if_neg this]
theorem arn (k r c w:Int) (v:AV) (ps:List bN) (cells:List AV) (hv:fQ v ps cells):aY Tryz.prog 290 [aA k r c w,v] ⟨.tup [bE (jO k r c w ps).length (iT (fR k r c w ps) (jO k r c w ps)),aE (eD k r c w ps)],[]⟩:=by
 by_cases hc:eD k r c w ps=0
 ·have h:=arj k r c w v ps cells hv hc
  rw [hc]
  unfold jO
  rw [if_pos hc]
  generalize fR k r c w ps=hs at *
  by_cases hn:gG hs=[]
  ·unfold yS at h
   rw [if_pos hn] at h
   rw [hn]
   exact h
  ·unfold yS at h
   rw [if_neg hn] at h
   have hxl:(tX hs).length=(gG hs).length:=by simp [tX]
   have hnl:(m8 (tX hs)).length=(gG hs).length:=by simp [m8,hxl]
   have k9:bR Tryz.prog 226 = .var:=by kernel_rfl
   have hlast:(m8 (tX hs)++[(226,j4 0 (tX hs))]).getD (gG hs).length (0,[])=(226,j4 0 (tX hs)):=by
    rw [List.getD_eq_getElem?_getD,List.getElem?_append_right (by omega),hnl,Nat.sub_self]
    rfl
   have hnf:=alm (m8 (tX hs)++[(226,j4 0 (tX hs))]) 0 (tX hs) 0 fun j x hj=>by
    have hjl:=(List.getElem?_eq_some_iff.1 hj).1
    rw [Nat.zero_add,List.getElem?_append_left (by omega)]
    unfold m8
    rw [List.getElem?_map,hj]
    rfl
   have hlast2:=hlast
   rw [List.getD_eq_getElem?_getD] at hlast2
   have h2:=x2 1 h (by simp [iP,jX,aE,hlast2,hnf.2])
   have e:eZ Tryz.prog (m8 (tX hs)++[(226,j4 0 (tX hs))]) 1 (.tup [.sl (gG hs).length 0 (gG hs).length (gG hs).length false,aE 0]) = .tup [bE (gG hs).length (iT hs (gG hs)),aE 0]:=by
    have hne:¬ (gG hs).length=0:=fun h=>hn (List.length_eq_zero_iff.1 h)
    rw [←arm hs]
    simp only [eZ,iB,aE,hlast,k9,reduceCtorEq,if_false,hnf.1,List.drop_zero,bE,if_neg hne]
   rw [e] at h2
   exact h2
 ·have h:=ark k r c w v ps cells hv hc
  unfold jO
  rw [if_neg hc]
  exact h
def m9 (k:Int) (hs:List (Int×Int)) (v:Int):Bool:=decide (k≤((iC hs v hs.length).length:Nat))
def i6 (k:Int) (hs:List (Int×Int)) (T:List Int):List Int:=T.filter (m9 k hs)
theorem alw (k r c w:Int) (ps:List bN):(jO k r c w ps).length≤1073741824:=by
 have key:∀ (T:List Int) (n:Nat),T.Pairwise (· > ·)→(∀ v∈T,1≤v∧v≤n)→T.length≤n:=by
  intro T
  induction T with
  | nil=>intro n _ _;simp
  | cons a T ih =>
   intro n hp hb
   rw [List.pairwise_cons] at hp
   have h1:=hb a (by simp)
   have:=ih (a.toNat - 1) hp.2 fun v hv=>by
    have:=hp.1 v hv
    have:=hb v (by simp [hv])
    omega
   rw [List.length_cons]
   omega
 unfold jO
 split
 ·have hf:=yP (fR k r c w ps)
  refine key _ 1073741824 hf.pw fun v hv => ?_
  have:=(hf.mem v).1 hv
  have:=af4 v this.2.2
  omega
 ·simp
theorem aro (k r c w:Int) (v:AV) (ps:List bN) (cells:List AV) (hv:fQ v ps cells):aY Tryz.prog 232 [aA k r c w,v] (yQ 3 (i6 k (fR k r c w ps) (jO k r c w ps)).length (cJ (i6 k (fR k r c w ps) (jO k r c w ps))) (eD k r c w ps)):=by
 have hp:=hv.rd.plain
 have hh:=arn k r c w v ps cells hv
 by_cases hc:eD k r c w ps=0
 ·rw [hc] at hh ⊢
  have hTl:=alw k r c w ps
  generalize jO k r c w ps=T at *
  generalize fR k r c w ps=hs at *
  generalize hres:yQ 3 (i6 k hs T).length (cJ (i6 k hs T)) 0=res
  have hrd:=dH T.length (iT hs T)
  have hlst:(if T.length=0 then (0:Int) else (0:Int))=0:=by split <;> rfl
  replace hres:=aB.mk hres
  replace hTl:=aB.mk hTl
  refine bB follows Tryz.func232 (by unfold Tryz.f232;rfl) (by unfold Tryz.f232;simp) aD (by unfold Tryz.f232;simp) (by kernel_rfl) ?_;unfold Tryz.f232
  simp only [↓pre,simprocAttr,aA,sx,wG,aD,aC]
  refine aL (hh) (by simp only [dX,plain,aab,aA,aE,bC,Bool.and_true,Bool.and_self, *]) ?_;simp only [↓pre,simprocAttr,aA,sx,wG,aD,aC,bG,hrd.len']
  rw [b7]
  refine b8 (fun q e m=>∃ i lv,q+i=T.length∧e 2 = .tptr 0 [aE k,aE r,aE c,aE w]∧e 8=lv∧e 20=bE T.length (iT hs T)∧e 21=aE (T.length:Nat)∧e 22=aE (i:Nat)∧aB (eM m 3 1 lv (i6 k hs (T.take i)).length (cJ (i6 k hs (T.take i))))) T.length ⟨0,aP,by omega,rfl,rfl,rfl,rfl,rfl,⟨gT⟩⟩ ?_
  rintro q e m ⟨i,lv,hqi,e2,e8,e20,e21,e22,hJ⟩
  replace hqi:=aB.mk hqi
  by_cases hlt:i < T.length
  ·have hlt':((i:Nat):Int) < ((T.length:Nat):Int):=by omega
   have w1:=cF (n:=i) (by have:=hTl.out;omega)
   obtain ⟨z,hz⟩:∃ z,T[i]? = some z:=⟨_,List.getElem?_eq_getElem hlt⟩
   obtain ⟨t1,t2⟩:=af3 hs T i z hz
   obtain ⟨ht,htl⟩:=qI t1 t2
   have hcell:bD (aaH hs z) (iC hs z hs.length).length (cJ (iC hs z hs.length)):=dH _ _
   have f1:=cA hcell
   have o1:=bP hcell
   have htk:T.take (i+1)=T.take i++[z]:=by rw [List.take_add_one,hz];rfl
   have hct:i6 k hs (T.take (i+1))=i6 k hs (T.take i)++(if m9 k hs z=true then [z] else []):=by
    unfold i6
    rw [htk,List.filter_append]
    cases h:m9 k hs z <;> simp [h]
   have hcl:(i6 k hs (T.take i)).length≤1073741824:=by
    unfold i6
    have:=List.length_filter_le (m9 k hs) (T.take i)
    have:=List.length_take_le i T
    have:=hTl.out
    omega
   replace hz:=aB.mk hz
   replace htk:=aB.mk htk
   replace hct:=aB.mk hct
   replace hcl:=aB.mk hcl
   by_cases hb:k≤((iC hs z hs.length).length:Nat)
   ·have hcb:m9 k hs z=true:=by unfold m9;rw [decide_eq_true hb]
    simp only [↓pre,simprocAttr,aA,sx,wG,aD,aC,aI,aM,aK,aJ,eq_self,aF,aG,e2,e8,e20,e21,e22,hlt',hrd.addr',hlt,ht,htl,f1,o1,hcell.len',hb,dC]
    refine vV (kd := .flat) (sz:=1) (y:=8) (zl:=[.int .i64 0]) (by kernel_rfl) (hJ.out.pp _ _) (by kernel_rfl) (by kernel_rfl) (by kernel_rfl) rfl mH (by rfl) (by have:=hcl.out;omega) (by have:=hcl.out;omega) ?_
    intro lv' m3 ho' hnx' hkeep hbl
    simp only [↓pre,simprocAttr,aA,sx,wG,aD,aC,e2,e8,e20,e21,e22,w1]
    refine ⟨q - 1,by have:=hqi.out;omega,i+1,lv',by have:=hqi.out;omega,rfl,rfl,⟨?_⟩⟩
    rw [hct.out,if_pos hcb,List.length_append,ab2]
    exact ho'
   ·have hcb:m9 k hs z=false:=by unfold m9;rw [decide_eq_false hb]
    simp only [↓pre,simprocAttr,aA,sx,wG,aD,aC,aI,aM,aK,aJ,eq_self,aF,aG,e2,e8,e20,e21,e22,hlt',hrd.addr',hlt,ht,htl,f1,o1,hcell.len',hb,dC,cS,w1]
    refine ⟨q - 1,by have:=hqi.out;omega,i+1,lv,by have:=hqi.out;omega,rfl,rfl,⟨?_⟩⟩
    rw [hct.out,if_neg (by rw [hcb];decide),List.append_nil]
    exact hJ.out.pp _ _
  ·have hlt':¬ ((i:Nat):Int) < ((T.length:Nat):Int):=by omega
   have hiT:i=T.length:=by have:=hqi.out;omega
   have htk:T.take i=T:=by rw [hiT,List.take_length]
   rw [htk] at hJ
   have hcan:=ajG (P:=Tryz.prog) (by kernel_rfl) hJ.out
   simp only [↓pre,simprocAttr,aA,sx,wG,aD,aC,e2,e8,e20,e21,e22,hlt',cS,hcan]
   rw [←hres.out]
   rfl
 ·have hT:jO k r c w ps=[]:=by unfold jO;rw [if_neg hc]
  rw [hT] at hh ⊢
  have hn:bE ([]:List Int).length (iT (fR k r c w ps) [])=aP:=rfl
  rw [hn] at hh
  generalize eD k r c w ps=ck at *
  refine bB follows Tryz.func232 (by unfold Tryz.f232;rfl) (by unfold Tryz.f232;simp) aD (by unfold Tryz.f232;simp) (by kernel_rfl) ?_;unfold Tryz.f232
  simp only [↓pre,simprocAttr,aA,sx,wG,aD,aC]
  refine aL (hh) (by simp only [dX,plain,aab,aA,aE,bC,Bool.and_true,Bool.and_self, *]) ?_;simp only [↓pre,simprocAttr,aA,sx,wG,aD,aC,aP,hc]
  rfl
theorem arp (k r c w:Int) (v:AV) (ps:List bN) (cells:List AV) (hv:fQ v ps cells):aY Tryz.prog 232 [aA k r c w,v] ⟨.tup [bE (i6 k (fR k r c w ps) (jO k r c w ps)).length (cJ (i6 k (fR k r c w ps) (jO k r c w ps))),aE (eD k r c w ps)],[]⟩ :=
 aq1 (by kernel_rfl) (aro k r c w v ps cells hv)
def jF (k r c w:Int) (ps:List bN):List Int:=i6 k (fR k r c w ps) (jO k r c w ps)
theorem arq {k r c w:Int} {ps:List bN} (h:¬ eD k r c w ps=0):jF k r c w ps=[]:=by unfold jF jO;rw [if_neg h];rfl
def adO (k r c w:Int) (ps:List bN):AV := .tup [aE ((jF k r c w ps).getD 0 0),bC (decide (1≤(jF k r c w ps).length)),aE (eD k r c w ps)]
theorem z0:((0:Nat):Int)=0:=rfl
theorem ars (n:Nat) (l:List Int):bD (bE n (cJ l)) n (cJ l):=dH _ _
theorem art (k r c w:Int) (v:AV) (ps:List bN) (cells:List AV) (hv:fQ v ps cells):aY Tryz.prog 157 [aA k r c w,v] ⟨adO k r c w ps,[]⟩:=by
 have hp:=hv.rd.plain
 have hh:=arp k r c w v ps cells hv
 have hbad:=arq (k:=k) (r:=r) (c:=c) (w:=w) (ps:=ps)
 unfold adO
 change aY _ _ _ ⟨.tup [bE (jF k r c w ps).length (cJ (jF k r c w ps)),_],[]⟩ at hh
 generalize jF k r c w ps=l at *
 generalize eD k r c w ps=ck at *
 have hrd:=ars l.length l
 have hpl:=hrd.plain
 by_cases hc:ck=0
 ·subst hc
  cases l with
  | nil =>
   refine bB follows Tryz.func157 (by unfold Tryz.f157;rfl) (by unfold Tryz.f157;simp) aD (by unfold Tryz.f157;simp) (by kernel_rfl) ?_;unfold Tryz.f157
   simp only [↓pre,simprocAttr,aA,sx,aar,aD,aC]
   refine aL (hh) (by simp only [dX,plain,aab,aA,aE,bC,Bool.and_true,Bool.and_self, *]) ?_;simp only [↓pre,simprocAttr,aA,sx,aar,aD,aC,bG,z0]
   rfl
  | cons a l =>
   have h1:¬ (((a::l).length:Nat):Int)=0:=by simp;omega
   have h2:0 < (a::l).length:=by simp
   have h3:(cJ (a::l))[0]? = some (.val (.int .i64 a)):=rfl
   generalize hL:a::l=L at *
   have h4:decide (1≤L.length)=true:=by rw [decide_eq_true_eq];omega
   have h5:L.getD 0 0=a:=by rw [←hL];rfl
   rw [h4,h5]
   replace hL:=aB.mk hL
   refine bB follows Tryz.func157 (by unfold Tryz.f157;rfl) (by unfold Tryz.f157;simp) aD (by unfold Tryz.f157;simp) (by kernel_rfl) ?_;unfold Tryz.f157
   simp only [↓pre,simprocAttr,aA,sx,aar,aD,aC]
   refine aL (hh) (by simp only [dX,plain,aab,aA,aE,bC,Bool.and_true,Bool.and_self, *]) ?_;simp only [↓pre,simprocAttr,aA,sx,aar,aD,aC,bG,hrd.len',hrd.addr',h1,h2,h3,Nat.mul_one]
   rfl
 ·have hl:l=[]:=hbad hc
  subst hl
  refine bB follows Tryz.func157 (by unfold Tryz.f157;rfl) (by unfold Tryz.f157;simp) aD (by unfold Tryz.f157;simp) (by kernel_rfl) ?_;unfold Tryz.f157
  simp only [↓pre,simprocAttr,aA,sx,aar,aD,aC]
  refine aL (hh) (by simp only [dX,plain,aab,aA,aE,bC,Bool.and_true,Bool.and_self, *]) ?_;simp only [↓pre,simprocAttr,aA,sx,aar,aD,aC,bG,hc]
  rfl
section
variable {k:Int} {hs:List (Int×Int)} {T:List Int}
end
theorem alx (k r c w:Int) (ps:List bN):(jO k r c w ps).Pairwise (· > ·)∧∀ x∈jO k r c w ps,1≤x∧x≤1073741824:=by
 unfold jO
 split
 ·refine ⟨(yP _).pw,fun x hx => ?_⟩
  have:=((yP _).mem x).1 hx
  have:=af4 x this.2.2
  omega
 ·exact ⟨.nil,fun x hx=>by cases hx⟩
theorem aru {k r c w:Int} {ps:List bN} (h:1≤(jF k r c w ps).length):(jF k r c w ps).getD 0 0∈jF k r c w ps:=by
 cases hl:jF k r c w ps with
 | nil=>rw [hl] at h;simp at h
 | cons a l=>exact List.mem_cons_self
def firm:AV→Bool
 | .val _=>true
 | .tree .. => true
 | _=>false
theorem aly {P:Program} {rows:List (TypeId×List AV)} (d:Nat):∀ (cs:List AV),(∀ c∈cs,firm c=true)→iB P rows d cs=cs∧jX P rows d cs=true
 | [],_=>by unfold iB jX;exact ⟨rfl,rfl⟩
 | c::cs,h=>by
  obtain ⟨h1,h2⟩:=aly (P:=P) (rows:=rows) d cs fun x hx=>h x (by simp [hx])
  have hc:=h c (by simp)
  unfold iB jX
  rw [h1,h2]
  cases c <;> simp [firm] at hc <;> (cases d <;> (unfold eZ iP;exact ⟨rfl,rfl⟩))
theorem arv {P:Program} {f:FuncId} {args:List AV} {el:TypeId} {n:Nat} {cells:List AV} (hk:bR P el = .var) (hf:∀ c∈cells,firm c=true) (h:aY P f args (iY el n cells)):aY P f args ⟨bE n cells,[]⟩:=by
 obtain ⟨h1,h2⟩:=aly (P:=P) (rows:=(iY el n cells).rows) 0 cells hf
 have h3:=x2 1 h (by
  unfold iY at h2 ⊢
  split
  ·simp [iP,aP]
  ·rename_i hn
   rw [if_neg hn] at h2
   simp only at h2
   simp [iP,hk,h2])
 have e2:eZ P (iY el n cells).rows 1 (iY el n cells).v=bE n cells:=by
  unfold bE
  unfold iY at h1 ⊢
  split
  ·simp [eZ,aP]
  ·rename_i hn
   rw [if_neg hn] at h1
   simp only at h1
   simp [eZ,hk,h1]
 rw [e2] at h3
 exact h3
theorem arw (n:Nat) (cs:List AV):firm (bE n cs)=true:=by unfold bE;split <;> rfl
theorem arx (hs:List (Int×Int)) (T:List Int):∀ c∈iT hs T,firm c=true:=by
 intro x hx
 unfold iT at hx
 rw [List.mem_flatMap] at hx
 obtain ⟨v,_,hx⟩:=hx
 rw [List.mem_cons,List.mem_singleton] at hx
 rcases hx with rfl | rfl
 ·rfl
 ·exact arw _ _
theorem ary (k r c w:Int) (v:AV) (ps:List bN) (cells:List AV) (hv:fQ v ps cells) (hm:bL k r c w=true) (hn:ps.length≤1000000):aY Tryz.prog 198 [aA k r c w,v] ⟨bE (gG (fR k r c w ps)).length (iT (fR k r c w ps) (gG (fR k r c w ps))),[]⟩ :=
 arv (by kernel_rfl) (arx _ _) (aqS k r c w v ps cells hv hm hn)
theorem arz {k r c w:Int} {v:AV} {ps:List bN} {cells:List AV} (hv:fQ v ps cells) (hc:eD k r c w ps=0):aY Tryz.prog 198 [aA k r c w,v] ⟨bE (jO k r c w ps).length (iT (fR k r c w ps) (jO k r c w ps)),[]⟩:=by
 obtain ⟨hm,_,_,h16⟩:=alc hc
 have h:=ary k r c w v ps cells hv hm (by omega)
 have:jO k r c w ps=gG (fR k r c w ps):=by unfold jO;rw [if_pos hc]
 rw [this]
 exact h
def arA (l:List Int) (W:Int):Prop:=(l=[]∧W=0)∨(l=[W]∧0 < W)
theorem arB (k r c w:Int) (v:AV) (ps:List bN) (cells:List AV) (hv:fQ v ps cells) (hc:eD k r c w ps=0):aY Tryz.prog 112 [aA k r c w,v] ⟨.tup [aE ((jF k r c w ps).getD 0 0),aE ((jF k r c w ps).getD 1 0)],[]⟩:=by
 have hp:=hv.rd.plain
 have ha:=arz hv hc
 have hTl:=alw k r c w ps
 obtain ⟨hpw,hge⟩:=alx k r c w ps
 unfold jF
 generalize jO k r c w ps=T at *
 generalize fR k r c w ps=hs at *
 have hrd:=dH T.length (iT hs T)
 replace hpw:=aB.mk hpw
 replace hge:=aB.mk hge
 replace hTl:=aB.mk hTl
 replace hc:=aB.mk hc
 refine bB follows Tryz.func112 (by unfold Tryz.f112;rfl) (by unfold Tryz.f112;simp) aD (by unfold Tryz.f112;simp) (by kernel_rfl) ?_;unfold Tryz.f112
 simp only [↓pre,simprocAttr,aA,sx,aaq,aD,aC]
 refine aL (ha) (by simp only [dX,plain,aab,aA,aE,bC,Bool.and_true,Bool.and_self, *]) ?_;simp only [↓pre,simprocAttr,aA,sx,aaq,aD,aC,aI,bG,sr]
 rw [b7]
 refine b8 (fun q e m=>∃ i W,q+i=T.length∧e 1=v∧e 2 = .tptr 0 [aE k,aE r,aE c,aE w]∧e 6=bE T.length (iT hs T)∧e 7=aE W∧e 8=aE (i:Nat)∧aB (arA (i6 k hs (T.take i)) W)) T.length ⟨0,0,by omega,rfl,rfl,rfl,rfl,rfl,⟨.inl ⟨rfl,rfl⟩⟩⟩ ?_
 rintro q e m ⟨i,W,hqi,e1,e2,e6,e7,e8,hJ⟩
 replace hqi:=aB.mk hqi
 by_cases hlt:i < T.length
 ·have hlt':((i:Nat):Int) < ((T.length:Nat):Int):=by omega
  have w1:=cF (n:=i) (by have:=hTl.out;omega)
  obtain ⟨z,hz⟩:∃ z,T[i]? = some z:=⟨_,List.getElem?_eq_getElem hlt⟩
  obtain ⟨t1,t2⟩:=af3 hs T i z hz
  have hz1:=hge.out z (List.mem_of_getElem? hz)
  have hcell:bD (aaH hs z) (iC hs z hs.length).length (cJ (iC hs z hs.length)):=dH _ _
  have htk:T.take (i+1)=T.take i++[z]:=by rw [List.take_add_one,hz];rfl
  have hsplit:i6 k hs T=i6 k hs (T.take i)++((if m9 k hs z=true then [z] else [])++i6 k hs (T.drop (i+1))):=by
   conv=>lhs;rw [←List.take_append_drop (i+1) T,htk]
   unfold i6
   rw [List.filter_append,List.filter_append,List.append_assoc]
   cases h:m9 k hs z <;> simp [h]
  have hct:i6 k hs (T.take (i+1))=i6 k hs (T.take i)++(if m9 k hs z=true then [z] else []):=by
   unfold i6
   rw [htk,List.filter_append]
   cases h:m9 k hs z <;> simp [h]
  replace hz:=aB.mk hz
  replace htk:=aB.mk htk
  replace hct:=aB.mk hct
  replace hsplit:=aB.mk hsplit
  by_cases hb:((iC hs z hs.length).length:Nat) < k
  ·have hcb:m9 k hs z=false:=by unfold m9;rw [decide_eq_false (by omega)]
   simp only [↓pre,simprocAttr,aA,sx,aaq,aD,aC,aI,bG,e1,e2,e6,e7,e8,hlt',hrd.len',hrd.addr',hlt,t1,t2,hcell.len',hb,w1,sr]
   refine ⟨q - 1,by have:=hqi.out;omega,i+1,W,by have:=hqi.out;omega,rfl,rfl,⟨?_⟩⟩
   rw [hct.out,if_neg (by rw [hcb];decide),List.append_nil]
   exact hJ.out
  ·have hcb:m9 k hs z=true:=by unfold m9;rw [decide_eq_true (by omega)]
   by_cases hW:0 < W
   ·have hl:i6 k hs T=W::z::i6 k hs (T.drop (i+1)):=by
     rcases hJ.out with ⟨_,h0⟩ | ⟨h0,_⟩
     ·omega
     ·rw [hsplit.out,h0,if_pos hcb];rfl
    rw [hl]
    simp only [↓pre,simprocAttr,aA,sx,aaq,aD,aC,aI,bG,e1,e2,e6,e7,e8,hlt',hrd.len',hrd.addr',hlt,t1,t2,hcell.len',hb,hW,sr]
    rfl
   ·simp only [↓pre,simprocAttr,aA,sx,aaq,aD,aC,aI,bG,e1,e2,e6,e7,e8,hlt',hrd.len',hrd.addr',hlt,t1,t2,hcell.len',hb,hW,w1,sr]
    refine ⟨q - 1,by have:=hqi.out;omega,i+1,z,by have:=hqi.out;omega,rfl,rfl,⟨?_⟩⟩
    rw [hct.out,if_pos hcb]
    rcases hJ.out with ⟨h0,_⟩ | ⟨_,h0⟩
    ·rw [h0];exact .inr ⟨rfl,by omega⟩
    ·omega
 ·have hlt':¬ ((i:Nat):Int) < ((T.length:Nat):Int):=by omega
  have htk:T.take i=T:=by rw [List.take_of_length_le (by omega)]
  rw [htk] at hJ
  have hg:(i6 k hs T).getD 0 0=W∧(i6 k hs T).getD 1 0=0:=by
   rcases hJ.out with ⟨h0,h1⟩ | ⟨h0,_⟩
   ·rw [h0,h1];exact ⟨rfl,rfl⟩
   ·rw [h0];exact ⟨rfl,rfl⟩
  rw [hg.1,hg.2]
  simp only [↓pre,simprocAttr,aA,sx,aaq,aD,aC,aI,bG,e1,e2,e6,e7,e8,hlt',hrd.len',sr]
theorem arC {P:Program} {d c:Bool} {m:aH} {src dst:TypeId} {v:AV} {n:Nat} {cs:List AV} (h:bD v n cs) (hd:bZ P dst=none):mU P d c m src dst v=lG P m src dst v:=by
 rcases h.form with ⟨rfl,_⟩ | ⟨a,f,rfl,_⟩ | ⟨a,f,rfl,_⟩
 ·unfold aP;rw [afn,abx hd]
 ·have:mU P d c m src dst (.emp a f)=mF P c m src dst (.emp a f):=by cases c <;> cases d <;> rfl
  rw [this,abx hd]
 ·exact afp hd
def kG (bs:List UInt8):AV := .val (.string ⟨bs.toArray⟩)
theorem rI {d c:Bool} {m:aH} {v:AV} {bs:List UInt8} {x:List AV} (h:bD v bs.length (aQ bs++x)):mU Tryz.prog d c m 52 9 v=some ⟨kG bs,m,none⟩:=by
 rw [arC h (by kernel_rfl)]
 exact bD.str (el:=5) h (by kernel_rfl) (by kernel_rfl) (by kernel_rfl) (by kernel_rfl)
theorem arD {d:Bool} {m:aH} {bs:List UInt8}:mU Tryz.prog d true m 9 52 (kG bs)=some ⟨.tree bs.length bs.length (aQ bs) false,m,none⟩:=by
 have h:=afq (P:=Tryz.prog) (d:=d) (m:=m) (src:=9) (dst:=52) (s:=⟨bs.toArray⟩) (by kernel_rfl) (by kernel_rfl) (by kernel_rfl) (by kernel_rfl)
 unfold kG
 rw [h]
 rfl
end Go.Proofs.YtaekhhlgnbhnpaaGreat