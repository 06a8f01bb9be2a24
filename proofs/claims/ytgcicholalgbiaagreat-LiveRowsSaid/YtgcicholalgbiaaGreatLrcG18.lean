import Derived.Test.YtgcicholalgbiaaGreatLrcG17
import Derived.Shelf.SlSortCmp.NoneTotal
set_option linter.unusedVariables false
set_option linter.unusedSimpArgs false
set_option maxRecDepth 10000
namespace Go.Proofs.YtgcicholalgbiaaGreat
open Go Go.Tw Go.Proofs
theorem sort_nil:SortNil:=by
 refine ⟨by kernel_rfl,fun w I vs hI hsz hv => ?_⟩
 have hsz2:vs.size=2:=hsz
 obtain ⟨v0,hv0,h0⟩:=VRs_at hv (j:=0) rfl
 obtain ⟨v1,hv1,h1⟩:=VRs_at hv (j:=1) rfl
 simp only [nilS,VR] at h0
 subst h0
 have hvs:vs = #[.slice none 0 0,v1]:=by
  apply Array.ext (by simpa using hsz2)
  intro i h1 h2
  have:i=0∨i=1:=by simp at h2;omega
  rcases this with rfl | rfl
  ·simp only [Array.getElem?_eq_getElem h1,Option.some.injEq] at hv0;simpa using hv0
  ·simp only [Array.getElem?_eq_getElem h1,Option.some.injEq] at hv1;simpa using hv1
 have hcon:=AnyF.slices_SortFunc_none sortTally none 0 v1 w
 change Calls Tryz.prog 131 _ _ _ at hcon
 rw [hvs]
 refine hcon.mono ?_
 rintro en w' ⟨rfl,rfl⟩
 exact ⟨.tuple #[],I,noneR,rfl,by simp only [undefA,VR],⟨fun b k g o h=>by simp [pushAll,pushFrom,Mem.empty] at h,fun b b' k k' g o o' h=>by simp [pushAll,pushFrom,Mem.empty] at h,hI,MRs.none⟩,Step.refl _ _ _ _⟩
theorem census_Tallies_ok (k r c w:Int) (v:AV) (ps:List PairB) (cells:List AV) (hv:RowV v ps cells) (hc:chkI k r c w ps=0):FSpec Tryz.prog 91 [parV k r c w,v] (tallyR (heldsP k r c w ps)):=census_Tallies_own sort_spec sort_nil k r c w v ps cells hv hc
theorem census_Tallies_bad (k r c w:Int) (v:AV) (ps:List PairB) (cells:List AV) (hv:RowV v ps cells) (hc:¬ chkI k r c w ps=0):FSpec Tryz.prog 91 [parV k r c w,v] ⟨.tup [nilS,intV (chkI k r c w ps)],[]⟩:=by
 have hp:=hv.rd.plain
 have hh:=census_held k r c w v ps cells hv
 unfold heldV at hh
 rw [if_neg hc] at hh
 generalize chkI k r c w ps=ck at *
 refine fspec_of_body follows Tryz.func91 (by unfold Tryz.f91;rfl) (by unfold Tryz.f91;simp) onceA (by unfold Tryz.f91;simp) (by kernel_rfl) ?_;unfold Tryz.f91
 simp only [↓pre,simprocAttr,parV,sx,tys91,onceA,postU]
 (first | refine call_plain (hh) (by first | rfl | simp only [parV,plQ, *]) ?_ | refine call_pure (hh) (by first | rfl | simp only [parV,plQ, *]) (by intro k;first | rfl | simp only [sq,sr, *]) ?_);simp only [↓pre,simprocAttr,parV,sx,tys91,onceA,postU,nilS,hc]
def talT (k r c w:Int) (ps:List PairB):List Int:=if chkI k r c w ps=0 then versF (heldsP k r c w ps) else []
theorem vers_cells {hs:List (Int×Int)} {v:Int} (hv:v∈versF hs):(cellsN hs v hs.length).length≠0:=by
 obtain ⟨_,_,i,y,hy,hh⟩:=((versF_falls hs).mem v).1 hv
 have hil:=(List.getElem?_eq_some_iff.1 hy).1
 have:(i:Int)∈cellsN hs v hs.length:=by
  unfold cellsN
  rw [List.mem_filterMap]
  refine ⟨i,by rw [List.mem_range];omega, ?_⟩
  have:holdsAt hs i v=true:=by
   unfold holdsAt
   rw [hy]
   simpa using hh
  rw [if_pos this]
 intro h0
 rw [List.length_eq_zero_iff.1 h0] at this
 cases this
theorem flatMap_same {α β:Type} {f g:α→List β}:∀ (l:List α),(∀ x∈l,f x=g x)→l.flatMap f=l.flatMap g
 | [],_=>rfl
 | a::l,h=>by rw [List.flatMap_cons,List.flatMap_cons,h a (by simp),flatMap_same l fun x hx=>h x (by simp [hx])]
theorem tX_cells (hs:List (Int×Int)):(tX hs).flatMap (fun x=>[intV x.1,.tree x.2.2.length x.2.2.length (intsA x.2.2) false])=tCells hs (versF hs):=by
 unfold tX tCells
 rw [List.flatMap_map]
 refine flatMap_same _ fun v hv => ?_
 have:=vers_cells hv
 simp only [tCell,treeR,if_neg this]
theorem census_Tallies (k r c w:Int) (v:AV) (ps:List PairB) (cells:List AV) (hv:RowV v ps cells):FSpec Tryz.prog 91 [parV k r c w,v] ⟨.tup [treeR (talT k r c w ps).length (tCells (heldsP k r c w ps) (talT k r c w ps)),intV (chkI k r c w ps)],[]⟩:=by
 by_cases hc:chkI k r c w ps=0
 ·have h:=census_Tallies_ok k r c w v ps cells hv hc
  rw [hc]
  unfold talT
  rw [if_pos hc]
  generalize heldsP k r c w ps=hs at *
  by_cases hn:versF hs=[]
  ·unfold tallyR at h
   rw [if_pos hn] at h
   rw [hn]
   exact h
  ·unfold tallyR at h
   rw [if_neg hn] at h
   have hxl:(tX hs).length=(versF hs).length:=by simp [tX]
   have hnl:(nestR (tX hs)).length=(versF hs).length:=by simp [nestR,hxl]
   have k9:kindT Tryz.prog 146 = .var:=by kernel_rfl
   have hlast:(nestR (tX hs)++[(146,nestO 0 (tX hs))]).getD (versF hs).length (0,[])=(146,nestO 0 (tX hs)):=by
    rw [List.getD_eq_getElem?_getD,List.getElem?_append_right (by omega),hnl,Nat.sub_self]
    rfl
   have hnf:=nest_fz (nestR (tX hs)++[(146,nestO 0 (tX hs))]) 0 (tX hs) 0 fun j x hj=>by
    have hjl:=(List.getElem?_eq_some_iff.1 hj).1
    rw [Nat.zero_add,List.getElem?_append_left (by omega)]
    unfold nestR
    rw [List.getElem?_map,hj]
    rfl
   have hlast2:=hlast
   rw [List.getD_eq_getElem?_getD] at hlast2
   have h2:=fspec_frozen 1 h (by simp [fzOk,fzOks,intV,hlast2,hnf.2])
   have e:fzV Tryz.prog (nestR (tX hs)++[(146,nestO 0 (tX hs))]) 1 (.tup [.sl (versF hs).length 0 (versF hs).length (versF hs).length false,intV 0]) = .tup [treeR (versF hs).length (tCells hs (versF hs)),intV 0]:=by
    have hne:¬ (versF hs).length=0:=fun h=>hn (List.length_eq_zero_iff.1 h)
    rw [←tX_cells hs]
    simp only [fzV,fzVs,intV,hlast,k9,reduceCtorEq,if_false,hnf.1,List.drop_zero,treeR,if_neg hne]
   rw [e] at h2
   exact h2
 ·have h:=census_Tallies_bad k r c w v ps cells hv hc
  unfold talT
  rw [if_neg hc]
  exact h
def cntB (k:Int) (hs:List (Int×Int)) (v:Int):Bool:=decide (k≤((cellsN hs v hs.length).length:Nat))
def cntT (k:Int) (hs:List (Int×Int)) (T:List Int):List Int:=T.filter (cntB k hs)
theorem talT_len (k r c w:Int) (ps:List PairB):(talT k r c w ps).length≤1073741824:=by
 have key:∀ (T:List Int) (n:Nat),T.Pairwise (· > ·)→(∀ v∈T,1≤v∧v≤n)→T.length≤n:=by
  intro T
  induction T with
  | nil=>intro n _ _;simp
  | cons a T ih =>
   intro n hp hb
   rw [List.pairwise_cons] at hp
   have h1:=hb a (by simp)
   have:=ih (a.toNat - 1) hp.2 fun v hv=>by
    have:=hp.1 v hv
    have:=hb v (by simp [hv])
    omega
   rw [List.length_cons]
   omega
 unfold talT
 split
 ·have hf:=versF_falls (heldsP k r c w ps)
  refine key _ 1073741824 hf.pw fun v hv => ?_
  have:=(hf.mem v).1 hv
  have:=helds_lt v this.2.2
  omega
 ·simp
theorem census_counting_own (k r c w:Int) (v:AV) (ps:List PairB) (cells:List AV) (hv:RowV v ps cells):FSpec Tryz.prog 62 [parV k r c w,v] (ownE 3 (cntT k (heldsP k r c w ps) (talT k r c w ps)).length (intsA (cntT k (heldsP k r c w ps) (talT k r c w ps))) (chkI k r c w ps)):=by
 have hp:=hv.rd.plain
 have hh:=census_Tallies k r c w v ps cells hv
 by_cases hc:chkI k r c w ps=0
 ·rw [hc] at hh ⊢
  have hTl:=talT_len k r c w ps
  generalize talT k r c w ps=T at *
  generalize heldsP k r c w ps=hs at *
  generalize hres:ownE 3 (cntT k hs T).length (intsA (cntT k hs T)) 0=res
  have hrd:=treeR_rd T.length (tCells hs T)
  have hlst:(if T.length=0 then (0:Int) else (0:Int))=0:=by split <;> rfl
  replace hres:=Hid.mk hres
  replace hTl:=Hid.mk hTl
  refine fspec_of_body follows Tryz.func62 (by unfold Tryz.f62;rfl) (by unfold Tryz.f62;simp) onceA (by unfold Tryz.f62;simp) (by kernel_rfl) ?_;unfold Tryz.f62
  simp only [↓pre,simprocAttr,parV,sx,tys62,onceA,postU]
  (first | refine call_plain (hh) (by first | rfl | simp only [plains,plain,plain_treeR,parV,intV,boolV,Bool.and_true,Bool.and_self, *]) ?_ | refine call_pure (hh) (by first | rfl | simp only [plains,plain,plain_treeR,parV,intV,boolV,Bool.and_true,Bool.and_self, *]) (by intro k;first | rfl | simp only [sq,sr, *]) ?_);simp only [↓pre,simprocAttr,parV,sx,tys62,onceA,postU,postFz,hrd.len']
  rw [codeW_loop]
  refine loop_intro (fun q e m=>∃ i lv,q+i=T.length∧e 2 = .tptr 0 [intV k,intV r,intV c,intV w]∧e 8=lv∧e 20=treeR T.length (tCells hs T)∧e 21=intV (T.length:Nat)∧e 22=intV (i:Nat)∧Hid (Own m 3 1 lv (cntT k hs (T.take i)).length (intsA (cntT k hs (T.take i))))) T.length ⟨0,nilS,by omega,rfl,rfl,rfl,rfl,rfl,⟨own_nil⟩⟩ ?_
  rintro q e m ⟨i,lv,hqi,e2,e8,e20,e21,e22,hJ⟩
  replace hqi:=Hid.mk hqi
  by_cases hlt:i < T.length
  ·have hlt':((i:Nat):Int) < ((T.length:Nat):Int):=by omega
   have w1:=wrap_succ (n:=i) (by have:=hTl.out;omega)
   obtain ⟨z,hz⟩:∃ z,T[i]? = some z:=⟨_,List.getElem?_eq_getElem hlt⟩
   obtain ⟨t1,t2⟩:=tCells_at hs T i z hz
   obtain ⟨ht,htl⟩:=take2 t1 t2
   have hcell:RdSl (tCell hs z) (cellsN hs z hs.length).length (intsA (cellsN hs z hs.length)):=treeR_rd _ _
   have f1:=rd_fz hcell
   have o1:=rd_one hcell
   have htk:T.take (i+1)=T.take i++[z]:=by rw [List.take_add_one,hz];rfl
   have hct:cntT k hs (T.take (i+1))=cntT k hs (T.take i)++(if cntB k hs z=true then [z] else []):=by
    unfold cntT
    rw [htk,List.filter_append]
    cases h:cntB k hs z <;> simp [h]
   have hcl:(cntT k hs (T.take i)).length≤1073741824:=by
    unfold cntT
    have:=List.length_filter_le (cntB k hs) (T.take i)
    have:=List.length_take_le i T
    have:=hTl.out
    omega
   replace hz:=Hid.mk hz
   replace htk:=Hid.mk htk
   replace hct:=Hid.mk hct
   replace hcl:=Hid.mk hcl
   by_cases hb:k≤((cellsN hs z hs.length).length:Nat)
   ·have hcb:cntB k hs z=true:=by unfold cntB;rw [decide_eq_true hb]
    simp only [↓pre,simprocAttr,parV,sx,tys62,onceA,postU,postA,postV,allocE,storeE,eq_self,put_at,push_at,e2,e8,e20,e21,e22,hlt',hrd.addr',hlt,ht,htl,f1,o1,hcell.len',hb,cond_t]
    refine app_keep (kd := .flat) (sz:=1) (y:=8) (zl:=[.int .i64 0]) (by kernel_rfl) (hJ.out.pp _ _) (by kernel_rfl) (by kernel_rfl) (by kernel_rfl) rfl srcT1 (by rfl) (by have:=hcl.out;omega) (by have:=hcl.out;omega) ?_
    intro lv' m3 ho' hnx' hkeep hbl
    simp only [↓pre,simprocAttr,parV,sx,tys62,onceA,postU,e2,e8,e20,e21,e22,w1]
    refine ⟨q - 1,by have:=hqi.out;omega,i+1,lv',by have:=hqi.out;omega,rfl,rfl,⟨?_⟩⟩
    rw [hct.out,if_pos hcb,List.length_append,intsA_append]
    exact ho'
   ·have hcb:cntB k hs z=false:=by unfold cntB;rw [decide_eq_false hb]
    simp only [↓pre,simprocAttr,parV,sx,tys62,onceA,postU,postA,postV,allocE,storeE,eq_self,put_at,push_at,e2,e8,e20,e21,e22,hlt',hrd.addr',hlt,ht,htl,f1,o1,hcell.len',hb,cond_t,cond_f,w1]
    refine ⟨q - 1,by have:=hqi.out;omega,i+1,lv,by have:=hqi.out;omega,rfl,rfl,⟨?_⟩⟩
    rw [hct.out,if_neg (by rw [hcb];decide),List.append_nil]
    exact hJ.out.pp _ _
  ·have hlt':¬ ((i:Nat):Int) < ((T.length:Nat):Int):=by omega
   have hiT:i=T.length:=by have:=hqi.out;omega
   have htk:T.take i=T:=by rw [hiT,List.take_length]
   rw [htk] at hJ
   have hcan:=own_canon (P:=Tryz.prog) (by kernel_rfl) hJ.out
   simp only [↓pre,simprocAttr,parV,sx,tys62,onceA,postU,e2,e8,e20,e21,e22,hlt',cond_f,hcan]
   rw [←hres.out]
   rfl
 ·have hT:talT k r c w ps=[]:=by unfold talT;rw [if_neg hc]
  rw [hT] at hh ⊢
  have hn:treeR ([]:List Int).length (tCells (heldsP k r c w ps) [])=nilS:=rfl
  rw [hn] at hh
  generalize chkI k r c w ps=ck at *
  refine fspec_of_body follows Tryz.func62 (by unfold Tryz.f62;rfl) (by unfold Tryz.f62;simp) onceA (by unfold Tryz.f62;simp) (by kernel_rfl) ?_;unfold Tryz.f62
  simp only [↓pre,simprocAttr,parV,sx,tys62,onceA,postU]
  (first | refine call_plain (hh) (by first | rfl | simp only [plains,plain,plain_treeR,parV,intV,boolV,Bool.and_true,Bool.and_self, *]) ?_ | refine call_pure (hh) (by first | rfl | simp only [plains,plain,plain_treeR,parV,intV,boolV,Bool.and_true,Bool.and_self, *]) (by intro k;first | rfl | simp only [sq,sr, *]) ?_);simp only [↓pre,simprocAttr,parV,sx,tys62,onceA,postU,nilS,hc]
  rfl
theorem census_counting (k r c w:Int) (v:AV) (ps:List PairB) (cells:List AV) (hv:RowV v ps cells):FSpec Tryz.prog 62 [parV k r c w,v] ⟨.tup [treeR (cntT k (heldsP k r c w ps) (talT k r c w ps)).length (intsA (cntT k (heldsP k r c w ps) (talT k r c w ps))),intV (chkI k r c w ps)],[]⟩ :=
 frozen_ownE (by kernel_rfl) (census_counting_own k r c w v ps cells hv)
def cntP (k r c w:Int) (ps:List PairB):List Int:=cntT k (heldsP k r c w ps) (talT k r c w ps)
theorem cntP_bad {k r c w:Int} {ps:List PairB} (h:¬ chkI k r c w ps=0):cntP k r c w ps=[]:=by unfold cntP talT;rw [if_neg h];rfl
def winV (k r c w:Int) (ps:List PairB):AV := .tup [intV ((cntP k r c w ps).getD 0 0),boolV (decide (1≤(cntP k r c w ps).length)),intV (chkI k r c w ps)]
theorem z0:((0:Nat):Int)=0:=rfl
theorem int_rd (n:Nat) (l:List Int):RdSl (treeR n (intsA l)) n (intsA l):=treeR_rd _ _
theorem census_Winner (k r c w:Int) (v:AV) (ps:List PairB) (cells:List AV) (hv:RowV v ps cells):FSpec Tryz.prog 32 [parV k r c w,v] ⟨winV k r c w ps,[]⟩:=by
 have hp:=hv.rd.plain
 have hh:=census_counting k r c w v ps cells hv
 have hbad:=cntP_bad (k:=k) (r:=r) (c:=c) (w:=w) (ps:=ps)
 unfold winV
 change FSpec _ _ _ ⟨.tup [treeR (cntP k r c w ps).length (intsA (cntP k r c w ps)),_],[]⟩ at hh
 generalize cntP k r c w ps=l at *
 generalize chkI k r c w ps=ck at *
 have hrd:=int_rd l.length l
 have hpl:=hrd.plain
 by_cases hc:ck=0
 ·subst hc
  cases l with
  | nil =>
   refine fspec_of_body follows Tryz.func32 (by unfold Tryz.f32;rfl) (by unfold Tryz.f32;simp) onceA (by unfold Tryz.f32;simp) (by kernel_rfl) ?_;unfold Tryz.f32
   simp only [↓pre,simprocAttr,parV,sx,tys32,onceA,postU]
   (first | refine call_plain (hh) (by first | rfl | simp only [plains,plain,plain_treeR,parV,intV,boolV,Bool.and_true,Bool.and_self, *]) ?_ | refine call_pure (hh) (by first | rfl | simp only [plains,plain,plain_treeR,parV,intV,boolV,Bool.and_true,Bool.and_self, *]) (by intro k;first | rfl | simp only [sq,sr, *]) ?_);simp only [↓pre,simprocAttr,parV,sx,tys32,onceA,postU,postFz,z0]
   rfl
  | cons a l =>
   have h1:¬ (((a::l).length:Nat):Int)=0:=by simp;omega
   have h2:0 < (a::l).length:=by simp
   have h3:(intsA (a::l))[0]? = some (.val (.int .i64 a)):=rfl
   generalize hL:a::l=L at *
   have h4:decide (1≤L.length)=true:=by rw [decide_eq_true_eq];omega
   have h5:L.getD 0 0=a:=by rw [←hL];rfl
   rw [h4,h5]
   replace hL:=Hid.mk hL
   refine fspec_of_body follows Tryz.func32 (by unfold Tryz.f32;rfl) (by unfold Tryz.f32;simp) onceA (by unfold Tryz.f32;simp) (by kernel_rfl) ?_;unfold Tryz.f32
   simp only [↓pre,simprocAttr,parV,sx,tys32,onceA,postU]
   (first | refine call_plain (hh) (by first | rfl | simp only [plains,plain,plain_treeR,parV,intV,boolV,Bool.and_true,Bool.and_self, *]) ?_ | refine call_pure (hh) (by first | rfl | simp only [plains,plain,plain_treeR,parV,intV,boolV,Bool.and_true,Bool.and_self, *]) (by intro k;first | rfl | simp only [sq,sr, *]) ?_);simp only [↓pre,simprocAttr,parV,sx,tys32,onceA,postU,postFz,hrd.len',hrd.addr',h1,h2,h3,Nat.mul_one]
   rfl
 ·have hl:l=[]:=hbad hc
  subst hl
  refine fspec_of_body follows Tryz.func32 (by unfold Tryz.f32;rfl) (by unfold Tryz.f32;simp) onceA (by unfold Tryz.f32;simp) (by kernel_rfl) ?_;unfold Tryz.f32
  simp only [↓pre,simprocAttr,parV,sx,tys32,onceA,postU]
  (first | refine call_plain (hh) (by first | rfl | simp only [plains,plain,plain_treeR,parV,intV,boolV,Bool.and_true,Bool.and_self, *]) ?_ | refine call_pure (hh) (by first | rfl | simp only [plains,plain,plain_treeR,parV,intV,boolV,Bool.and_true,Bool.and_self, *]) (by intro k;first | rfl | simp only [sq,sr, *]) ?_);simp only [↓pre,simprocAttr,parV,sx,tys32,onceA,postU,postFz,hc]
  rfl
section
variable {k:Int} {hs:List (Int×Int)} {T:List Int}
theorem cnt_mem {v:Int}:v∈cntT k hs T↔v∈T∧cntB k hs v=true:=List.mem_filter
end
def wipB (l:List Bool) (i:Nat):Bool:=l.getD i false
def wipeP (l:List Bool) (ps:List PairB) (n:Nat):List PairB:=ps.mapIdx fun i p=>if i < n∧wipB l i=true then ([],[]) else p
def goneN (l:List Bool) (n:Nat):Nat:=((List.range n).filter (wipB l)).length
theorem tal_pw (k r c w:Int) (ps:List PairB):(talT k r c w ps).Pairwise (· > ·)∧∀ x∈talT k r c w ps,1≤x∧x≤1073741824:=by
 unfold talT
 split
 ·refine ⟨(versF_falls _).pw,fun x hx => ?_⟩
  have:=((versF_falls _).mem x).1 hx
  have:=helds_lt x this.2.2
  omega
 ·exact ⟨.nil,fun x hx=>by cases hx⟩
theorem win_mem {k r c w:Int} {ps:List PairB} (h:1≤(cntP k r c w ps).length):(cntP k r c w ps).getD 0 0∈cntP k r c w ps:=by
 cases hl:cntP k r c w ps with
 | nil=>rw [hl] at h;simp at h
 | cons a l=>exact List.mem_cons_self

theorem rd_convX {P:Program} {d c:Bool} {m:Mem} {src dst:TypeId} {v:AV} {n:Nat} {cs:List AV} (h:RdSl v n cs) (hd:elE P dst=none):convX P d c m src dst v=convE P m src dst v:=by
 rcases h.form with ⟨rfl,_⟩ | ⟨a,f,rfl,_⟩ | ⟨a,f,rfl,_⟩
 ·unfold nilS;rw [convX_v,convY_o hd]
 ·have:convX P d c m src dst (.emp a f)=convY P c m src dst (.emp a f):=by cases c <;> cases d <;> rfl
  rw [this,convY_o hd]
 ·exact convX_r hd
def strB (bs:List UInt8):AV := .val (.string ⟨bs.toArray⟩)
theorem rd_strX {d c:Bool} {m:Mem} {v:AV} {bs:List UInt8} {x:List AV} (h:RdSl v bs.length (bytesA bs++x)):convX Tryz.prog d c m 54 9 v=some ⟨strB bs,m,none⟩:=by
 rw [rd_convX h (by kernel_rfl)]
 exact RdSl.str (el:=5) h (by kernel_rfl) (by kernel_rfl) (by kernel_rfl) (by kernel_rfl)
end Go.Proofs.YtgcicholalgbiaaGreat