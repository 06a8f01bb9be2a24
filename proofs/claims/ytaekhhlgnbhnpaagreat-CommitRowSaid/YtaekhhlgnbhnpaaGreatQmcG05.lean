import Derived.Test.YtaekhhlgnbhnpaaGreatQmcG04
import Derived.Laws.Append
set_option linter.unusedVariables false
set_option linter.unusedSimpArgs false
open Array renaming length_toList→azv,getElem?_eq_some_iff→azB,getElem?_modify→azI,replicate→azK,getElem?_append_left→azM,mem_toList_iff→azN,mem_append→azO,append_assoc→azV
open Bool renaming false_eq_true→azA
open ForInStep renaming yield→azR
open Go renaming convert→azS
open Go.Addr renaming add_lit→ay2
open Go.Builtin renaming firstCells→azC,lenOf→azE,append_→azT,zeroCells→azU,copy_→az3,clear_→az4,len_→az5
open Go.Conv renaming bytesToString→azP
open Go.Instr renaming buildSlice→azu
open Go.IntKind renaming i64→azy
open Go.Question renaming appendCap→azJ,forced→azL
open Go.Result renaming andThen_ok→azz
open Go.Sem renaming run_bind→azw,run_pure→azx
open Go.Value renaming int→azD
open Go.Value.slice renaming injEq→az2
open List renaming getElem?_map→azo,mem_map→azp,getD_eq_getElem?_getD→azs,getElem?_eq_getElem→azm,getElem?_eq_some_iff→ay8,getElem?_take→azH,getElem?_eq_none→ay6,append_assoc→azW,getElem?_append_left→azg,getElem?_append_right→azh,size_toArray→azY,getElem?_toArray→azZ,eq_nil_of_length_eq_zero→az1,mem_cons→az7,mem_of_getElem?→az8
open Nat renaming zero_add→azq,le_refl→aza,eq_zero_or_pos→azr,mod_lt→azt,add_assoc→ay3,mul_le_mul_right→azF,le_trans→ayY,mul_one→azG,lt_or_ge→azX,add_mul→az0
open Option renaming map_eq_some_iff→ay1,map_some→az6
open Option.some renaming injEq→ay0
open Prod.mk renaming injEq→azk
open SizeOf renaming sizeOf→ayW
open UInt8 renaming ofNat→azQ
namespace Go.Tw
open Go
section
variable {P:Program} {w:World} {I:Nat→Prop} {ρ:cA} {m:aF}
def iN {α:Type} (P:Program) (w:World) (I:Nat→Prop) (ρ:cA) (m:aF) (r:Result α) (val:α→Value) (out:bL) (addr:Value):Prop :=
 ∃ x w' a ρ',r = .ok x w'∧VR P w' a ρ' out.v (val x)∧SR P w' a ρ' out.m∧cM w I ρ m w' a ρ' out.m∧∀ d y,out.wb=some (d,y)→VR P w' a ρ' y addr
theorem ajp {k:eZ} {cs:List AV} {a:Nat→Option Value} (h:bB P w I dA cs a):bB P w I (if k.kind = .flat then dA else ρ) cs a:=by
 split
 ·exact h
 ·exact agj h
theorem agr {w w1:World} {arr:Array Value} {ty:TypeId} (h:w1.heap=w.heap∧w1.os=w.os∧w1.tape=w.tape∧w1.output=w.output):qN w (w1.alloc (.cells arr ty)) arr ty:=by
 obtain ⟨a,f,c,b⟩:=h;have:=qN.alloc w1 arr ty;exact ⟨this.os.trans f,this.tape.trans c,this.output.trans b,by rw [this.size,a],fun g e=>by rw [this.same g (by rw [a];exact e),a],by rw [←a];exact this.blk,fun j d=>by rw [←a];exact this.free j d⟩
theorem abv {t:TypeId} {z:List Value} (h:gF P t=some z):∃ v,(zeroValue t).run P w = .ok v w∧v.cells.toList=z∧(∀ x∈z,vA x=true)∧(∃ i,P.info? t=some i∧i.zero=some v):=by
 unfold gF at h;obtain ⟨v,d,h⟩:=ayS h;obtain ⟨i,hi,b⟩:=ayS d;split at h
 ·rename_i a;simp only [ay0] at h;refine ⟨v,by simp [zeroValue,typeInfo,hi,b],h,fun x c => ?_,i,hi,b⟩;rw [h] at a;exact List.all_eq_true.1 a x c
 ·cases h
theorem ad7 {x:Value} (h:vA x=true):dL (.val x)=true:=by cases x <;> simp_all [dL,vA]
theorem ags {x:Value} (h:vA x=true):x.oneCell'=true:=by cases x <;> simp_all [vA,Value.oneCell']
theorem ajq (z:List Value):bB P w I ρ (z.map .val) (fun j=>z[j]?):=lG.2 fun j c a=>by
 rw [azo] at a;obtain ⟨v,b,rfl⟩:=ayT a;exact ⟨v,b,by simp only [VR]⟩
theorem aqP (o:SR P w I ρ m) (f:ρ m.next=none) {e:Bool} {t:TypeId} {out:bL} (h:bD P e m t=some out) (i addr:Value):iN P w I ρ m ((Instr.alloc t true i).run P w) id out addr:=by
 unfold bD at h;obtain ⟨z,q,h⟩:=ayS h;simp only [zag] at h;subst h;obtain ⟨v,n,l,j,_⟩:=abv (w:=w) q;have r:=qN.alloc w v.cells t;obtain ⟨a,b⟩:=aaH (k:=⟨z.map .val,t,if e then .hole else .var,true⟩) r o f rfl (fun c p=>by
  obtain ⟨x,g,rfl⟩:=azp.1 p;exact ad7 (j x g)) (ajp (by
   have:=ajq (P:=P) (w:=w) (I:=I) (ρ:=dA) z;rw [←l] at this ⊢;simpa using this)) (fun x g=>ags (j x (by rw [←l];exact g))) (fun _=>abu _ _)
 refine ⟨.pointer (some ⟨w.heap.size,0,none⟩),_,_,_, ?_, ?_,a,b,fun d y h=>by cases h⟩
 ·simp [Instr.alloc,n,newVar,newRow]
 ·simp only [id,VR];exact ⟨_,_,zJ _ _ _,rfl⟩
theorem aqQ (p:SR P w I ρ m) {f:Bool} {t:TypeId} {x:AV} {out:bL} (h:abn P f m t x=some out) (e:∀ b,m.next≤b→b < out.m.next→ρ b=none) {v:Value} (G:VR P w I ρ x v) (addr:Value) :
 iN P w I ρ m ((Instr.box t v).run P w) id out addr:=by
 unfold abn at h;obtain ⟨n,M,h⟩:=ayS h;split at h
 ·rename_i C;obtain ⟨B,l,i⟩:=agn C.2 G;have c:(Instr.box t v).run P w = .ok (.pointer (some ⟨w.heap.size,0,none⟩)) (w.alloc (.cells v.cells t)):=by simp [Instr.box,newVar,newRow]
  split at h
  ·obtain ⟨r,z,h⟩:=ayS h;simp only [zag] at h;subst h;obtain ⟨L,q,A,J,D,K,u⟩:=zK x.cells m r.2 I r.1 _ z p i;have o:=qN.alloc w v.cells t;obtain ⟨E,s⟩:=ad6 o q;refine ⟨_,_,_,_,c, ?_,E,A.trans s,fun d y h=>by cases h⟩;simp only [id,VR];refine ⟨w.heap.size,0,rfl,.inr rfl,u l, ?_⟩;obtain ⟨H,g⟩:=o.blk;exact iK (eN (s.keeps q) (fun _ _ h=>h) _ _ D) fun j _=>by rw [cell_of_row _ _ _ _ _ _ g,azq]
  ·simp only [zag] at h;subst h;have F:ρ m.next=none:=e m.next (aza _) (by simp [aF.push]);obtain ⟨a,b⟩:=aaH (k:=⟨x.cells,t,.var,true⟩) (qN.alloc w v.cells t) p F rfl l (by simpa using i) (wR (P:=P) (w:=w) (I:=I) (ρ:=ρ) l (by simpa using B) (by simpa using i)) (fun _=>abu _ _);refine ⟨_,_,_,_,c, ?_,a,b,fun d y h=>by cases h⟩;simp only [id,VR];exact ⟨_,_,zJ _ _ _,rfl⟩
 ·cases h
theorem ad8 {el:TypeId} {n:Nat} {z:List AV} (h:iJ P el n=some z):∃ sz,bX P el=some sz∧∃ arr:Array Value,
 (∀ w,(do let zero ←(if n*sz=0 then pure #[] else do pure (←zeroValue el).cells:Sem (Array Value));pure ((Array.range (n*sz)).map (zero[· % zero.size]!)):Sem (Array Value)).run P w = .ok arr w)∧arr.size=n*sz∧z.length=n*sz∧dY z∧∀ w I ρ,bB P w I ρ z (fun j=>arr[j]?):=by
 unfold iJ at h;obtain ⟨sz,l,h⟩:=ayS h;refine ⟨sz,l, ?_⟩;split at h
 ·rename_i b;simp only [ay0] at h;subst h;exact ⟨#[],fun w=>by simp [b],by simp [b],by simp [b],fun c m=>by simp at m,fun _ _ _=>by simp only [bB]⟩
 ·rename_i b;obtain ⟨E,t,h⟩:=ayS h;split at h
  ·rename_i u;simp only [ay0] at h;subst h;obtain ⟨v,D,s,B,y⟩:=abv (w:=default) t;have k:∀ w,(zeroValue el).run P w = .ok v w:=fun w=>by
    obtain ⟨v',A,_,_,i,x,C⟩:=abv (P:=P) (w:=w) t;have e:v'=v:=by
     obtain ⟨F,g,r⟩:=y;rw [x] at g;simp only [ay0] at g;subst g;rw [C] at r;exact Option.some.inj r
    rw [←e];exact A
   have d:v.cells.size=sz:=by rw [←u,←s];simp
   refine ⟨(Array.range (n*sz)).map (v.cells[· % v.cells.size]!),fun w=>by simp [b,k w],by simp,by simp,fun c m => ?_,fun w I ρ=>lG.2 fun j c q => ?_⟩
   ·obtain ⟨i,hi,rfl⟩:=azp.1 m;have a:0 < sz:=by
     rcases azr sz with e | e
     ·subst e;simp at b
     ·exact e
    refine ad7 (B _ ?_);rw [azs,azm (by rw [u];exact azt _ a)];exact List.getElem_mem _
   ·rw [azo] at q;obtain ⟨i,hi,rfl⟩:=ayT q;have f:j < n*sz:=by have:=(ay8.1 hi).1;simpa using this
    have o:i=j:=by simp [f] at hi;exact hi.symm
    subst o;have a:0 < sz:=by
     rcases azr sz with e | e
     ·subst e;simp at b
     ·exact e
    refine ⟨v.cells[i % v.cells.size]!,by simp [f], ?_⟩;simp only [VR];have p:i % sz < v.cells.size:=by rw [d];exact azt _ a
    rw [d,getElem!_pos v.cells _ p,azs,←s];simp [p]
  ·cases h
theorem aqR (J:SR P w I ρ m) {t:TypeId} {len:Nat} {parts:List (Nat×AV)} {out:bL} (h:pR P m t len parts=some out) (l:∀ b,m.next≤b→b < out.m.next→ρ b=none)
 {c:List (Nat×Value)} (hl:c.length=parts.length) (hv:∀ (j i:Nat) (S:AV) (T:Nat) (v:Value),parts[j]? = some (i,S)→c[j]? = some (T,v)→i=T∧VR P w I ρ S v) (addr:Value) :
 iN P w I ρ m ((azu t len c.toArray).run P w) id out addr:=by
 unfold pR at h;obtain ⟨el,A,h⟩:=ayS h;obtain ⟨n,E,h⟩:=ayS h;obtain ⟨z,hz,h⟩:=ayS h;split at h
 ·rename_i a0;obtain ⟨cs,G,h⟩:=ayS h;obtain ⟨sz,s,arr,q1,q2,W,Y,q5⟩:=ad8 hz;rw [E,ay0] at s;subst s;obtain ⟨g,U,V,f3,D,C⟩:=abt (P:=P) (w:=w) (I:=I) (ρ:=ρ) (place:=fun i=>some (i*n,n)) (placeE:=fun i=>some (i*n,n)) (fun _ _ h=>h) parts c z cs arr G hl hv (by rw [q2,W]) Y (q5 w I ρ);obtain ⟨p,f,kd,u,rfl,K,H,M,N,F⟩:∃ (p:aF) (f:List AV) (kd:gJ) (u:Nat→Prop),out=⟨.sl p.next 0 len len true,p.push ⟨f,el,kd,true⟩,none⟩∧SR P w u ρ p∧cM w I ρ m w u ρ p∧p.next=m.next∧bB P w u (if kd = .flat then dA else ρ) f (fun j=>g[j]?)∧dY f:=by
   cases Q:bK P el with
   | flat =>
    rw [Q] at h;obtain ⟨r,Z,h⟩:=ayS h;simp only [zag] at h;subst h;obtain ⟨u,K,H,M,N,d2,F⟩:=zK cs m r.2 I r.1 _ Z J C;exact ⟨_,_,_,_,rfl,K,H,M,by simpa using N,F D⟩
   | var =>
    rw [Q] at h;simp only [zag] at h;subst h;exact ⟨_,_,_,_,rfl,J,cM.refl _ _ _ _,rfl,by simpa using C,D⟩
   | hole =>
    rw [Q] at h;simp only [zag] at h;subst h;exact ⟨_,_,_,_,rfl,J,cM.refl _ _ _ _,rfl,by simpa using C,D⟩
  have R:=qN.alloc w g el;have hf:ρ p.next=none:=l _ (by rw [M];exact aza _) (by simp [aF.push]);obtain ⟨a,b⟩:=aaH (k:=⟨f,el,kd,true⟩) R K hf rfl F N (wR (P:=P) (w:=w) (I:=I) (ρ:=ρ) D (by rw [azv,V]) (by simpa using C)) (fun _=>abu _ _);refine ⟨.slice (some ⟨w.heap.size,0,none⟩) len len,_,_,_, ?_, ?_,a,H.trans b,fun d y h=>by cases h⟩
  ·have e:=q1 w;simp only [azw,Sem.run_ite,azx] at e;by_cases B:len*n=0
   ·simp [B] at e;simp [azu,cR (iM A),iF E,B,U,e,newRow]
   ·simp only [B,if_false] at e;have q:¬ (16777216 < len*n):=by omega
    cases o:(zeroValue el).run P w with
    | halt x y=>rw [o] at e;simp at e
    | ok x y =>
     rw [o] at e;simp at e;obtain ⟨X,q7⟩:=e;subst q7;simp [azu,cR (iM A),iF E,B,q,o,X,U,newRow]
  ·simp only [id,VR];obtain ⟨fr,O⟩:=R.blk;have L:=mJ O;refine ⟨_,_,len,el,_,n,zJ _ _ _,rfl,⟨aza _,aza _⟩,fun _=>rfl,L,E, ?_⟩;rw [V,f3,W];omega
 ·cases h
theorem aqS (J:SR P w I ρ m) {t:TypeId} {n k:Nat} {out:bL} (h:nK P m t n k=some out) (f:ρ m.next=none) (G R:IntKind) (addr:Value) :
 iN P w I ρ m ((Instr.makeSlice t (.int G n) (.int R k)).run P w) id out addr:=by
 unfold nK at h;obtain ⟨el,A,h⟩:=ayS h;obtain ⟨sz,j,h⟩:=ayS h;obtain ⟨y,F,h⟩:=ayS h;obtain ⟨z,L,h⟩:=ayS h;split at h
 ·rename_i O;obtain ⟨N,V,U⟩:=O;simp only [zag] at h;subst h;obtain ⟨i,hi,rfl⟩:=agf F;obtain ⟨M,e,arr,K,D,S,B,E⟩:=ad8 L;rw [j,ay0] at e;subst e;have C:=qN.alloc w arr el;obtain ⟨a,b⟩:=aaH (k:=⟨z.take (n*sz),el,bK P el,true⟩) C J f rfl (vC B _) (ajp (ad2 (E w I dA) _)) (wR (P:=P) (w:=w) (I:=I) (ρ:=ρ) B (by rw [azv,D,S]) (by simpa using E w I ρ)) (fun _=>abu _ _);have u:azy.wrap (n:Int)=n:=by rw [IntKind.wrap_i64];omega
  have s:azy.wrap (k:Int)=k:=by rw [IntKind.wrap_i64];omega
  have W:((i.bytes:Int)*(k:Int))≤281474976710656:=by
   have:((k*i.bytes:Nat):Int)≤281474976710656:=by omega
   rw [Int.natCast_mul,Int.mul_comm] at this;exact this
  refine ⟨.slice (some ⟨w.heap.size,0,none⟩) n k,_,_,_, ?_, ?_,a,b,fun d y h=>by cases h⟩
  ·have c:=K w;have q:¬ ((k:Int) < 0):=by omega
   have o:¬ ((n:Int) < 0):=by omega
   have l:¬ ((k:Int) < (n:Int)):=by omega
   have g:¬ ((281474976710656:Int) < (i.bytes:Int)*(k:Int)):=by omega
   unfold Instr.makeSlice;simp only [azw,cR (iM A),azz,asInt,asIntOf,azx,typeInfo,run_program,hi,u,s,run_askRoom,Int.toNat_natCast,iF j,Sem.run_ite];simp only [q,o,l,decide_false,Bool.false_or,gt_iff_lt,Bool.or_self,Int.reducePow,g,if_false,azA];simp only [azw,Sem.run_ite,azx] at c;by_cases r:k*sz=0
   ·simp [r] at c;simp [r,newRow,c]
   ·simp only [r,if_false] at c ⊢;cases p:(zeroValue el).run P w with
    | halt x y=>rw [p] at c;simp at c
    | ok x y =>
     rw [p] at c;simp at c;obtain ⟨H,Q⟩:=c;subst Q;simp [H,newRow]
  ·simp only [id,VR];obtain ⟨T,v⟩:=C.blk;refine ⟨_,_,k,el,_,sz,zJ _ _ _,rfl,⟨N,aza _⟩,fun _=>rfl,mJ v,j, ?_⟩;rw [D];omega
 ·cases h
end
section
variable {P:Program} {w:World} {I:Nat→Prop} {ρ:cA} {m:aF}
theorem aqT (v:Value):v.cells.toList.length=v.cells.size:=by simp
theorem aqU {t:TypeId} {n:Nat} (b:bX P t=some n) {a:Addr} {v:Value} (hs:v.cells.size=n) {r:Result Unit} (h:(storeCells a v.cells.toList).run P w=r):(storeVar t a v).run P w=r:=by
 simp [storeVar,iF b,hs,h]
theorem acR {k:eZ} {g o:Nat} (h:BR P w I ρ k g o) (c:k.wr=true) {arr:Array Value} {ty:TypeId} {a:Nat×Nat} (d:w.heap[g]? = some (.cells arr ty a)):∀ j,w.frozen? ⟨g,j,none⟩=true→arr.size≤j :=
 fun j b=>(h.wr c).2 j b arr.size ty (mJ d)
theorem acS {cs e:List AV} {a o p:Nat} (s:p=o+a) (g:a+e.length≤cs.length) {arr b:Array Value} {vs:List Value} (n:vs.length=e.length)
 (h:bB P w I ρ cs (fun j=>arr[o+j]?)) (r:bB P w I ρ e (fun j=>vs[j]?)) (k:∀ i,b[i]? = if p≤i∧i < p+vs.length∧i < arr.size then vs[i - p]? else arr[i]?):bB P w I ρ (cH cs a e) (fun j=>b[o+j]?):=by
 subst s;refine lG.2 fun j c d => ?_
 rw [ago _ _ _ g] at d;simp only [k];split at d
 ·rename_i m;have f:j < cs.length:=by omega
  obtain ⟨u,t⟩:=abp h f;have x:o+j < arr.size:=(azB.1 t).1;rw [if_pos (by omega)];obtain ⟨v,l,q⟩:=gW r d;exact ⟨v,by rw [show o+j - (o+a)=j - a by omega];exact l,q⟩
 ·rename_i m;rw [if_neg (by omega)];exact gW h d
theorem zL (x:Option eZ):(match x with
 | some k=>∃ wr,x=some ⟨k.cells,k.el,k.kind,wr⟩∧(wr=true→k.wr=true)
 | none=>x=none):=by
 cases x with
 | none=>rfl
 | some k=>exact ⟨k.wr,rfl,fun h=>h⟩
mutual
theorem aqV : ∀ (av : AV) (m m' : aF) (av' : AV), fz m av = some (av', m') → ∀ b, match m.at_ b with
   | some k => ∃ wr, m'.at_ b = some ⟨k.cells, k.el, k.kind, wr⟩ ∧ (wr = true → k.wr = true)
   | none => m'.at_ b = none
 | .val x, m, m', av', h, b => by
   simp only [fz, ay0, azk] at h; obtain ⟨rfl, rfl⟩ := h; exact zL _
 | .tree n c cs f, m, m', av', h, b => by
   simp only [fz, ay0, azk] at h; obtain ⟨rfl, rfl⟩ := h; exact zL _
 | .tptr o cs, m, m', av', h, b => by
   simp only [fz, ay0, azk] at h; obtain ⟨rfl, rfl⟩ := h; exact zL _
 | .emp c f, m, m', av', h, b => by
   simp only [fz, ay0, azk] at h; obtain ⟨rfl, rfl⟩ := h; exact zL _
 | .agg cs, m, m', av', h, b => by
   simp only [fz] at h
   obtain ⟨r, hr, h⟩ := ayT h
   simp only [azk] at h
   obtain ⟨rfl, rfl⟩ := h
   exact ad9 cs m r.2 r.1 hr b
 | .sl c off len cc full, m, m', av', h, b => by
   simp only [fz] at h
   split at h
   · rename_i cells el wr hb
     simp only [ay0, azk] at h
     obtain ⟨rfl, rfl⟩ := h
     by_cases e : b = c
     · subst e; rw [hb]; exact ⟨false, by simp [aF.put], fun h => by cases h⟩
     · have : (m.put c (some ⟨cells, el, .flat, false⟩)).at_ b = m.at_ b := by simp [aF.put, e]
       rw [this]
       exact zL _
   · rename_i cells el wr hb
     split at h
     · cases h
     simp only [ay0, azk] at h
     obtain ⟨rfl, rfl⟩ := h
     by_cases e : b = c
     · subst e; rw [hb]; exact ⟨false, by simp [aF.put], fun h => by cases h⟩
     · have : (m.put c (some ⟨cells, el, .var, false⟩)).at_ b = m.at_ b := by simp [aF.put, e]
       rw [this]
       exact zL _
   · cases h
 | .ptr _ _, m, m', av', h, b => by simp [fz] at h
 | .tup _, m, m', av', h, b => by simp [fz] at h
 | .clo f [], m, m', av', h, b => by
   simp only [fz, ay0, azk] at h; obtain ⟨rfl, rfl⟩ := h; exact zL _
 | .clo f (c :: cs), m, m', av', h, b => by simp [fz] at h
theorem ad9 : ∀ (cs : List AV) (m m' : aF) (cs' : List AV), fzs m cs = some (cs', m') → ∀ b, match m.at_ b with
   | some k => ∃ wr, m'.at_ b = some ⟨k.cells, k.el, k.kind, wr⟩ ∧ (wr = true → k.wr = true)
   | none => m'.at_ b = none
 | [], m, m', cs', h, b => by
   simp only [fzs, ay0, azk] at h; obtain ⟨rfl, rfl⟩ := h; exact zL _
 | c :: cs, m, m', cs', h, b => by
   simp only [fzs] at h
   obtain ⟨r, hr, h⟩ := ayS h
   obtain ⟨s, hs, h⟩ := ayT h
   simp only [azk] at h
   obtain ⟨rfl, rfl⟩ := h
   have h1 := aqV c m r.2 r.1 hr b
   have h2 := ad9 cs r.2 s.2 s.1 hs b
   cases hq : m.at_ b with
   | none => rw [hq] at h1; simp only at h1; rw [h1] at h2; exact h2
   | some k =>
     rw [hq] at h1
     simp only at h1
     obtain ⟨wr, h3, h4⟩ := h1
     rw [h3] at h2
     simp only at h2
     obtain ⟨wr', h5, h6⟩ := h2
     exact ⟨wr', h5, fun h => h4 (h6 h)⟩
end
theorem aqW (R : SR P w I ρ m) {t : TypeId} {X : Option Nat} {x a : AV} {out : bL} (h : aS P m t X x a = some out) {v va : Value} (hv : VR P w I ρ x v) (ha : VR P w I ρ a va) :
   iN P w I ρ m ((Instr.storeAt t va v).run P w) (fun _ => undef) out va := by
 unfold aS at h;split at h
 · rename_i b c
   obtain ⟨n, hn, h⟩ := ayS h;obtain ⟨k, T, h⟩ := ayS h;split at h
   · rename_i hc
     obtain ⟨c1, c2, M, c4, c0⟩ := hc;simp only [VR] at ha;obtain ⟨g, o, Q, rfl⟩ := ha;have hB := R.blk b k g o T Q;obtain ⟨arr, fr, F, q⟩ := hB.cells;obtain ⟨g1, g2, g3⟩ := agn c4 hv;have N : v.cells.toList.length = x.cells.length := by rw [aqT, g1]
     have a8 : o + c + v.cells.toList.length ≤ arr.size := by
       obtain ⟨u, hu⟩ := abp q (j := c + n - 1) (by omega);have := (azB.1 hu).1;omega
     have B := wR (P := P) (w := w) (I := I) (ρ := ρ) g2 N (by simpa using g3);have A : (Instr.storeAt t (.pointer (some ⟨g, o + c, none⟩)) v).run P w = .ok () (w.setCells g (o + c) v.cells.toList) := by
       have := acQ (P := P) (w := w) F (acR hB M F) a8 B;simp [Instr.storeAt, Instr.sureAddr, aqU hn (by rw [g1, c1]) this]
     split at h
     · -- a hole: written once, immutable from now on
       rename_i f;obtain ⟨d, hd, h⟩ := ayS h;split at h
       · rename_i a6
         obtain ⟨c5, c6⟩ := a6;obtain ⟨r, hr, h⟩ := ayS h;simp only [ay0] at h;subst h;obtain ⟨e1, Y⟩ := ajm R b;obtain ⟨W, H, b1, f1, d1, d2, d3⟩ := zK x.cells (m.put b none) r.2 I r.1 _ hr e1 g3;have G := Y.trans b1;have a5 : ¬ I g := (hB.wr M).1;have K : ∀ i k' D C, r.2.at_ i = some k' → ρ i = some (D, C) → D ≠ g := by
           rintro i k' D C E U rfl;have := ad9 x.cells (m.put b none) r.2 r.1 hr i;by_cases e : i = b
           · have V : (m.put b none).at_ i = none := by simp [aF.put, e]
             rw [V] at this;rw [this] at E;cases E
           · have V : (m.put b none).at_ i = m.at_ i := by simp [aF.put, e]
             rw [V] at this;cases hq : m.at_ i with
             | none => rw [hq] at this; rw [this] at E; cases E
             | some k2 => exact e (R.inj b i k k2 _ o C T hq Q U M).symm
         have Z : ¬ W g := by
           intro S;rcases b1.back g S with z | (⟨i, k', C, z, h2, h3⟩ | z) | z
           · exact a5 z
           · by_cases e : i = b
             · simp [aF.put, e] at z
             · have V : (m.put b none).at_ i = m.at_ i := by simp [aF.put, e]
               rw [V] at z;exact e (R.inj b i k k' _ o C T z Q h3 M).symm
           · exact (R.mms.not_cells z F).elim
           · have := zI F; omega
         obtain ⟨L, z, h2, h3⟩ := agp g v.cells.toList (o + c) w arr k.el fr F;obtain ⟨r1, r2, r3, r4⟩ := agq g v.cells.toList (o + c) w;have a4 : ∀ x y, w.shape? x = some y → (w.setCells g (o + c) v.cells.toList).shape? x = some y := by
           intro x y hx;by_cases e : x = g
           · subst e
             rw [mJ z, h2, ← mJ F]; exact hx
           · rw [xW (vD g _ _ w x e)]; exact hx
         have O : iL w (w.setCells g (o + c) v.cells.toList) W (fun y => W y ∨ y = g) := ⟨fun _ h => .inl h, fun y l => vD g _ _ w y (fun e => Z (e ▸ l)), a4⟩
         refine ⟨(), _, (fun y => W y ∨ y = g), ρ, A, by simp only [eI, undef, VR], ⟨fun i k' D C E U => ?_, H.inj, fun y l => ?_, H.mms.keep O (fun _ _ h => h) (fun y l => ⟨vD g _ _ w y (fun e => by subst e; exact (H.mms.not_cells l F).elim), fun h => h.elim id fun h => by subst h; exact (H.mms.not_cells l F).elim⟩)⟩, ⟨r1, r2, r3, by rw [r4]; exact aza _, fun y l hn => vD g _ _ w y (fun e => hn (.inl ⟨b, k, o, T, M, by rw [e]; exact Q⟩)), a4, fun y l => .inl (G.imm y l), fun y l => ?_, fun _ _ h => h, fun b z h2 => absurd z h2, fun y l => G.own y l, G.next⟩, fun d' y l => ?_⟩
         · refine tY O (fun _ _ h => h) (H.blk i k' D C E U) (vD g _ _ w D (K i k' D C E U)) (fun a7 S => ?_)
           rcases S with S | S
           · exact ((H.blk i k' D C E U).wr a7).1 S
           · exact K i k' D C E U S
         · rw [r4]
           rcases l with l | rfl
           · exact H.lt y l
           · exact zI F
         · rcases l with l | rfl
           · exact G.back y l
           · exact .inr (.inl (.inl ⟨b, k, o, T, M, Q⟩))
         · simp only [ay0, azk] at l
           obtain ⟨rfl, rfl⟩ := l;simp only [VR];refine ⟨g, o + c, rfl, .inr rfl, d3 g2, ?_⟩;refine iK (eN O (fun _ _ h => h) _ _ d1) fun j hj => ?_
           rw [cell_of_row _ _ _ _ _ _ z, h3, if_pos (by omega)];simp
       · cases h
     · rename_i f
       simp only [zag] at h;subst h;rw [f] at q;obtain ⟨s1, s2⟩ := aaK (k' := ⟨cH k.cells c x.cells, k.el, .var, true⟩) R T M Q (vs := v.cells.toList) (p := o + c) ⟨rfl, rfl, abq hB.one g2 _⟩ B (fun a2 a9 e0 s L e1 Y => by
         rw [f] at s;simp only [reduceCtorEq, if_false] at s ⊢;exact acS rfl (by omega) N s (by simpa using g3) Y)
       exact ⟨(), _, _, _, A, by simp only [eI, undef, VR], s1, s2, fun d y h => by cases h⟩
     · rename_i f
       obtain ⟨r, hr, h⟩ := ayS h;obtain ⟨k1, a3, h⟩ := ayS h;split at h
       · rename_i a0
         simp only [zag] at h;subst h;obtain ⟨W, H, b1, e1, d1, d2, d3⟩ := zK x.cells m r.2 I r.1 _ hr R g3;have J := ad9 x.cells m r.2 r.1 hr b;rw [T] at J;obtain ⟨wr, h5, h6⟩ := J;rw [a3, ay0] at h5;subst h5;simp only at a0;obtain ⟨s1, s2⟩ := aaK (k' := ⟨cH k.cells c r.1, k.el, .flat, true⟩) H a3 a0 Q (vs := v.cells.toList) (p := o + c) ⟨rfl, rfl, abq hB.one (d3 g2) _⟩ B (fun a2 a9 e0 s L e1 Y => by
           simp only [f, if_true] at s ⊢;exact acS rfl (by rw [d2]; omega) (by rw [d2]; exact N) s (by simpa using d1) Y)
         exact ⟨(), _, _, _, A, by simp only [eI, undef, VR], s1, b1.trans s2, fun d y h => by cases h⟩
       · cases h
   · cases h
 · cases h
end
section
variable {P:Program} {w:World} {I:Nat→Prop} {ρ:cA} {m:aF}
def kR (k:gJ) (ρ:cA):cA:=if k = .flat then dA else ρ
theorem aqX {κ:cA} {cs:List AV} {a:Nat→Option Value} (h:bB P w I dA cs a):bB P w I κ cs a :=
 eN (⟨fun _ h=>h,fun _ _=>rfl,fun _ _ h=>h⟩:iL w w I I) (fun b x h=>by cases h) _ _ h
def acT (P:Program) (w:World) (I:Nat→Prop) (κ:cA) (a:Option Addr) (cs:List AV):Prop :=
 match a with
 | some b=>(cs≠[]→b.spot=none)∧bB P w I κ cs (fun j=>w.cell? ⟨b.block,b.off+j,none⟩)
 | none=>cs=[]
theorem acU (B:SR P w I ρ m) {x:AV} {cs:List AV} {n:Nat} {f:Bool} {kd:gJ} (h:dR kd m x=some (cs,n,f)) {v:Value} (i:VR P w I ρ x v) :
 ∃ a cap,v = .slice a n cap∧n≤cap∧(f=true→cap=n)∧acT P w I (kR kd ρ) a cs∧dY cs∧(a=none→cs=[]∧n=0∧cap=0):=by
 cases x with
 | val x =>
  simp only [VR] at i;subst i;unfold dR at h;split at h
  ·rename_i d;simp only [AV.val.injEq] at d;subst d;simp only [ay0,azk] at h;obtain ⟨rfl,rfl,rfl⟩:=h;exact ⟨none,0,rfl,aza _,fun _=>rfl,rfl,fun c q=>by simp at q,fun _=>⟨rfl,rfl,rfl⟩⟩
  ·rename_i d;cases d
  ·rename_i d;cases d
  ·rename_i d;cases d
  ·cases h
 | tree l c cells y =>
  simp only [dR,ay0,azk] at h;obtain ⟨rfl,rfl,rfl⟩:=h;simp only [VR] at i;obtain ⟨g,o,cap,rfl,L,⟨z,u⟩,k,G,A⟩:=i;refine ⟨some ⟨g,o,none⟩,cap,rfl,by omega,fun e => ?_,⟨fun _=>rfl,aqX A⟩,G,fun h=>by cases h⟩;simp at e;rw [k e.1,e.2]
 | emp c y =>
  simp only [dR,ay0,azk] at h;obtain ⟨rfl,rfl,rfl⟩:=h;simp only [VR] at i;obtain ⟨J,cap,rfl,u,k⟩:=i;refine ⟨some J,cap,rfl,by omega,fun e => ?_,⟨fun h=>absurd rfl h,by simp only [bB]⟩,fun c q=>by simp at q,fun h=>by cases h⟩;simp at e;rw [k e.1,e.2]
 | sl b p l c y =>
  simp only [dR] at h;split at h
  ·rename_i x F;split at h
   case isFalse=>cases h
   rename_i r;simp only [ay0,azk] at h;obtain ⟨rfl,rfl,rfl⟩:=h;simp only [VR] at i;obtain ⟨g,o,cap,ty,M,s,D,rfl,⟨z,u⟩,k,_⟩:=i;have t:=B.blk b _ g o F D;refine ⟨some ⟨g,o+p,none⟩,cap,rfl,by omega,fun e => ?_,⟨fun _=>rfl, ?_⟩,lH t.one _,fun h=>by cases h⟩
   ·simp at e;rw [k e.1,e.2]
   ·obtain ⟨arr,K,H,C⟩:=t.cells;have E:bB P w I (kR kd ρ) x.cells (fun j=>arr[o+j]?):=by unfold kR;rw [←r];exact C
    refine iK (lS E p) fun j _ => ?_
    simp [World.cell?,H,ay3]
  ·cases h
 | agg _=>simp [dR] at h
 | tup _=>simp [dR] at h
 | tptr _ _=>simp [dR] at h
 | ptr _ _=>simp [dR] at h
 | clo _ _=>simp [dR] at h
theorem aea {κ:cA} {a:Option Addr} {cs:List AV} (h:acT P w I κ a cs) {sz n:Nat} (p:n*sz≤cs.length) {len cap:Nat} (o:a=none→n=0) :
 ∃ b:List Value,b.length=n*sz∧(azC sz n (.slice a len cap)).run P w = .ok b.toArray w∧bB P w I κ (cs.take (n*sz)) (fun j=>b[j]?):=by
 cases a with
 | none =>
  simp only [acT] at h;subst h;have:n=0:=o rfl;subst this;exact ⟨[],by simp,by simp [azC],by simp [bB]⟩
 | some d =>
  obtain ⟨g,h⟩:=h;obtain ⟨vs,l,f,r⟩:=aje (ad2 h (n*sz));have c:vs.length=n*sz:=by rw [l,List.length_take];omega
  have m:=run_loadCells_list (P:=P) (w:=w) d vs (fun j v k=>by
   have:=f j v k;have e:d.add j=⟨d.block,d.off+j,none⟩:=by
    have i:cs≠[]:=fun e=>by
     subst e;simp at l;subst l;simp at k
    obtain ⟨x,y,z⟩:=d;have g:=g i;simp only at g;subst g;exact ay2 x y j
   rw [e];exact this)
  rw [c] at m;exact ⟨vs,c,by simp [azC,m],r⟩
theorem agt (b:ByteArray):bB P w I ρ (jA b) (fun j=>(b.data.toList.map fun x=>azD .u8 x.toNat)[j]?):=lG.2 fun j c a=>by
 unfold jA at a;rw [azo] at a;obtain ⟨x,d,rfl⟩:=ayT a;exact ⟨.int .u8 x.toNat,by rw [azo,d];rfl,by simp only [bA,VR]⟩
theorem agu (b:ByteArray):dY (jA b):=fun c a=>by
 obtain ⟨x,_,rfl⟩:=azp.1 a;rfl
theorem agv (b:ByteArray):(jA b).length=b.size:=by simp [jA]
theorem agw (C:SR P w I ρ m) {el:TypeId} {sz:Nat} {x:AV} {new:List AV} {n:Nat} (h:eM P el sz m x=some (new,n)) {v:Value} (t:VR P w I ρ x v) :
 (azE v).run P w = .ok n w∧new.length=n*sz∧dY new∧∀ g,g≤n→∃ d:List Value,d.length=g*sz∧(azC sz g v).run P w = .ok d.toArray w∧bB P w I (kR (bK P el) ρ) (new.take (g*sz)) (fun j=>d[j]?):=by
 have key:∀ r,dR (bK P el) m x=some r→(if r.2.1*sz≤r.1.length then some (r.1.take (r.2.1*sz),r.2.1) else none)=some (new,n) →
  (azE v).run P w = .ok n w∧new.length=n*sz∧dY new∧∀ g,g≤n→∃ d:List Value,d.length=g*sz∧(azC sz g v).run P w = .ok d.toArray w∧bB P w I (kR (bK P el) ρ) (new.take (g*sz)) (fun j=>d[j]?):=by
  rintro ⟨cs,l,f⟩ q h;split at h
  ·rename_i k;simp only [ay0,azk] at h;obtain ⟨rfl,rfl⟩:=h;obtain ⟨a,cap,rfl,_,_,G,A,z⟩:=acU C q t;refine ⟨by simp [azE],by rw [List.length_take];exact Nat.min_eq_left k,vC A _,fun g o => ?_⟩;have i:g*sz≤l*sz:=azF _ o;obtain ⟨d,E,D,H⟩:=aea (P:=P) (n:=g) (len:=l) (cap:=cap) G (ayY i k) (fun e=>by have:=(z e).2.1;omega);refine ⟨d,E,D, ?_⟩;rw [List.take_take,Nat.min_eq_left i];exact H
  ·cases h
 unfold eM at h;split at h
 ·rename_i b;split at h
  ·rename_i F;obtain ⟨J,rfl⟩:=F;simp only [ay0,azk] at h;obtain ⟨rfl,rfl⟩:=h;simp only [VR] at t;subst t;refine ⟨by simp [azE],by rw [agv,azG],agu b,fun g o=>⟨(b.data.toList.map fun x=>azD .u8 x.toNat).take g, ?_, ?_, ?_⟩⟩
   ·simp;omega
   ·simp only [azC,azx];congr 1;apply Array.ext';simp [ByteArray.data_extract]
   ·rw [azG];refine lG.2 fun j c p => ?_
    rw [azH] at p;split at p
    ·rename_i s;obtain ⟨u,y,B⟩:=gW (agt (P:=P) (w:=w) (I:=I) (ρ:=kR (bK P el) ρ) b) p;exact ⟨u,by rw [azH,if_pos s];exact y,B⟩
    ·cases p
  ·cases h
 ·obtain ⟨r,q,h⟩:=ayS h;exact key r q h
theorem aqY {w1:World} {arr:Array Value} {ty:TypeId} (h:w1.heap=w.heap∧w1.os=w.os∧w1.tape=w.tape∧w1.output=w.output) :
 qN w ((w1.alloc (.cells arr ty)).freeze ⟨w.heap.size,arr.size,none⟩ 1) arr ty:=by
 have a:=agr (arr:=arr) (ty:=ty) h;have b:((w1.alloc (.cells arr ty)).freeze ⟨w.heap.size,arr.size,none⟩ 1).heap[w.heap.size]? = some (.cells arr ty (arr.size,arr.size+1)):=by
  have d:(w1.alloc (.cells arr ty)).heap[w.heap.size]? = some (.cells arr ty (0,0)):=by rw [←h.1];exact heap_alloc_new w1 _
  simp [World.freeze,azI,d]
 refine ⟨a.os,a.tape,a.output, ?_,fun g c => ?_,⟨_,b⟩,fun j e => ?_⟩
 ·rw [←a.size];simp [World.freeze]
 ·rw [←a.same g c];simp only [World.freeze,Nat.one_ne_zero,if_false];rw [azI,if_neg (by omega)]
 ·unfold World.frozen?;rw [b];simp;omega
theorem ajr (el:TypeId) (s:ByteArray):∃ cap arr w',(Conv.stringToBytes el s).run P w = .ok (.slice (some ⟨w.heap.size,0,none⟩) s.size cap) w'∧s.size≤cap∧qN w w' arr el∧arr.size=cap ∧
 (∀ j,j < s.size→arr[j]? = (s.data.toList.map fun x=>azD .u8 x.toNat)[j]?)∧∀ v∈arr.toList,v.oneCell'=true:=by
 obtain ⟨c,g⟩:∃ c,c=(azJ s.size 0 el).cut (w.tape w.drawn (.appendCap s.size 0 el)):=⟨_,rfl⟩
 have f:s.size≤c:=by rw [g];simp only [Question.cut];omega
 refine ⟨c,(s.data.map fun b=>azD .u8 b.toNat)++azK (c - s.size) (.int .u8 0),_, ?_,f,aqY (w:=w) (w1:=w.drew) ⟨rfl,rfl,rfl,rfl⟩, ?_, ?_, ?_⟩
 ·have e:((s.data.map fun (b:UInt8)=>azD .u8 (b.toNat:Int))++azK (c - s.size) (azD .u8 0)).size=c:=by simp;omega
  have a:=mJ (heap_alloc_new w.drew (.cells ((s.data.map fun (b:UInt8)=>azD .u8 (b.toNat:Int))++azK (c - s.size) (azD .u8 0)) el));rw [e] at a;unfold Conv.stringToBytes;simp only [azw,run_choose,azL,azA,if_false,azz,←g,newRow,run_newObj,azx,World.drew_eq,World.alloc_eq,World.size_drew,markStringish,run_shape,e];simp only [World.size_drew] at a;rw [a];simp only [run_freeze,azz]
 ·simp;omega
 ·intro j h;rw [azM (by simpa using h)];simp
 ·intro v d;rw [azN] at d;rcases azO.1 d with d | d
  ·obtain ⟨b,_,rfl⟩:=Array.mem_map.1 d;rfl
  ·rw [(Array.mem_replicate.1 d).2];rfl
theorem aqZ {a : Addr} {l : List Value} {n cap : Nat} (hl : (loadCells a n).run P w = .ok l.toArray w) {ns : List Int} (hb : l = ns.map fun n => azD .u8 n) : (azP (.slice (some a) n cap)).run P w = .ok (.string ⟨(ns.map fun n => azQ n.toNat).toArray⟩) w := by
 have key : ∀ (ns : List Int) (s : ByteArray), (forIn (ns.map fun n => azD .u8 n).toArray s (fun c (r : ByteArray) => (match c with
     | .int .u8 n => pure (azR (r.push (azQ n.toNat)))
     | _ => (do
       stuck "bytesToString: byte expected"
       pure (azR r)) : Sem (ForInStep ByteArray)))).run P w = .ok ⟨s.data ++ (ns.map fun n => azQ n.toNat).toArray⟩ w := by
   intro ns
   induction ns with
   | nil => intro s; simp
   | cons b ns ih =>
     intro s
     simp only [List.map_cons, List.forIn_toArray, List.forIn_cons, azw, azx, azz]
     have := ih (s.push (azQ b.toNat))
     simp only [List.forIn_toArray] at this
     rw [this]
     congr 1
     simp [ByteArray.push]
 subst hb
 unfold azP
 simp only [azw, hl, azz]
 refine Eq.trans (congrArg (fun r : Result ByteArray => r.andThen fun a w' => Sem.run P (pure (Value.string a)) w') (key ns ByteArray.empty)) ?_
 simp only [azz, azx]
 congr 3
 simp [ByteArray.empty, ByteArray.emptyWithCapacity]
 rfl
theorem ajs:∀ (cs:List AV) (bs:List UInt8) (a:Nat→Option Value),bytesOf cs=some bs→bB P w I ρ cs a→∃ e:List Int,e.length=cs.length∧bs=e.map (fun n=>azQ n.toNat)∧∀ j,j < cs.length→a j=(e[j]?).map fun n => .int .u8 n
 | [],bs,a,h,hv=>by
  simp only [bytesOf,ay0] at h;subst h;exact ⟨[],rfl,rfl,fun j g=>by simp at g⟩
 | c::cs,bs,a,h,hv=>by
  simp only [bytesOf] at h;obtain ⟨b,d,h⟩:=ayS h;obtain ⟨f,k,rfl⟩:=ayT h;simp only [bB] at hv;obtain ⟨⟨v,l,i⟩,m⟩:=hv;obtain ⟨e,q,o,p⟩:=ajs cs f _ k m;unfold asB at d;split at d
  ·rename_i n;simp only [ay0] at d;simp only [VR] at i;subst i;refine ⟨n::e,by simp [q],by simp [o,d],fun j g => ?_⟩;cases j with
   | zero=>simpa using l
   | succ j=>simpa using p j (by simpa using g)
  ·cases d
end
section
variable {P:Program} {w:World} {I:Nat→Prop} {ρ:cA} {m:aF}
theorem iN.pur {s:Sem Value} {a:AV} {addr:Value} (c:SR P w I ρ m) (h:mT P w I ρ s a):iN P w I ρ m (s.run P w) id ⟨a,m,none⟩ addr:=by
 obtain ⟨v,e,b⟩:=h;exact ⟨v,w,I,ρ,e,b,c,cM.refl _ _ _ _,fun d y h=>by cases h⟩
theorem ajt (B:SR P w I ρ m) {src dst:TypeId} {x:AV} {out:bL} (h:nJ P m src dst x=some out) (g:∀ b,m.next≤b→b < out.m.next→ρ b=none) {v:Value} (q:VR P w I ρ x v) (addr:Value) :
 iN P w I ρ m ((azS src dst v).run P w) id out addr:=by
 unfold nJ at h;split at h
 ·rename_i el A;split at h
  ·rename_i s;split at h
   ·rename_i Z;obtain ⟨D,F,l⟩:=Z;have J:=abo F;simp only [zag] at h;subst h;simp only [VR] at q;subst q;obtain ⟨cap,arr,w',R,S,C,h4,G,V⟩:=ajr (P:=P) (w:=w) el s;have hf:ρ m.next=none:=g m.next (aza _) (by simp [aF.push]);obtain ⟨a,b⟩:=aaH (k:=⟨jA s,el,.flat,true⟩) C B hf rfl (agu s) (by
     simp only [if_true];exact iK (agt s) fun j E=>G j (by rw [agv] at E;exact E)) V (fun h=>by simp only at h;rw [D] at h;cases h)
    refine ⟨.slice (some ⟨w.heap.size,0,none⟩) s.size cap,w',I,_, ?_, ?_,a,b,fun d y h=>by cases h⟩
    ·simp [azS,cR J,cR (iM A),cR (agi D),R]
    ·simp only [id,VR];obtain ⟨fr,N⟩:=C.blk;exact ⟨_,_,cap,el,_,1,zJ _ _ _,rfl,⟨aza _,S⟩,(fun h=>by cases h),mJ N,l,by omega⟩
   ·cases h
  ·cases h
 ·rename_i A;have c:∀ u:Value,x = .val u→eV ((cT P (azS src dst u)).map .val) m=some out→iN P w I ρ m ((azS src dst v).run P w) id out addr:=by
   rintro u rfl h;simp only [eV] at h;obtain ⟨av,O,rfl⟩:=ayT h;obtain ⟨z,Y,rfl⟩:=ayT O;simp only [VR] at q;subst q;exact iN.pur B ⟨z,tW P _ _ Y w,by simp only [VR]⟩
  split at h
  ·rename_i el t L;split at h
   ·rename_i D;obtain ⟨⟨cs,n,f⟩,U,h⟩:=ayS h;simp only at h;split at h
    ·rename_i K;obtain ⟨bs,i,h⟩:=ayS h;simp only [zag] at h;subst h;obtain ⟨a,cap,rfl,R,S,C,h4,G⟩:=acU B U q;refine ⟨.string ⟨bs.toArray⟩,w,I,ρ, ?_,by simp only [id,VR],B,cM.refl _ _ _ _,fun d y h=>by cases h⟩;have p:=iM L;have r:=abo t;simp only [azS,azw,cR p,cR r,azz,cR (agi D)];cases a with
     | none =>
      obtain ⟨Q,H,e3⟩:=G rfl;subst Q;subst H;simp [bytesOf] at i;subst i;simp [azP];rfl
     | some ad =>
      obtain ⟨o,X,W,T⟩:=aea (P:=P) (sz:=1) (n:=n) (len:=n) (cap:=cap) C (by rw [azG];exact K) (fun e=>by cases e);rw [azG] at X T;have M:(loadCells ad n).run P w = .ok o.toArray w:=by simpa [azC] using W
      obtain ⟨ns,Q,rfl,H⟩:=ajs _ bs _ i T;refine aqZ M ?_;apply List.ext_getElem?;intro j;have a0:(cs.take n).length=n:=by simp;omega
      by_cases E:j < n
      ·rw [azo];exact H j (by omega)
      ·rw [ay6 (by omega),ay6 (by simp [Q];omega)]
    ·cases h
   ·cases h
  ·split at h
   ·exact c _ rfl h
   ·cases h
theorem aju {t:TypeId} {z:List Value} (h:gF P t=some z):∃ v,(v.cells.size=z.length∧∀ x∈v.cells,x.oneCell'=true)∧∀ w,(zeroValue t).run P w = .ok v w:=by
 obtain ⟨v,f,a,d,i,c,e⟩:=abv (w:=default) h;exact ⟨v,⟨by rw [←a];simp,fun x b=>ags (d x (by rw [←a];simpa using b))⟩,fun w=>by simp [zeroValue,typeInfo,c,e]⟩
theorem aq0 (n:SR P w I ρ m) {b:Nat} {k:eZ} (C:m.at_ b=some k) (t:k.wr=true) {g o:Nat} (z:ρ b=some (g,o)) (p:ρ m.next=none) (a:Nat) :
 SR P w I (pS ρ m.next (g,o+a)) ((m.put b none).push ⟨k.cells.drop a,k.el,k.kind,true⟩)∧cM w I ρ m w I (pS ρ m.next (g,o+a)) ((m.put b none).push ⟨k.cells.drop a,k.el,k.kind,true⟩):=by
 have i:=ajl (ρ:=ρ) (b:=m.next) (x:=(g,o+a)) p;have M:=ad4 w I;have r:=n.blk b k g o C z;have c:∀ d k' x y,((m.put b none).push ⟨k.cells.drop a,k.el,k.kind,true⟩).at_ d=some k'→pS ρ m.next (g,o+a) d=some (x,y) →
  (d=m.next∧k'=⟨k.cells.drop a,k.el,k.kind,true⟩∧x=g∧y=o+a)∨(d≠m.next∧d≠b∧m.at_ d=some k'∧ρ d=some (x,y)):=by
  intro d k' x y l f;by_cases e:d=m.next
  ·subst e;simp [aF.push,aF.put] at l;simp [pS] at f;exact .inl ⟨rfl,l.symm,f.1.symm,f.2.symm⟩
  ·simp [aF.push,aF.put,e] at l;simp [pS,e] at f;exact .inr ⟨e,l.1,l.2,f⟩
 refine ⟨⟨fun d k' x y l f => ?_,fun H E J B x G D l f q u N => ?_,n.lt,n.mms.keep M i (fun _ _=>⟨rfl,fun h=>h⟩)⟩,⟨rfl,rfl,rfl,aza _,fun _ _ _=>rfl,fun _ _ h=>h,fun _ h=>h,fun _ h => .inl h,i,fun d l f => ?_,fun x K => ?_,by simp [aF.push,aF.put]⟩⟩
 ·rcases c d k' x y l f with ⟨rfl,rfl,rfl,rfl⟩ | ⟨_,_,q,u⟩
  ·obtain ⟨arr,T,U,A⟩:=r.cells;refine ⟨lH r.one _,⟨arr,T,U, ?_⟩,fun _=>r.wr t,(fun h=>by cases h),fun _=>r.all1 t,fun _=>r.nostr t⟩;simp only at A ⊢;split at A
   ·rename_i L;rw [if_pos L];exact iK (lS A a) fun j _=>by rw [ay3]
   ·rename_i L;rw [if_neg L];exact iK (lS (eN M i _ _ A) a) fun j _=>by rw [ay3]
  ·exact tY M i (n.blk d k' x y q u) rfl (fun F=>((n.blk d k' x y q u).wr F).1)
 ·rcases c H J x G l q with ⟨rfl,rfl,rfl,rfl⟩ | ⟨V,S,Q,O⟩
  ·rcases c E B _ D f u with ⟨rfl,_⟩ | ⟨_,R,v,s⟩
   ·rfl
   ·exact absurd (n.inj b E k B _ o D C v z s t).symm R
  ·rcases c E B x D f u with ⟨rfl,rfl,rfl,rfl⟩ | ⟨_,R,v,s⟩
   ·exact absurd (n.inj H b J k _ G o Q C O z N) S
   ·exact n.inj H E J B x G D Q v O s N
 ·unfold pS at f;split at f
  ·rename_i e;subst e;simp [aF.push,aF.put]
  ·exact absurd l f
 ·rcases K with ⟨d,k',y,l,f,q⟩ | K
  ·rcases c d k' x y l q with ⟨rfl,rfl,rfl,rfl⟩ | ⟨_,_,v,s⟩
   ·exact .inl (.inl ⟨b,k,o,C,t,z⟩)
   ·exact .inl (.inl ⟨d,k',y,v,f,s⟩)
  ·exact .inl (.inr K)
theorem ajv {c:TypeId} (a:zF P c=true):∃ d,P.underlying c=some d∧∀ k,d ≠ .int k:=by
 unfold zF at a;split at a
 ·cases a
 ·rename_i d b e;exact ⟨d,e,b⟩
 ·cases a
theorem ajw {d:TypeDesc} (h:∀ k,d ≠ .int k):(match (generalizing:=false) d with | .int _=>true | _=>false)=false:=by
 cases d <;> first | rfl | exact absurd rfl (h _)
theorem aq1 {t u ty el:TypeId} {sz y:Nat} (k:bO P t=some el) (B:zF P u=true) (l:bX P el=some sz) (A:jN P el=some y) {z:Value} (C:∀ w,(zeroValue el).run P w = .ok z w)
 {base:Option Addr} {len cap n:Nat} {r:Value} (g:(azE r).run P w = .ok n w) {f a:List Value} (b:(azC sz n r).run P w.drew = .ok a.toArray w.drew)
 (e:(azC sz len (.slice base len cap)).run P w.drew = .ok f.toArray w.drew) (d:(len+n)*y≤140737488355328) (h:len+n≤140737488355328) (D:cap < len+n) :
 ∃ c,len+n≤c∧(azT #[t,u] ty #[.slice base len cap,r]).run P w = .ok (.slice (some ⟨w.heap.size,0,none⟩) (len+n) c) (w.drew.alloc (.cells (f.toArray++a.toArray++azU z.cells (c - (len+n))) el)):=by
 obtain ⟨F,o,p⟩:=ajv B;obtain ⟨i,hi,rfl⟩:=agf A;obtain ⟨c,v⟩:∃ c,c=(azJ (len+n) cap el).cut (w.tape w.drawn (.appendCap (len+n) cap el)):=⟨_,rfl⟩
 refine ⟨c,by rw [v];simp only [Question.cut];omega, ?_⟩;have x:=growslice_fits (bytes:=i.bytes) D d;have q:¬ (len+n≤cap):=by omega
 have m:¬ (281474976710656 < Builtin.nextslicecap (len+n) cap*i.bytes):=by omega
 have s:¬ ((9223372036854775807:Int) < (len:Int)+(n:Int)):=by omega
 have j:∀ w,(typeInfo el).run P w = .ok i w:=fun w=>by simp [typeInfo,hi]
 have E:=ajw p;simp [azT,cR (iM k),cR o,iF l,j,g,q,m,s,azL,C,b,e,newRow,←v,azV];congr 2;apply Array.ext';simp [azW]
theorem agx {t l ty el:TypeId} {sz:Nat} (f:bO P t=some el) (m:zF P l=true) (g:bX P el=some sz)
 {base:Option Addr} {len cap n:Nat} {k:Value} (d:(azE k).run P w = .ok n w) {c:List Value} (b:(azC sz n k).run P w = .ok c.toArray w)
 (e:len+n≤cap) {w':World} (i:(match base with | some a=>storeCells (a.add (len*sz)) c | none=>pure ():Sem Unit).run P w = .ok () w'):(azT #[t,l] ty #[.slice base len cap,k]).run P w = .ok (.slice base (len+n) cap) w':=by
 obtain ⟨p,h,j⟩:=ajv m;have o:=ajw j;cases base with
 | none =>
  simp at i;subst i;simp [azT,cR (iM f),cR h,iF g,d,e,b]
 | some a =>
  simp only at i;simp [azT,cR (iM f),cR h,iF g,d,e,b,i]
theorem acV (w:World) (I:Nat→Prop):iL w w.drew I I:=⟨fun _ h=>h,fun _ _=>rfl,fun _ _ h=>h⟩
theorem aq2 {a:AV} {v:Value} (h:VR P w I ρ a v):VR P w.drew I ρ a v:=rI (acV w I) (fun _ _ h=>h) a v h
theorem ajx (a:SR P w I ρ m):SR P w.drew I ρ m :=
 ⟨fun b k g o d c=>tY (acV w I) (fun _ _ h=>h) (a.blk b k g o d c) rfl (fun e=>((a.blk b k g o d c).wr e).1),a.inj,a.lt,a.mms.keep (acV w I) (fun _ _ h=>h) (fun _ _=>⟨rfl,fun h=>h⟩)⟩
theorem agy (z:Array Value) (n:Nat):(azU z n).size=n*z.size:=by simp [azU]
theorem agz {z:Array Value} (h:∀ x∈z,x.oneCell'=true) (n:Nat):∀ x∈azU z n,x.oneCell'=true:=by
 intro x b;simp only [azU,Array.mem_map,Array.mem_range] at b;obtain ⟨i,hi,rfl⟩:=b;have a:0 < z.size:=by
  rcases azr z.size with e | e
  ·rw [e] at hi;simp at hi
  ·exact e
 rw [getElem!_pos z _ (azt _ a)];exact h _ (Array.getElem_mem _)
theorem ajy {b bs:List AV} {f ys:List Value} {arr:Array Value} (g:f.length=b.length) (i:bB P w I ρ b (fun j=>f[j]?)) (k:bB P w I ρ bs (fun j=>ys[j]?)) (m:ys.length=bs.length) :
 bB P w I ρ (b++bs) (fun j=>(f.toArray++ys.toArray++arr)[j]?):=lG.2 fun j c a=>by
 rcases azX j b.length with h | h
 ·rw [azg h] at a;obtain ⟨u,e,d⟩:=gW i a;exact ⟨u,by rw [azV,azM (by simp;omega)];simpa using e,d⟩
 ·rw [azh h] at a;have l:=(ay8.1 a).1;obtain ⟨u,e,d⟩:=gW k a;refine ⟨u, ?_,d⟩;rw [azM (by simp;omega),Array.getElem?_append_right (by simp;omega)];simp only [azY,azZ,g];exact e
theorem aq3 (W:SR P w I ρ m) {t t2 ty el:TypeId} (a2:bO P t=some el) (h2:zF P t2=true) {s x:AV} {out:bL} (h:fR P el m s x=some out) (K:∀ b,m.next≤b→b < out.m.next→ρ b=none)
 {sv xv:Value} (hs:VR P w I ρ s sv) (Q:VR P w I ρ x xv) (addr:Value):iN P w I ρ m ((azT #[t,t2] ty #[sv,xv]).run P w) id out addr:=by
 unfold fR at h;obtain ⟨sz,J,h⟩:=ayS h;obtain ⟨y,hy,h⟩:=ayS h;obtain ⟨zl,d8,h⟩:=ayS h;obtain ⟨⟨new,n⟩,a4,h⟩:=ayS h;obtain ⟨⟨cs,len,f⟩,r,h⟩:=ayS h;simp only at h;split at h
 ·rename_i hc;obtain ⟨c1,c2,c3⟩:=hc;obtain ⟨z,⟨d5,e5⟩,hz⟩:=aju d8;obtain ⟨l1,l2,l3,l4⟩:=agw W a4 Q;obtain ⟨_,_,_,d0⟩:=agw (ajx W) a4 (aq2 Q);obtain ⟨base,cap,rfl,b1,b2,b3,b4,b5⟩:=acU W r hs;have H:new.take (n*sz)=new:=by rw [←l2];exact List.take_length
  -- growing
  have T:cap < len+n→len*sz≤cs.length→∀ (m1:aF),m1.next=m.next→SR P w I ρ m1→cM w I ρ m w I ρ m1→ρ m.next=none →
   iN P w I ρ m ((azT #[t,t2] ty #[.slice base len cap,xv]).run P w) id ⟨.sl m1.next 0 (len+n) (len+n) false,m1.push ⟨cs.take (len*sz)++new,el,bK P el,true⟩,none⟩ addr:=by
   intro hg X m1 e6 c9 e8 hf;obtain ⟨q,S,n2,R⟩:=d0 n (aza _);have c4:acT P w.drew I (kR (bK P el) ρ) base cs:=by
    cases base with
    | none=>exact b3
    | some ad=>exact ⟨b3.1,eN (acV w I) (fun _ _ h=>h) _ _ b3.2⟩
   obtain ⟨c8,o1,o2,o3⟩:=aea (P:=P) (sz:=sz) (n:=len) (len:=len) (cap:=cap) c4 X (fun e=>(b5 e).2.1);obtain ⟨c,e3,A⟩:=aq1 (ty:=ty) a2 h2 J hy hz l1 n2 o2 c1 c2 hg;have hA:=agr (w:=w) (w1:=w.drew) (arr:=c8.toArray++q.toArray++azU z.cells (c - (len+n))) (ty:=el) ⟨rfl,rfl,rfl,rfl⟩;have Y:(cs.take (len*sz)).length=len*sz:=by simp;omega
   rw [H] at R;obtain ⟨a,b⟩:=aaH (k:=⟨cs.take (len*sz)++new,el,bK P el,true⟩) hA c9 (by rw [e6];exact hf) rfl (acM (vC b4 _) l3) (by
    exact eN (⟨fun _ h=>h,fun _ _=>rfl,fun _ _ h=>h⟩:iL w.drew w I I) (fun _ _ h=>h) _ _ (ajy (by rw [o1,Y]) o3 R (by rw [S,l2]))) (fun x Q=>by
    rw [azN] at Q;rcases azO.1 Q with Q | Q
    ·rcases azO.1 Q with Q | Q
     ·exact wR (P:=P) (w:=w.drew) (I:=I) (ρ:=kR (bK P el) ρ) (vC b4 (len*sz)) (by rw [o1,Y]) o3 x (by simpa using Q)
     ·exact wR (P:=P) (w:=w.drew) (I:=I) (ρ:=kR (bK P el) ρ) l3 (by rw [S,l2]) R x (by simpa using Q)
    ·exact agz e5 _ x Q) (fun _=>abu (w1:=w.drew) _ _)
   refine ⟨_,_,_,_,A, ?_,a,e8.trans b,fun d y h=>by cases h⟩;simp only [id,VR];obtain ⟨fr,a1⟩:=hA.blk;refine ⟨_,_,c,el,_,sz,zJ _ _ _,rfl,⟨aza _,e3⟩,(fun h=>by cases h),mJ a1,J, ?_⟩;simp only [Array.size_append,azY,agy,o1,S,d5,c3];rw [←az0,←az0];have:len+n+(c - (len+n))=c:=by omega
   rw [this];omega
  split at h
  ·rename_i hf;have e9:cap=len:=b2 hf;split at h
   ·rename_i b0;simp only [zag] at h;subst h;subst b0;obtain ⟨q,S,n2,R⟩:=l4 0 (aza _);have b8:q=[]:=az1 (by rw [S,Nat.zero_mul]);subst b8;have A:=agx (P:=P) (w:=w) (ty:=ty) a2 h2 J l1 n2 (base:=base) (len:=len) (cap:=cap) (by omega) (w':=w) (by cases base <;> rfl);exact ⟨_,w,I,ρ,A,hs,W,cM.refl _ _ _ _,fun d y h=>by cases h⟩
   ·rename_i b0;split at h
    ·rename_i X;simp only [zag] at h;subst h;exact T (by omega) X m rfl W (cM.refl _ _ _ _) (K m.next (aza _) (by simp [aF.push]))
    ·cases h
  ·split at h
   ·rename_i v;split at h
    ·rename_i X;simp only [zag] at h;subst h;refine T ?_ X m rfl W (cM.refl _ _ _ _) (K m.next (aza _) (by simp [aF.push]));unfold xT at v;split at v
     ·simp only [VR] at hs;obtain ⟨g,o,a3,a5,n',s',hb,G,⟨a7,a0⟩,Z,e7⟩:=hs;simp only [az2] at G;simp only [decide_eq_true_eq] at v;have:=Z trivial;omega
     ·cases v
    ·cases h
   cases s with
   | sl b l i c' f' =>
    simp only at h;obtain ⟨k,hk,h⟩:=ayS h;split at h
    ·rename_i c0;obtain ⟨d1,d2,d3⟩:=c0;simp only [zag] at h;subst h;simp only [dR,hk] at r;obtain ⟨M,B,kk,kw⟩:=k;simp only at d1 d2 d3 r;subst d1;subst d2;split at r
     case isFalse=>cases r
     case isTrue hkk =>
      subst hkk;simp only [ay0,azk] at r;obtain ⟨rfl,rfl,rfl⟩:=r;have c7:(M.drop l).length=i*sz:=by simp;omega
      have d9:(M.drop l).take (i*sz)=M.drop l:=by rw [←c7];exact List.take_length
      have a1:ρ m.next=none:=K m.next (aza _) (by simp [aF.push,aF.put]);rcases azX cap (i+n) with hg | C
      ·obtain ⟨e1,e2⟩:=ajm W b;have:=T hg (by omega) (m.put b none) rfl e1 e2 a1;rw [d9] at this;exact this
      ·simp only [VR] at hs;obtain ⟨g,o,a3,a5,n',s',hb,G,⟨a7,a0⟩,Z,L,V,F⟩:=hs;simp only [az2] at G;obtain ⟨rfl,_,rfl⟩:=G;have hB:=W.blk b _ g o hk hb;obtain ⟨arr,fr,hh,N⟩:=hB.cells;have O:=mJ hh;rw [L] at O;simp only [ay0,azk] at O;obtain ⟨b9,c5⟩:=O;rw [b9] at V L;rw [c5] at L F;rw [J,ay0] at V;subst V;obtain ⟨q,S,n2,R⟩:=l4 n (aza _);rw [H] at R;have e4:(i+n)*sz≤cap*sz:=azF _ C;rw [az0] at e4;have E:=wR (P:=P) (w:=w) (I:=I) (ρ:=kR (bK P B) ρ) l3 (by rw [S,l2]) R;have a6:=acQ (P:=P) (w:=w) (o:=o+l+i*sz) (vs:=q) hh (acR hB rfl hh) (by rw [S];omega) E;have A:=agx (P:=P) (w:=w) (ty:=ty) a2 h2 J l1 n2 (base:=some ⟨g,o+l,none⟩) (len:=i) (cap:=cap) C (by simpa only [ay2] using a6);obtain ⟨s1,s2⟩:=aaK (k':=⟨M++new,B,bK P B,true⟩) W hk rfl hb (vs:=q) (p:=o+l+i*sz) ⟨rfl,rfl,acM hB.one l3⟩ E (fun b6 d7 e0 U b7 e1 e2=>by
        simp only at U ⊢;rw [hh] at e0;simp only [ay0,Obj.cells.injEq] at e0;obtain ⟨rfl,_,_⟩:=e0;refine lG.2 fun j c hj => ?_
        simp only [e2];rcases azX j M.length with Y | d6
        ·rw [azg Y] at hj;rw [if_neg (by omega)];exact gW U hj
        ·rw [azh d6] at hj;have f0:=(ay8.1 hj).1;obtain ⟨u,h1,h2⟩:=gW R hj;rw [if_pos (by omega)];exact ⟨u,by rw [show o+j - (o+l+i*sz)=j - M.length by omega];exact h1,h2⟩)
       obtain ⟨s3,s4⟩:=aq0 s1 (b:=b) (k:=⟨M++new,B,bK P B,true⟩) (by simp [aF.put]) rfl hb a1 l;have a9:((m.put b (some ⟨M++new,B,bK P B,true⟩)).put b none).push ⟨(M++new).drop l,B,bK P B,true⟩=(m.put b none).push ⟨M.drop l++new,B,bK P B,true⟩:=by
        have e1:(m.put b (some ⟨M++new,B,bK P B,true⟩)).put b none=m.put b none:=by
         simp only [aF.put,aF.mk.injEq,true_and,and_true];funext j;by_cases e:j=b <;> simp [e]
        rw [e1,List.drop_append_of_le_length (by omega)]
       simp only at s3 s4;rw [a9] at s3 s4;refine ⟨_,_,_,_,A, ?_,s3,s2.trans s4,fun d y h=>by cases h⟩;simp only [id,VR];refine ⟨g,o+l,cap,B,arr.size,sz,zJ _ _ _,rfl,⟨aza _,C⟩,(fun h=>by cases h), ?_,J,by omega⟩;exact s2.shape _ _ L
    ·split at h
     ·rename_i c6;obtain ⟨d1,d2,d3,d4⟩:=c6;simp only [zag] at h;subst h;simp only [dR,hk] at r;obtain ⟨M,B,kk,kw⟩:=k;simp only at d1 d2 d4 r;subst d1;subst d2;split at r
      case isFalse=>cases r
      case isTrue hkk =>
       subst hkk;simp only [ay0,azk] at r;obtain ⟨rfl,rfl,rfl⟩:=r;simp only [VR] at hs;obtain ⟨g,o,a3,a5,n',s',hb,G,⟨a7,a0⟩,Z,L,V,F⟩:=hs;simp only [az2] at G;obtain ⟨rfl,_,rfl⟩:=G;have C:i+n≤cap:=ayY d3 a0;have hB:=W.blk b _ g o hk hb;obtain ⟨arr,fr,hh,N⟩:=hB.cells;obtain ⟨q,S,n2,R⟩:=l4 n (aza _);rw [H] at R;have E:=wR (P:=P) (w:=w) (I:=I) (ρ:=kR (bK P B) ρ) l3 (by rw [S,l2]) R;have D:bB P w I (kR (bK P B) ρ) M (fun j=>arr[o+j]?):=N;have a8:o+l+i*sz+q.length≤arr.size:=by
        rw [S];rw [az0] at d4;have O:=mJ hh;rw [L] at O;simp only [ay0,azk] at O;rcases azr (n*sz) with h0 | h0
        ·rcases azr (i*sz) with h1 | h1
         ·omega
         ·obtain ⟨u,hu⟩:=abp D (j:=l+i*sz - 1) (by omega);have:=(azB.1 hu).1;omega
        ·obtain ⟨u,hu⟩:=abp D (j:=l+i*sz+n*sz - 1) (by omega);have:=(azB.1 hu).1;omega
       have a6:=acQ (P:=P) (w:=w) (o:=o+l+i*sz) (vs:=q) hh (acR hB rfl hh) a8 E;have A:=agx (P:=P) (w:=w) (ty:=ty) a2 h2 J l1 n2 (base:=some ⟨g,o+l,none⟩) (len:=i) (cap:=cap) C (by simpa only [ay2] using a6);obtain ⟨s1,s2⟩:=aaK (k':=⟨cH M (l+i*sz) new,B,bK P B,true⟩) W hk rfl hb (vs:=q) (p:=o+l+i*sz) ⟨rfl,rfl,abq hB.one l3 _⟩ E (fun b6 d7 e0 U b7 e1 e2=>by
        simp only at U ⊢;exact acS (by omega) (by rw [l2];rw [az0] at d4;omega) (by rw [S,l2]) U R e2)
       refine ⟨_,_,_,_,A, ?_,s1,s2,fun d y h=>by cases h⟩;simp only [id,VR];exact ⟨g,o,cap,a5,n',s',hb,rfl,⟨d3,a0⟩,Z,s2.shape _ _ L,V,F⟩
     ·cases h
   | _=>simp at h
 ·cases h
theorem ajz {el:TypeId} {zl:List Value} (p:gF P el=some zl) {sz:Nat} (h:zl.length=sz) (n:Nat):∃ v,v.cells.size=sz∧(∀ w,(zeroValue el).run P w = .ok v w) ∧
 (wQ zl (n*sz)).length=n*sz∧(azU v.cells n).size=n*sz∧dY (wQ zl (n*sz))∧(∀ x∈azU v.cells n,x.oneCell'=true)∧∀ w I ρ,bB P w I ρ (wQ zl (n*sz)) (fun j=>(azU v.cells n)[j]?):=by
 obtain ⟨v,t,g,m,i,s,o⟩:=abv (w:=default) p;have d:v.cells.size=sz:=by rw [←h,←g];simp
 refine ⟨v,d,fun w=>by simp [zeroValue,typeInfo,s,o],by simp [wQ],by rw [agy,d],fun c r => ?_,agz (fun x q=>ags (m x (by rw [←g];simpa using q))) n,fun w I ρ=>lG.2 fun j c f => ?_⟩
 ·obtain ⟨i,hi,rfl⟩:=azp.1 r;have a:0 < zl.length:=by
   rcases azr zl.length with e | e
   ·rw [h] at e;subst e;simp at hi
   ·exact e
  refine ad7 (m _ ?_);rw [azs,azm (azt _ a)];exact List.getElem_mem _
 ·unfold wQ at f;rw [azo] at f;obtain ⟨i,hi,rfl⟩:=ayT f;have b:j < n*sz:=by have:=(ay8.1 hi).1;simpa using this
  have k:i=j:=by simp [b] at hi;exact hi.symm
  subst k;have a:0 < sz:=by
   rcases azr sz with e | e
   ·subst e;simp at b
   ·exact e
  refine ⟨v.cells[i % v.cells.size]!,by simp [azU,d,b], ?_⟩;simp only [VR];have l:i % sz < v.cells.size:=by rw [d];exact azt _ a
  rw [d,getElem!_pos v.cells _ l,azs,h,←g];simp [l]
theorem aq4 {b:TypeId} (a:acJ P b=true):∃ k,P.underlying b=some (.int k):=by
 unfold acJ at a;split at a
 ·rename_i k c;exact ⟨k,c⟩
 ·cases a
theorem aq5 {t D ty el:TypeId} {sz y:Nat} (g:bO P t=some el) (I:acJ P D=true) (l:bX P el=some sz) (H:jN P el=some y) {z:Value} (F:∀ w,(zeroValue el).run P w = .ok z w) (A:z.cells.size=sz)
 {base:Option Addr} {len cap n:Nat} {k:IntKind} {q:List Value} (x:n≠0)
 (b:(azC sz len (.slice base len cap)).run P w.drew = .ok q.toArray w.drew) (a:(len+n)*y≤140737488355328) (u:len+n≤140737488355328) (J:cap < len+n) :
 ∃ c,len+n≤c∧(azT #[t,D] ty #[.slice base len cap,.int k n]).run P w = .ok (.slice (some ⟨w.heap.size,0,none⟩) (len+n) c) (w.drew.alloc (.cells (q.toArray++azU z.cells n++azU z.cells (c - (len+n))) el)):=by
 obtain ⟨M,o⟩:=aq4 I;obtain ⟨i,hi,rfl⟩:=agf H;obtain ⟨c,B⟩:∃ c,c=(azJ (len+n) cap el).cut (w.tape w.drawn (.appendCap (len+n) cap el)):=⟨_,rfl⟩
 refine ⟨c,by rw [B];simp only [Question.cut];omega, ?_⟩;have G:=growslice_fits (bytes:=i.bytes) J a;have p:¬ (len+n≤cap):=by omega
 have m:¬ (281474976710656 < Builtin.nextslicecap (len+n) cap*i.bytes):=by omega
 have s:¬ ((9223372036854775807:Int) < (len:Int)+(n:Int)):=by omega
 have f:∀ w,(typeInfo el).run P w = .ok i w:=fun w=>by simp [typeInfo,hi]
 have E:azy.wrap (n:Int)=n:=by rw [IntKind.wrap_i64];omega
 have j:¬ ((n:Int) < 0):=by omega
 have L:n*i.bytes≤140737488355328:=ayY (azF _ (Nat.le_add_left n len)) a;have r:¬ ((281474976710656:Int) < (n:Int)*(i.bytes:Int)):=by
  have:((n*i.bytes:Nat):Int)≤140737488355328:=by omega
  rw [Int.natCast_mul] at this;omega
 by_cases v:n*sz=0
 ·have d:sz=0:=by
   rcases Nat.mul_eq_zero.1 v with e | e
   ·exact absurd e x
   ·exact e
  have C:∀ k,azU z.cells k = #[]:=fun k=>by simp [azU,A,d]
  simp [azT,cR (iM g),cR o,iF l,f,p,m,s,j,r,azL,F,b,newRow,←B,azV,asInt,asIntOf,E,C]
 ·have K:¬ (n=0∨sz=0):=fun h=>v (Nat.mul_eq_zero.2 h)
  simp [azT,cR (iM g),cR o,iF l,f,p,m,s,j,r,azL,F,b,newRow,←B,azV,asInt,asIntOf,E];exact fun h=>absurd h v
theorem aq6 (T:SR P w I ρ m) {t R ty el:TypeId} (D:bO P t=some el) (q:acJ P R=true) {s:AV} {n:Nat} {k:IntKind} {out:bL} (h:adZ P el m s n=some out) (l:∀ b,m.next≤b→b < out.m.next→ρ b=none)
 {V:Value} (hs:VR P w I ρ s V) (addr:Value):iN P w I ρ m ((azT #[t,R] ty #[V,.int k n]).run P w) id out addr:=by
 unfold adZ at h;obtain ⟨sz,r,h⟩:=ayS h;obtain ⟨y,Z,h⟩:=ayS h;obtain ⟨zl,p,h⟩:=ayS h;obtain ⟨⟨cs,len,f⟩,G,h⟩:=ayS h;simp only at h;split at h
 ·rename_i hc;obtain ⟨c1,c2,c3,c4,j,K⟩:=hc;simp only [zag] at h;subst h;obtain ⟨z,u,U,q1,q2,q3,q4,q5⟩:=ajz p c3 n;obtain ⟨base,cap,rfl,b1,b2,M,Q,b5⟩:=acU T G hs;have hg:cap < len+n:=by
   rcases j with j | j
   ·have:=b2 j;omega
   ·unfold xT at j;split at j
    ·simp only [VR] at hs;obtain ⟨g,o,X,a1,n',s',hb,O,⟨Y,a0⟩,F,L⟩:=hs;simp only [az2] at O;simp only [decide_eq_true_eq] at j;have:=F trivial;omega
    ·cases j
  have H:acT P w.drew I (kR (bK P el) ρ) base cs:=by
   cases base with
   | none=>exact M
   | some ad=>exact ⟨M.1,eN (acV w I) (fun _ _ h=>h) _ _ M.2⟩
  obtain ⟨J,C,o2,W⟩:=aea (P:=P) (sz:=sz) (n:=len) (len:=len) (cap:=cap) H K (fun e=>(b5 e).2.1);obtain ⟨c,E,v⟩:=aq5 (k:=k) (ty:=ty) D q r Z U u c4 o2 c1 c2 hg;have S:=agr (w:=w) (w1:=w.drew) (arr:=J.toArray++azU z.cells n++azU z.cells (c - (len+n))) (ty:=el) ⟨rfl,rfl,rfl,rfl⟩;have A:(cs.take (len*sz)).length=len*sz:=by simp;omega
  have B:(azU z.cells n).toList.toArray=azU z.cells n:=by simp
  obtain ⟨a,b⟩:=aaH (k:=⟨cs.take (len*sz)++wQ zl (n*sz),el,bK P el,true⟩) S T (l m.next (aza _) (by simp [aF.push])) rfl (acM (vC Q _) q3) (by
   simp only [if_true];have:=ajy (P:=P) (w:=w.drew) (I:=I) (ρ:=(kR (bK P el) ρ)) (arr:=azU z.cells (c - (len+n))) (ys:=(azU z.cells n).toList) (by rw [C,A]) W (by simpa using q5 w.drew I (kR (bK P el) ρ)) (by rw [azv,q2,q1]);rw [B] at this;exact eN (⟨fun _ h=>h,fun _ _=>rfl,fun _ _ h=>h⟩:iL w.drew w I I) (fun _ _ h=>h) _ _ this) (fun x i=>by
   rw [azN] at i;rcases azO.1 i with i | i
   ·rcases azO.1 i with i | i
    ·exact wR (P:=P) (w:=w.drew) (I:=I) (ρ:=kR (bK P el) ρ) (vC Q (len*sz)) (by rw [C,A]) W x (by simpa using i)
    ·exact q4 x i
   ·refine agz (fun x i => ?_) _ x i;obtain ⟨v',e1,e2⟩:=aju p;have:v'=z:=by have h1:=e2 w;have q:=U w;rw [h1] at q;simp at q;exact q
    subst this;exact e1.2 x i) (fun _=>abu (w1:=w.drew) _ _)
  refine ⟨_,_,_,_,v, ?_,a,b,fun d y h=>by cases h⟩;simp only [id,VR];obtain ⟨fr,N⟩:=S.blk;refine ⟨_,_,c,el,_,sz,zJ _ _ _,rfl,⟨aza _,E⟩,(fun h=>by cases h),mJ N,r, ?_⟩;simp only [Array.size_append,azY,agy,C,u];rw [←az0,←az0];have:len+n+(c - (len+n))=c:=by omega
  rw [this];omega
 ·cases h
end
section
variable {P:Program} {w:World} {I:Nat→Prop} {ρ:cA} {m:aF}
theorem ajA {t:TypeId} {ts:List TypeId} {ty el:TypeId} {sz n len cap:Nat} {base:Option Addr} {xv:Value} (hel:bO P t=some el) (hsz:bX P el=some sz) (hlen:(azE xv).run P w = .ok n w) {news:List Value}
 (hnews:(azC sz (min n len) xv).run P w = .ok news.toArray w) {w':World} (hr:(match base with | some a=>storeCells a news | none=>pure ():Sem Unit).run P w = .ok () w') :
 (az3 (t::ts).toArray ty #[.slice base len cap,xv]).run P w = .ok (.int .i64 ((min n len:Nat):Int)) w':=by
 have h0:(t::ts).toArray[0]? = some t:=by simp
 unfold az3
 simp only [h0]
 cases base with
 | none =>
  simp only [azx,Result.ok.injEq,true_and] at hr
  subst hr
  simp [cR (iM hel),hlen,iF hsz,hnews,goInt]
 | some a =>
  simp only at hr
  simp [cR (iM hel),hlen,iF hsz,hnews,hr,goInt]
theorem aq7 (k:SR P w I ρ m) {t ty el:TypeId} (j:bO P t=some el) {x i:AV} (h:agd x=some i) {v:Value} (e:VR P w I ρ x v) (addr:Value) :
 iN P w I ρ m ((Builtin.cap_ #[t] ty #[v]).run P w) id ⟨i,m,none⟩ addr:=by
 have b:∀ {a:Option Addr} {n c:Nat},v = .slice a n c→i=aB c→iN P w I ρ m ((Builtin.cap_ #[t] ty #[v]).run P w) id ⟨i,m,none⟩ addr:=by
  rintro a n c rfl rfl;exact ⟨.int .i64 c,w,I,ρ,by simp [Builtin.cap_,cR (iM j),goInt],by simp only [id,aB,VR],k,cM.refl _ _ _ _,fun d y h=>by cases h⟩
 unfold agd at h;split at h
 ·simp only [ay0] at h;subst h;simp only [VR] at e;exact b e rfl
 ·simp only [ay0] at h;subst h;simp only [VR] at e;obtain ⟨g,o,cap,rfl,_,_,f,_⟩:=e;exact b rfl (by rw [f trivial])
 ·simp only [ay0] at h;subst h;simp only [VR] at e;obtain ⟨l,cap,rfl,_,f⟩:=e;exact b rfl (by rw [f trivial])
 ·simp only [ay0] at h;subst h;simp only [VR] at e;obtain ⟨g,o,cap,ty,n,s,_,rfl,_,f,_⟩:=e;exact b rfl (by rw [f trivial])
 ·cases h
theorem aq8 (L:SR P w I ρ m) {t ty el:TypeId} (C:bO P t=some el) {x:AV} {out:bL} (h:ad0 P el m x=some out) {v:Value} (r:VR P w I ρ x v) (addr:Value) :
 iN P w I ρ m ((az4 #[t] ty #[v]).run P w) id out addr:=by
 have none:∀ {a:Option Addr} {c:Nat},v = .slice a 0 c→bI eI m=some out→iN P w I ρ m ((az4 #[t] ty #[v]).run P w) id out addr:=by
  rintro a c rfl h;simp only [zag] at h;subst h;exact ⟨.tuple #[],w,I,ρ,by cases a <;> simp [az4,cR (iM C)],by simp only [id,eI,VR],L,cM.refl _ _ _ _,fun d y h=>by cases h⟩
 unfold ad0 at h;split at h
 ·simp only [VR] at r;exact none r h
 ·simp only [VR] at r;obtain ⟨ad,cap,rfl,_⟩:=r;exact none rfl h
 ·rename_i b i len c f;split at h
  ·rename_i G;subst G;simp only [VR] at r;obtain ⟨g,o,cap,ty,n,s,_,rfl,_⟩:=r;exact none rfl h
  ·rename_i G;obtain ⟨sz,Y,h⟩:=ayS h;obtain ⟨zl,K,h⟩:=ayS h;obtain ⟨k,U,h⟩:=ayS h;split at h
   ·rename_i hc;obtain ⟨c1,Q,X,c4⟩:=hc;simp only [zag] at h;subst h;simp only [VR] at r;obtain ⟨g,o,cap,a1,n',s',R,rfl,hl,hf,N,W,J⟩:=r;have H:=L.blk b k g o U R;obtain ⟨arr,fr,O,l⟩:=H.cells;obtain ⟨z,a0,hz,M,Z,q3,V,q5⟩:=ajz K X len;have E:(azU z.cells len).toList.length=(wQ zl (len*sz)).length:=by rw [azv,Z,M]
    have q:∀ x∈(azU z.cells len).toList,x.oneCell'=true:=fun x hx=>V x (by simpa using hx)
    have B:o+i+(azU z.cells len).toList.length≤arr.size:=by
     rw [E,M];rcases azr (len*sz) with e | e
     ·rw [e];have D:=mJ O;rw [N] at D;simp only [ay0,azk] at D;omega
     ·obtain ⟨u,hu⟩:=abp l (j:=i+len*sz - 1) (by omega);have:=(azB.1 hu).1;omega
    have A:=acQ (P:=P) (w:=w) (o:=o+i) (vs:=(azU z.cells len).toList) O (acR H Q O) B q;obtain ⟨s1,s2⟩:=aaK (k':=⟨cH k.cells i (wQ zl (len*sz)),k.el,k.kind,true⟩) L U Q R (vs:=(azU z.cells len).toList) (p:=o+i) ⟨rfl,rfl,abq H.one q3 _⟩ q (fun T a2 e0 F S e1 e2=>by
     simp only at F ⊢;exact acS rfl (by rw [M];omega) E F (by simpa using q5 w I _) e2)
    refine ⟨.tuple #[],_,_,_, ?_,by simp only [id,eI,VR],s1,s2,fun d y h=>by cases h⟩
    match len,G,A with
    | len+1,_,A=>simp [az4,cR (iM C),hz,A]
   ·cases h
 ·cases h
theorem aq9 (hS:SR P w I ρ m) {t:TypeId} {ts:List TypeId} {ty el:TypeId} (hel:bO P t=some el) {d x:AV} {out:bL} (h:sR P el m d x=some out) {dv xv:Value} (hd:VR P w I ρ d dv) (hx:VR P w I ρ x xv) (addr:Value) :
 iN P w I ρ m ((az3 (t::ts).toArray ty #[dv,xv]).run P w) id out addr:=by
 unfold sR at h
 obtain ⟨sz,hsz,h⟩:=ayS h
 obtain ⟨⟨new,n⟩,hnew,h⟩:=ayS h
 obtain ⟨l1,l2,l3,l4⟩:=agw hS hnew hx
 have zero:∀ {base:Option Addr} {len cap:Nat},min n len=0→iN P w I ρ m ((az3 (t::ts).toArray ty #[.slice base len cap,xv]).run P w) id ⟨aB 0,m,none⟩ addr:=by
  intro base len cap h0
  obtain ⟨news,n1,n2,n3⟩:=l4 0 (Nat.zero_le _)
  have hnil:news=[]:=az1 (by rw [n1,Nat.zero_mul])
  subst hnil
  have:=ajA (P:=P) (w:=w) (t:=t) (ts:=ts) (ty:=ty) (base:=base) (len:=len) (cap:=cap) hel hsz l1 (by rw [h0];exact n2) (w':=w) (by cases base <;> rfl)
  rw [h0] at this
  exact ⟨_,w,I,ρ,this,by simp only [id,aB,VR];rfl,hS,cM.refl _ _ _ _,fun d y h=>by cases h⟩
 have other:((dR (bK P el) m d).bind fun r=>if min n r.2.1=0 then bI (aB 0) m else none)=some out→iN P w I ρ m ((az3 (t::ts).toArray ty #[dv,xv]).run P w) id out addr:=by
  intro h
  obtain ⟨⟨cs,len,f⟩,hr,h⟩:=ayS h
  simp only at h
  split at h
  ·rename_i h0
   simp only [zag] at h
   subst h
   obtain ⟨a,cap,rfl,_⟩:=acU hS hr hd
   exact zero h0
  ·cases h
 cases d with
 | sl b off len c f =>
  simp only at h
  obtain ⟨k,hk,h⟩:=ayS h
  split at h
  ·rename_i hc
   obtain ⟨c1,c2,c3⟩:=hc
   simp only [zag] at h
   subst h
   simp only [VR] at hd
   obtain ⟨g,o,cap,ty',n',s',hb,rfl,hl,hf,hsh,hss,hroom⟩:=hd
   have hB:=hS.blk b k g o hk hb
   obtain ⟨arr,fr,hh,hcells⟩:=hB.cells
   have hmn:min n len≤n:=Nat.min_le_left _ _
   have hml:min n len*sz≤len*sz:=azF _ (Nat.min_le_right _ _)
   have hmn':min n len*sz≤n*sz:=azF _ hmn
   obtain ⟨news,n1,n2,n3⟩:=l4 (min n len) hmn
   have hxl:(new.take (min n len*sz)).length=min n len*sz:=by simp;omega
   have hone:=wR (P:=P) (w:=w) (I:=I) (ρ:=kR (bK P el) ρ) (vC l3 _) (by rw [n1,hxl]) n3
   have hsz':o+off+news.length≤arr.size:=by
    rw [n1]
    rcases azr (min n len*sz) with h0 | h0
    ·rw [h0]
     have hty:=mJ hh
     rw [hsh] at hty
     simp only [ay0,azk] at hty
     omega
    ·obtain ⟨u,hu⟩:=abp hcells (j:=off+min n len*sz - 1) (by omega)
     have:=(azB.1 hu).1
     omega
   have hw1:=acQ (P:=P) (w:=w) (o:=o+off) (vs:=news) hh (acR hB c2 hh) hsz' hone
   have hrun:=ajA (P:=P) (w:=w) (t:=t) (ts:=ts) (ty:=ty) (base:=some ⟨g,o+off,none⟩) (len:=len) (cap:=cap) hel hsz l1 n2 hw1
   obtain ⟨s1,s2⟩:=aaK (k':=⟨cH k.cells off (new.take (min n len*sz)),k.el,k.kind,true⟩) hS hk c2 hb (vs:=news) (p:=o+off) ⟨rfl,rfl,abq hB.one (vC l3 _) _⟩ hone (fun arr0 fr0 e0 hc0 arr' e1 e2=>by
    simp only [c1] at hc0 ⊢
    exact acS rfl (by omega) (by rw [n1,hxl]) hc0 n3 e2)
   exact ⟨_,_,_,_,hrun,by simp only [id,aB,VR],s1,s2,fun d y h=>by cases h⟩
  ·cases h
 | val _=>exact other h
 | emp _ _=>exact other h
 | tree _ _ _ _=>exact other h
 | agg _=>exact other h
 | tup _=>exact other h
 | tptr _ _=>exact other h
 | ptr _ _=>exact other h
 | clo _ _=>exact other h
theorem ara {x:AV} {n:Nat} (h:sN x=some n) {v:Value} (b:VR P w I ρ x v):∃ a cap,v = .slice a n cap:=by
 unfold sN at h;split at h
 ·simp only [ay0] at h;subst h;simp only [VR] at b;exact ⟨none,0,b⟩
 ·simp only [ay0] at h;subst h;simp only [VR] at b;obtain ⟨g,o,cap,rfl,_⟩:=b;exact ⟨_,_,rfl⟩
 ·simp only [ay0] at h;subst h;simp only [VR] at b;obtain ⟨d,cap,rfl,_⟩:=b;exact ⟨_,_,rfl⟩
 ·simp only [ay0] at h;subst h;simp only [VR] at b;obtain ⟨g,o,cap,ty,c,s,_,rfl,_⟩:=b;exact ⟨_,_,rfl⟩
 ·cases h
theorem arb {t:TypeId} {a:Nat×TypeId} (h:adX P t=some a):∃ b,P.underlying t=some (.pointer b)∧qK P b=some a:=by
 unfold adX at h;split at h
 ·exact ⟨_,by assumption,h⟩
 ·cases h
theorem arc {t ty:TypeId} {x e:AV} (h:lenE P t x=some e) {v:Value} (d:VR P w I ρ x v):mT P w I ρ (az5 #[t] ty #[v]) e:=by
 unfold lenE at h;split at h
 ·split at h
  ·rename_i s hs;simp only [ay0] at h;subst h;simp only [VR] at d;subst d;exact ⟨.int .i64 s.size,by simp [az5,cR (abo hs),goInt],by simp only [aB,VR]⟩
  ·cases h
 ·split at h
  ·rename_i el c;obtain ⟨n,i,rfl⟩:=ayT h;obtain ⟨a,cap,rfl⟩:=ara i d;exact ⟨.int .i64 n,by simp [az5,cR (iM c),goInt],by simp only [aB,VR]⟩
  ·split at h
   ·rename_i a b;simp only [ay0] at h;subst h;exact ⟨.int .i64 a.1,by simp [az5,cR (aaF b),goInt],by simp only [aB,VR]⟩
   ·rename_i a _ b;simp only [ay0] at h;subst h;obtain ⟨j,g,f⟩:=arb b;exact ⟨.int .i64 a.1,by simp [az5,cR g,cR (aaF f),goInt],by simp only [aB,VR]⟩
   ·cases h
theorem ard {t:TypeId} (h:adY P t=true):∃ a:Array Field,P.underlying t=some (.struct a)∧∀ f∈a.toList,∃ n,bX P f.type=some n:=by
 unfold adY at h;split at h
 ·rename_i a b;refine ⟨a,b,fun f c => ?_⟩;exact Option.isSome_iff_exists.1 (List.all_eq_true.1 h f c)
 ·cases h
theorem ajB:∀ (l:List Field),(∀ f∈l,∃ n,bX P f.type=some n)→∃ a:List (Nat×Nat),(l.mapM fun f=>(do pure (f.offset,←sizeOf f.type):Sem (Nat×Nat))).run P w = .ok a w∧a.length=l.length∧∀ (i:Nat) (f:Field),l[i]? = some f→∃ n,bX P f.type=some n∧a[i]? = some (f.offset,n)
 | [],_=>⟨[],by simp,rfl,fun i f h=>by simp at h⟩
 | f::l,h=>by
  obtain ⟨n,c⟩:=h f (by simp);obtain ⟨a,b,j,d⟩:=ajB l (fun g e=>h g (by simp [e]));refine ⟨(f.offset,n)::a,by simp [List.mapM_cons,iF c] at b ⊢;simp [b],by simp [j],fun i g hi => ?_⟩;cases i with
  | zero=>simp at hi;subst hi;exact ⟨n,c,rfl⟩
  | succ i=>simpa using d i g (by simpa using hi)
theorem are {t:TypeId} {parts:List (Nat×AV)} {o:AV} (h:acK P t parts=some o) {d:List (Nat×Value)} (S:d.length=parts.length)
 (T:∀ (j i:Nat) (o:AV) (O:Nat) (v:Value),parts[j]? = some (i,o)→d[j]? = some (O,v)→i=O∧VR P w I ρ o v):mT P w I ρ (Instr.build t d.toArray) o:=by
 unfold acK at h;obtain ⟨z,X,h⟩:=ayS h;obtain ⟨u,M,Q,h3,_⟩:=abv (w:=w) X;have g:u.cells.size=(z.map AV.val).length:=by simp [←Q]
 have k:dY (z.map AV.val):=fun c hc=>by
  obtain ⟨x,Z,rfl⟩:=azp.1 hc;exact ad7 (h3 x Z)
 have q:bB P w I ρ (z.map .val) (fun j=>u.cells[j]?):=by
  have:=ajq (P:=P) (w:=w) (I:=I) (ρ:=ρ) z;rw [←Q] at this ⊢;simpa using this
 split at h
 ·rename_i H;obtain ⟨N,r,y⟩:=ard H;obtain ⟨cs,l,rfl⟩:=ayT h
  -- the b
  obtain ⟨pl,C,a0,L⟩:=ajB (P:=P) (w:=w) N.toList y;obtain ⟨b,s⟩:∃ b:Array (Nat×Nat),b=pl.toArray:=⟨_,rfl⟩
  have m:(N.mapM fun f=>(do pure (f.offset,←sizeOf f.type):Sem (Nat×Nat))).run P w = .ok b w:=by
   rw [Array.mapM_eq_mapM_toList,Sem.run_map,C,s];rfl
  obtain ⟨e,D,E,f3,G,A⟩:=abt (P:=P) (w:=w) (I:=I) (ρ:=ρ) (place:=fun i=>b[i]?) (fun i p F=>by
   obtain ⟨fp,B,F⟩:=ayS F;obtain ⟨n,K,rfl⟩:=ayT F;obtain ⟨V,f,J,Y,e3,e4⟩:=agh B;rw [r] at J;simp only [ay0,TypeDesc.struct.injEq] at J;subst J;obtain ⟨n',R,W⟩:=L i f (by simpa using Y);rw [e4,K,ay0] at R;subst R;rw [s,azZ,W,e3]) parts d (z.map .val) cs u.cells l S T g k q
  refine ⟨.agg e, ?_, ?_⟩
  ·simp only [Instr.build,azw,M,azz,cR r,m];simp [D]
  ·simp only [VR];exact ⟨e,rfl,E,G,A⟩
 ·obtain ⟨a,U,h⟩:=ayS h;obtain ⟨n,K,h⟩:=ayS h;obtain ⟨cs,l,rfl⟩:=ayT h;obtain ⟨e,D,E,f3,G,A⟩:=abt (P:=P) (w:=w) (I:=I) (ρ:=ρ) (place:=fun i=>some (i*n,n)) (placeE:=fun i=>some (i*n,n)) (fun _ _ h=>h) parts d (z.map .val) cs u.cells l S T g k q;refine ⟨.agg e, ?_, ?_⟩
  ·simp [Instr.build,M,cR (aaF U),iF K,D]
  ·simp only [VR];exact ⟨e,rfl,E,G,A⟩
end
section
variable {P:Program} {w:World} {I:Nat→Prop} {ρ:cA} {m:aF}
def fS (P:Program) (w:World) (I:Nat→Prop) (ρ:cA) (m:aF) (a:Act) (r:Result Next) (out:bL):Prop :=
 ∃ v w' b ρ',(r = .ok (.value v) w'∨(r = .ok .skip w'∧v=undef))∧VR P w' b ρ' out.v v∧SR P w' b ρ' out.m∧cM w I ρ m w' b ρ' out.m∧∀ d y,out.wb=some (d,y)→VR P w' b ρ' y (a.tmps.getD d undef)
theorem fS.of_does {a:Act} {s:Sem Value} {out:bL} {addr:Value} (h:iN P w I ρ m (s.run P w) id out addr) (i:∀ d y,out.wb=some (d,y)→addr=a.tmps.getD d undef):fS P w I ρ m a ((do pure (.value (←s)):Sem Next).run P w) out:=by
 obtain ⟨x,w',b,ρ',g,f,e,c,j⟩:=h;exact ⟨x,w',b,ρ',.inl (by simp [g]),f,e,c,fun d y h=>by rw [←i d y h];exact j d y h⟩
theorem fS.of_pur {a:Act} {s:Sem Value} {v:Option AV} {out:bL} (f:SR P w I ρ m) (h:eV v m=some out) (g:∀ b,v=some b→mT P w I ρ s b):fS P w I ρ m a ((do pure (.value (←s)):Sem Next).run P w) out:=by
 unfold eV at h;obtain ⟨b,c,rfl⟩:=ayT h;obtain ⟨x,i,e⟩:=g b c;exact ⟨x,w,I,ρ,.inl (by simp [i]),e,f,cM.refl _ _ _ _,fun d y h=>by cases h⟩
theorem aeb {e:bC} {a:Act} (parts:Array (Nat×Operand)):(parts.map fun p=>(p.1,a.eval p.2)).toList.length=(parts.toList.map fun p=>(p.1,opd e p.2)).length:=by simp
theorem aec {e:bC} {a:Act} (g:ER P w I ρ e a) (parts:Array (Nat×Operand)):∀ (j i:Nat) (f:AV) (d:Nat) (v:Value),(parts.toList.map fun p=>(p.1,opd e p.2))[j]? = some (i,f)→(parts.map fun p=>(p.1,a.eval p.2)).toList[j]? = some (d,v)→i=d∧VR P w I ρ f v:=by
 intro j i f d v b c;rw [azo] at b;rw [Array.toList_map,azo] at c;obtain ⟨p,h,b⟩:=ayT b;rw [h] at c;simp only [az6,ay0,azk] at b c;obtain ⟨rfl,rfl⟩:=b;obtain ⟨rfl,rfl⟩:=c;exact ⟨rfl,dU g p.2⟩
theorem aed {a:Act} (parts:Array (Nat×Operand)):(parts.map fun (i,x)=>(i,a.eval x))=(parts.map fun p=>(p.1,a.eval p.2)).toList.toArray:=by
 rw [Array.toArray_toList]
theorem arf (C : SR P w I ρ m) {Q : Bool} {e : bC} {a : Act} (A : ER P w I ρ e a) {o : Oper} {out : bL} (h : cZ P Q e m o.op = some out) (B : ∀ b, m.next ≤ b → b < out.m.next → ρ b = none) :
   fS P w I ρ m a ((execOp a.eval o).run P w) out := by
 obtain ⟨dst, op, type, pos, after, guard⟩ := o;simp only at h;cases op <;> simp only [cZ] at h <;> try (cases h; done)
 case move x =>
   simp only [zag] at h; subst h;exact ⟨a.eval x, w, I, ρ, .inl (by simp [execOp]), dU A x, C, cM.refl _ _ _ _, fun d y h => by cases h⟩
 case assign x =>
   simp only [zag] at h; subst h;exact ⟨a.eval x, w, I, ρ, .inl (by simp [execOp]), dU A x, C, cM.refl _ _ _ _, fun d y h => by cases h⟩
 case pick c x y =>
   obtain ⟨H, p, rfl⟩ := ayT h;obtain ⟨v, K, T⟩ := aqC p (dU A x) (dU A y) (dU A c);refine ⟨v, w, I, ρ, .inl ?_, T, C, cM.refl _ _ _ _, fun d y h => by cases h⟩;simp only [azw] at K;cases L : (asBool (a.eval c)).run P w with
   | halt x y => rw [L] at K; simp at K
   | ok b w1 =>
     rw [L] at K;simp only [azz, azx, Result.ok.injEq] at K;obtain ⟨rfl, rfl⟩ := K;simp [execOp, L]
 case alloc t =>
   have hf : ρ m.next = none := B m.next (aza _) (by
     unfold bD at h;obtain ⟨z, V, h⟩ := ayS h;simp only [zag] at h;subst h;simp [aF.push])
   have := aqP (addr := undef) C hf h (.tuple #[]);refine fS.of_does this (fun d y F => ?_);unfold bD at h;obtain ⟨z, V, h⟩ := ayS h;simp only [zag] at h;subst h;cases F
 case box t x =>
   refine fS.of_does (aqQ C h B (dU A x) undef) (fun d y F => ?_);unfold abn at h;obtain ⟨n, hn, h⟩ := ayS h;split at h
   · split at h
     · obtain ⟨r, hr, h⟩ := ayS h
       simp only [zag] at h; subst h; cases F
     · simp only [zag] at h; subst h; cases F
   · cases h
 case build t parts =>
   refine fS.of_pur C h fun H p => ?_
   ·
     have := are (P := P) (w := w) (I := I) (ρ := ρ) p (aeb (e := e) (a := a) parts) (aec A parts);rw [← aed] at this;exact this
 case buildSlice t len parts =>
   have := aqR C h B (aeb (e := e) (a := a) parts) (aec A parts) undef;rw [← aed] at this;refine fS.of_does this (fun d y F => ?_);unfold pR at h;obtain ⟨_, _, h⟩ := ayS h;obtain ⟨_, _, h⟩ := ayS h;obtain ⟨_, _, h⟩ := ayS h;split at h
   · obtain ⟨_, _, h⟩ := ayS h
     split at h
     · obtain ⟨_, _, h⟩ := ayS h
       simp only [zag] at h; subst h; cases F
     · simp only [zag] at h; subst h; cases F
   · cases h
 case load t x => exact fS.of_pur C h fun H p => aji C p (dU A x)
 case store t x y =>
   obtain ⟨u, w', I', ρ', K, T, h3, h4, h5⟩ := aqW C h (dU A y) (dU A x);refine ⟨undef, w', I', ρ', .inr ⟨by simp [execOp, K], rfl⟩, T, h3, h4, fun d z F => ?_⟩;have V := h5 d z F;have N : zG x = some d := by
     unfold aS at h;split at h
     · obtain ⟨n, hn, h⟩ := ayS h
       obtain ⟨k, O, h⟩ := ayS h;split at h
       · split at h
         · obtain ⟨d', U, h⟩ := ayS h
           split at h
           · obtain ⟨r, hr, h⟩ := ayS h
             simp only [ay0] at h;subst h;simp only [ay0, azk] at F;rw [U, F.1]
           · cases h
         · simp only [zag] at h; subst h; cases F
         · obtain ⟨r, hr, h⟩ := ayS h
           obtain ⟨r2, a4, h⟩ := ayS h;split at h
           · simp only [zag] at h; subst h; cases F
           · cases h
       · cases h
     · cases h
   cases x <;> simp only [zG] at N
   · simp only [ay0] at N
     subst N;exact V
   all_goals cases N
 case nilCheck x =>
   obtain ⟨H, p, rfl⟩ := ayT h;have E := dU A x;refine ⟨a.eval x, w, I, ρ, .inl ?_, ?_, C, cM.refl _ _ _ _, fun d y h => by cases h⟩
   · unfold sQ at p
     split at p
     · rename_i D; rw [D] at E; simp only [VR] at E; obtain ⟨g, o, _, E⟩ := E; simp [execOp, E]
     · rename_i D; rw [D] at E; simp only [VR] at E; obtain ⟨g, o, E, _⟩ := E; simp [execOp, E]
     · rename_i D; rw [D] at E; simp only [VR] at E; obtain ⟨vs, E, _⟩ := E; simp [execOp, E]
     · cases p
   · unfold sQ at p
     split at p
     · rename_i D; simp only [ay0] at p; subst p; rw [← D]; exact E
     · rename_i D; simp only [ay0] at p; subst p; rw [← D]; exact E
     · rename_i D; simp only [ay0] at p; subst p; rw [← D]; exact E
     · cases p
 case binOp op t x y ty => exact fS.of_pur C h fun H p => aqE p (dU A x) (dU A y)
 case unOp op t x => exact fS.of_pur C h fun H p => aqF p (dU A x)
 case convert s d x =>
   refine fS.of_does (ajt C h B (dU A x) undef) (fun d' y F => ?_);unfold nJ at h;split at h
   · split at h
     · split at h
       · simp only [zag] at h; subst h; cases F
       · cases h
     · cases h
   · split at h
     · split at h
       · obtain ⟨_, _, h⟩ := ayS h
         split at h
         · obtain ⟨_, _, h⟩ := ayS h
           simp only [zag] at h; subst h; cases F
         · cases h
       · cases h
     · split at h
       · simp only [eV] at h
         obtain ⟨_, _, rfl⟩ := ayT h;cases F
       · cases h
 case slice t x lo hi mx =>
   split at h
   case isFalse => cases h
   rename_i G;have a2 : ∀ b J n c f el sz, opd e x = .sl b J n c f → bO P t = some el → bX P el = some sz → ∀ g o', ρ b = some (g, o') → ∀ ty n', w.shape? g = some (ty, n') → bX P ty = some sz := by
     intro b J n c f el sz e1 W X g o' e4 ty n' Y;rw [e1] at G;simp only [slOk, W] at G;cases L : m.at_ b with
     | none => rw [L] at G; simp at G
     | some k =>
       rw [L] at G;simp only [beq_iff_eq] at G;obtain ⟨arr, fr, q1, _⟩ := (C.blk b k g o' L e4).cells;rw [mJ q1] at Y;simp only [ay0, azk] at Y;rw [← Y.1, G, X]
   obtain ⟨l, hl, h⟩ := ayS h;obtain ⟨hh, a1, h⟩ := ayS h;obtain ⟨mm, S, h⟩ := ayS h;exact fS.of_pur C h fun H p => aqM p (dU A x) (fun b J n c f el sz e1 W X => a2 b J n c f el sz e1 W X) (agk A hl) (agk A a1) (agk A S)
 case fieldAddr s x f => exact fS.of_pur C h fun H p => aqH p (dU A x)
 case field t x f => exact fS.of_pur C h fun H p => aqI p (dU A x)
 case indexAddr t x i =>
   obtain ⟨k, O, h⟩ := ayS h;obtain ⟨kd, M⟩ := acN O (dU A i);exact fS.of_pur C h fun H p => by rw [M]; exact aqJ p (dU A x) kd
 case index t x i =>
   obtain ⟨k, O, h⟩ := ayS h;obtain ⟨kd, M⟩ := acN O (dU A i);exact fS.of_pur C h fun H p => by rw [M]; exact aqK p (dU A x) kd
 case extract x i => exact fS.of_pur C h fun H p => aqG p (dU A x)
 case makeSlice t l c =>
   obtain ⟨n, hn, h⟩ := ayS h;obtain ⟨k, O, h⟩ := ayS h;obtain ⟨kn, a0⟩ := acN hn (dU A l);obtain ⟨kk, R⟩ := acN O (dU A c);have q := h;unfold nK at q;obtain ⟨_, _, q⟩ := ayS q;obtain ⟨_, _, q⟩ := ayS q;obtain ⟨_, _, q⟩ := ayS q;obtain ⟨_, _, q⟩ := ayS q;split at q
   · simp only [zag] at q
     have hf : ρ m.next = none := B m.next (aza _) (by rw [← q]; simp [aF.push]);have N := aqS (addr := undef) C h hf kn kk;rw [← a0, ← R] at N;exact fS.of_does N (fun d y F => by rw [← q] at F; cases F)
   · cases q
 case makeFunc fn first caps =>
   cases fn <;> simp only at h <;> try (cases h; done)
   rename_i f;split at h
   · rename_i Z
     simp only [zag] at h; subst h;have a3 : first = #[] := Array.eq_empty_of_size_eq_zero Z
     subst a3;refine ⟨.func (.func f) #[] (caps.map a.eval), w, I, ρ, .inl (by simp [execOp, Instr.makeFunc]), ?_, C, cM.refl _ _ _ _, fun d y h => by cases h⟩;simp only [VR];refine ⟨_, rfl, by simp, lG.2 fun j c hj => ?_⟩;rw [azo] at hj;obtain ⟨x, E, rfl⟩ := ayT hj;exact ⟨a.eval x, by simp at E ⊢; exact ⟨x, E, rfl⟩, dU A x⟩
   · cases h
end
def zM (P:Program) (f:FuncId):Bool:=match P.funcs[f]? with
 | some fn => fn.name != "runtime.NumGoroutine" && fn.body.isSome
 | none=>false
def aQ (P:Program) (f:FuncId) (args:List AV) (r:fA):Prop:=zM P f=true ∧
 ∀ (w:World) (I:Nat→Prop) (vs:Array Value),(∀ g,I g→g < w.heap.size)→vs.size=args.length→bB P w I dA args (fun j=>vs[j]?) →
  Calls P f vs w fun b w'=>∃ v a ρ',b = .returned v∧VR P w' a ρ' r.v v∧SR P w' a ρ' (eB P aF.empty r.rows)∧cM w I dA aF.empty w' a ρ' (eB P aF.empty r.rows)
def dV (P:Program) (f:FuncId) (args:List AV) (m:aF) (Q:AV→aF→Prop):Prop:=zM P f=true ∧
 ∀ (w:World) (I:Nat→Prop) (ρ:cA) (vs:Array Value),SR P w I ρ m→vs.size=args.length→bB P w I ρ args (fun j=>vs[j]?)→(∀ b,m.next≤b→ρ b=none) →
  Calls P f vs w fun c w'=>∃ v r m' a ρ',c = .returned v∧Q r m'∧VR P w' a ρ' r v∧SR P w' a ρ' m'∧cM w I ρ m w' a ρ' m'∧∀ b,m'.next≤b→ρ' b=none
def arg (P:Program) (f:FuncId) (args:List AV) (m:aF) (r:AV):Prop :=
 ∀ (w:World) (I:Nat→Prop) (ρ:cA) (vs:Array Value),SR P w I ρ m→vs.size=args.length→bB P w I ρ args (fun j=>vs[j]?)→∃ v,(callFunc f vs).run P w = .ok (.value v) w∧VR P w I ρ r v
section
variable {P:Program} {w w':World} {I I':Nat→Prop} {ρ ρ':cA} {m:aF}
def dE (P:Program) (base:Nat) (r:TypeId×List AV):eZ:=⟨if bK P r.1 = .flat then r.2 else gT base r.2,r.1,bK P r.1,true⟩
theorem ajC (base:Nat):∀ (rows:List (TypeId×List AV)) (m:aF),(gN P base m rows).next=m.next+rows.length
 | [],m=>rfl
 | r::rows,m=>by rw [gN,ajC base rows];simp [aF.push];omega
theorem ajD (base:Nat):∀ (rows:List (TypeId×List AV)) (m:aF) (b:Nat),(gN P base m rows).at_ b=if m.next≤b∧b < m.next+rows.length then (rows[b - m.next]?).map (dE P base) else m.at_ b
 | [],m,b=>by rw [gN,if_neg (by simp)]
 | r::rows,m,b=>by
  have f:(m.push (dE P base r)).next=m.next+1:=rfl;have e:(m.push (dE P base r)).at_ b=if b=m.next then some (dE P base r) else m.at_ b:=rfl
  have c:gN P base m (r::rows)=gN P base (m.push (dE P base r)) rows:=rfl;rw [c,ajD base rows,f,e,List.length_cons];by_cases h:b=m.next
  ·subst h;rw [if_neg (by omega),if_pos (by omega)];simp
  ·by_cases a:m.next+1≤b∧b < m.next+1+rows.length
   ·rw [if_pos a,if_pos (by omega)];obtain ⟨d,g⟩:∃ d,b - m.next=d+1:=⟨b - m.next - 1,by omega⟩
    rw [g,List.getElem?_cons_succ];congr 2;omega
   ·rw [if_neg a,if_neg h,if_neg (by omega)]
theorem ajE (base:Nat):∀ (rows:List (TypeId×List AV)) (m:aF),(gN P base m rows).mm=m.mm
 | [],m=>rfl
 | c::cs,m=>by unfold gN;rw [ajE base cs];rfl
theorem aee (rows:List (TypeId×List AV)) (m:aF):(eB P m rows).mm=m.mm:=ajE _ _ _
theorem aaL (rows:List (TypeId×List AV)) (m:aF):(eB P m rows).next=m.next+rows.length:=ajC _ _ _
theorem abw (rows:List (TypeId×List AV)) (m:aF) (b:Nat):(eB P m rows).at_ b=if m.next≤b∧b < m.next+rows.length then (rows[b - m.next]?).map (dE P m.next) else m.at_ b:=ajD _ _ _ _
mutual
theorem arh:∀ (k:Nat) (av av':AV),iI av=false→lend k m av=some av'→av'=av
 | k,.val v,av',h,hl=>by unfold lend at hl;simp at hl;exact hl.symm
 | k,.tree _ _ _ _,av',h,hl=>by unfold lend at hl;simp at hl;exact hl.symm
 | k,.tptr _ _,av',h,hl=>by unfold lend at hl;simp at hl;exact hl.symm
 | k,.emp _ _,av',h,hl=>by unfold lend at hl;simp at hl;exact hl.symm
 | k,.agg cs,av',h,hl=>by
  simp only [iI] at h
  unfold lend at hl
  obtain ⟨cs',hc,rfl⟩:=ayT hl
  rw [aef k cs cs' h hc]
 | k,.clo f cs,av',h,hl=>by
  simp only [iI] at h
  unfold lend at hl
  obtain ⟨cs',hc,rfl⟩:=ayT hl
  rw [aef k cs cs' h hc]
 | k,.sl _ _ _ _ _,av',h,hl=>by simp [iI] at h
 | k,.ptr _ _,av',h,hl=>by simp [iI] at h
 | k,.tup cs,av',h,hl=>by unfold lend at hl;cases hl
theorem aef:∀ (k:Nat) (cs cs':List AV),kF cs=false→dN k m cs=some cs'→cs'=cs
 | k,[],cs',h,hl=>by unfold dN at hl;simp at hl;exact hl
 | k,c::cs,cs',h,hl=>by
  simp only [kF,Bool.or_eq_false_iff] at h
  unfold dN at hl
  obtain ⟨c',hc,hl⟩:=ayS hl
  obtain ⟨cs'',hcs,rfl⟩:=ayT hl
  rw [arh k c c' h.1 hc,aef k cs cs'' h.2 hcs]
end
def qO (w:World):Nat→Prop:=fun g=>g < w.heap.size
theorem acW (b:SR P w I ρ m):iL w w I (qO w):=⟨fun g a=>b.lt g a,fun _ _=>rfl,fun _ _ h=>h⟩
theorem SR.ltb (d:SR P w I ρ m) {b:Nat} {k:eZ} {g o:Nat} (e:m.at_ b=some k) (c:ρ b=some (g,o)):g < w.heap.size:=by
 obtain ⟨arr,f,a,_⟩:=(d.blk b k g o e c).cells;exact zI a
mutual
theorem ari:∀ (k:Nat) (av av':AV),lend k m av=some av'→dL av'=dL av
 | k,.val v,av',hl=>by unfold lend at hl;simp at hl;rw [←hl]
 | k,.tree _ _ _ _,av',hl=>by unfold lend at hl;simp at hl;rw [←hl]
 | k,.tptr _ _,av',hl=>by unfold lend at hl;simp at hl;rw [←hl]
 | k,.emp _ _,av',hl=>by unfold lend at hl;simp at hl;rw [←hl]
 | k,.agg cs,av',hl=>by unfold lend at hl;obtain ⟨cs',hc,rfl⟩:=ayT hl;rfl
 | k,.clo f cs,av',hl=>by unfold lend at hl;obtain ⟨cs',hc,rfl⟩:=ayT hl;rfl
 | 0,.sl _ _ _ _ _,av',hl=>by
  unfold lend at hl
  obtain ⟨x,hx,hl⟩:=ayS hl
  split at hl
  ·simp at hl;rw [←hl];rfl
  ·cases hl
 | k+1,.sl _ _ _ _ _,av',hl=>by
  unfold lend at hl
  obtain ⟨x,hx,hl⟩:=ayS hl
  split at hl
  ·simp at hl;rw [←hl];rfl
  ·obtain ⟨cs',hc,rfl⟩:=ayT hl;rfl
  ·cases hl
 | 0,.ptr _ _,av',hl=>by unfold lend at hl;cases hl
 | k+1,.ptr _ _,av',hl=>by
  unfold lend at hl
  obtain ⟨x,hx,hl⟩:=ayS hl
  split at hl
  ·simp at hl;rw [←hl];rfl
  ·obtain ⟨cs',hc,rfl⟩:=ayT hl;rfl
  ·cases hl
 | k,.tup cs,av',hl=>by unfold lend at hl;cases hl
end
theorem abx:∀ (k:Nat) (cs a:List AV),dN k m cs=some a→a.length=cs.length∧(dY cs→dY a)
 | k,[],a,b=>by unfold dN at b;simp at b;subst b;exact ⟨rfl,fun h=>h⟩
 | k,c::cs,a,b=>by
  unfold dN at b;obtain ⟨n,l,b⟩:=ayS b;obtain ⟨d,f,rfl⟩:=ayT b;obtain ⟨j,i⟩:=abx k cs d f;refine ⟨by simp [j],fun h x e => ?_⟩;rcases az7.1 e with rfl | e
  ·rw [ari k c _ l];exact h c (by simp)
  ·exact i (fun y g=>h y (by simp [g])) x e
mutual
theorem arj (hS:SR P w I ρ m):∀ (k:Nat) (av av':AV) (v:Value),lend k m av=some av'→VR P w I ρ av v→VR P w (qO w) dA av' v
 | k,.val x,av',v,hl,hv=>by unfold lend at hl;simp at hl;subst hl;simpa only [VR] using hv
 | k,.tree a b c d,av',v,hl,hv=>by
  unfold lend at hl;simp at hl;subst hl
  exact rI (acW hS) (fun _ _ h=>h) _ _ (aaI _ _ rfl hv)
 | k,.tptr a b,av',v,hl,hv=>by
  unfold lend at hl;simp at hl;subst hl
  exact rI (acW hS) (fun _ _ h=>h) _ _ (aaI _ _ rfl hv)
 | k,.emp _ _,av',v,hl,hv=>by unfold lend at hl;simp at hl;subst hl;simpa only [VR] using hv
 | k,.agg cs,av',v,hl,hv=>by
  unfold lend at hl
  obtain ⟨cs',hc,rfl⟩:=ayT hl
  simp only [VR] at hv ⊢
  obtain ⟨vs,h1,h2,h3,h4⟩:=hv
  obtain ⟨l1,l2⟩:=abx k cs cs' hc
  exact ⟨vs,h1,by rw [h2,l1],l2 h3,aby hS k cs cs' _ hc h4⟩
 | k,.clo f cs,av',v,hl,hv=>by
  unfold lend at hl
  obtain ⟨cs',hc,rfl⟩:=ayT hl
  simp only [VR] at hv ⊢
  obtain ⟨vs,h1,h2,h4⟩:=hv
  obtain ⟨l1,l2⟩:=abx k cs cs' hc
  exact ⟨vs,h1,by rw [h2,l1],aby hS k cs cs' _ hc h4⟩
 | 0,.sl b off len c full,av',v,hl,hv=>by
  unfold lend at hl
  obtain ⟨x,hx,hl⟩:=ayS hl
  split at hl
  ·rename_i hk
   simp at hl;subst hl
   simp only [VR] at hv ⊢
   obtain ⟨g,o,cap,ty,n,s,hg,rfl,hlc,hf,_⟩:=hv
   have hB:=hS.blk b x g o hx hg
   refine ⟨g,o+off,cap,rfl,hS.ltb hx hg,hlc,hf,lH hB.one _, ?_⟩
   exact iK (lS (eN (acW hS) (fun _ _ h=>h) _ _ (hB.flatAt hk)) off) fun j _=>by rw [ay3]
  ·cases hl
 | k+1,.sl b off len c full,av',v,hl,hv=>by
  unfold lend at hl
  obtain ⟨x,hx,hl⟩:=ayS hl
  simp only [VR] at hv
  obtain ⟨g,o,cap,ty,n,s,hg,rfl,hlc,hf,_⟩:=hv
  have hB:=hS.blk b x g o hx hg
  split at hl
  ·rename_i hk
   simp at hl;subst hl
   simp only [VR]
   refine ⟨g,o+off,cap,rfl,hS.ltb hx hg,hlc,hf,lH hB.one _, ?_⟩
   exact iK (lS (eN (acW hS) (fun _ _ h=>h) _ _ (hB.flatAt hk)) off) fun j _=>by rw [ay3]
  ·obtain ⟨cs',hc,rfl⟩:=ayT hl
   simp only [VR]
   obtain ⟨l1,l2⟩:=abx k _ cs' hc
   refine ⟨g,o+off,cap,rfl,hS.ltb hx hg,hlc,hf,l2 (lH hB.one _), ?_⟩
   exact iK (aby hS k _ cs' _ hc (lS hB.cellsAt off)) fun j _=>by rw [ay3]
  ·cases hl
 | 0,.ptr b off,av',v,hl,hv=>by unfold lend at hl;cases hl
 | k+1,.ptr b off,av',v,hl,hv=>by
  unfold lend at hl
  obtain ⟨x,hx,hl⟩:=ayS hl
  simp only [VR] at hv
  obtain ⟨g,o,hg,rfl⟩:=hv
  have hB:=hS.blk b x g o hx hg
  split at hl
  ·rename_i hk
   simp at hl;subst hl
   simp only [VR]
   exact ⟨g,o,rfl,hS.ltb hx hg,hB.one,eN (acW hS) (fun _ _ h=>h) _ _ (hB.flatAt hk)⟩
  ·obtain ⟨cs',hc,rfl⟩:=ayT hl
   simp only [VR]
   obtain ⟨l1,l2⟩:=abx k _ cs' hc
   exact ⟨g,o,rfl,hS.ltb hx hg,l2 hB.one,aby hS k _ cs' _ hc hB.cellsAt⟩
  ·cases hl
 | k,.tup cs,av',v,hl,hv=>by unfold lend at hl;cases hl
 termination_by k av=>(k,ayW av)
theorem aby (hS:SR P w I ρ m):∀ (k:Nat) (cs cs':List AV) (get:Nat→Option Value),dN k m cs=some cs'→bB P w I ρ cs get→bB P w (qO w) dA cs' get
 | k,[],cs',get,hl,hv=>by unfold dN at hl;simp at hl;subst hl;simp only [bB]
 | k,c::cs,cs',get,hl,hv=>by
  unfold dN at hl
  obtain ⟨c',hc,hl⟩:=ayS hl
  obtain ⟨cs'',hcs,rfl⟩:=ayT hl
  simp only [bB] at hv ⊢
  obtain ⟨⟨v,h1,h2⟩,h3⟩:=hv
  exact ⟨⟨v,h1,arj hS k c c' v hc h2⟩,aby hS k cs cs'' _ hcs h3⟩
 termination_by k cs=>(k,ayW cs)
end
end
section
variable {P:Program} {w w':World} {I I':Nat→Prop} {ρ ρ':cA} {m:aF}
def both (ρ ρ':cA) (n k:Nat):cA:=fun b=>if n≤b∧b < n+k then ρ' (b - n) else ρ b
theorem ark {n k:Nat} (a:∀ b,n≤b→b < n+k→ρ b=none):∀ b x,ρ b=some x→both ρ ρ' n k b=some x:=by
 intro b x h;unfold both;split
 ·rename_i c;rw [a b c.1 c.2] at h;cases h
 ·exact h
theorem aeg (n:Nat):∀ cs:List AV,(gT n cs).length=cs.length
 | []=>rfl
 | c::cs=>by simp [gT,aeg n cs]
theorem arl (n:Nat) (a:AV):dL (shift n a)=dL a:=by cases a <;> simp [shift,dL]
theorem agA (n:Nat):∀ cs:List AV,dY cs→dY (gT n cs)
 | [],h=>h
 | c::cs,h=>fun x a=>by
  simp only [gT] at a;rcases az7.1 a with rfl | a
  ·rw [arl];exact h c (by simp)
  ·exact agA n cs (fun y b=>h y (by simp [b])) x a
mutual
theorem agB {n k:Nat} (hk:∀ b x,ρ' b=some x→b < k):∀ (av:AV) (v:Value),VR P w I ρ' av v→VR P w I (both ρ ρ' n k) (shift n av) v
 | .val x,v,hv=>by simpa only [shift,VR] using hv
 | .tree _ _ _ _,v,hv=>by simpa only [shift,VR] using hv
 | .tptr _ _,v,hv=>by simpa only [shift,VR] using hv
 | .emp _ _,v,hv=>by simpa only [shift,VR] using hv
 | .agg cs,v,hv=>by
  simp only [shift,VR] at hv ⊢
  obtain ⟨vs,h1,h2,h3,h4⟩:=hv
  exact ⟨vs,h1,by rw [h2,aeg],agA n cs h3,acX hk cs _ h4⟩
 | .tup cs,v,hv=>by
  simp only [shift,VR] at hv ⊢
  obtain ⟨vs,h1,h2,h4⟩:=hv
  exact ⟨vs,h1,by rw [h2,aeg],acX hk cs _ h4⟩
 | .sl b off len c f,v,hv=>by
  simp only [shift,VR] at hv ⊢
  obtain ⟨g,o,cap,ty,n',s,hg,h⟩:=hv
  exact ⟨g,o,cap,ty,n',s,by unfold both;rw [if_pos ⟨by omega,by have:=hk b _ hg;omega⟩,Nat.add_sub_cancel_left];exact hg,h⟩
 | .ptr b off,v,hv=>by
  simp only [shift,VR] at hv ⊢
  obtain ⟨g,o,hg,h⟩:=hv
  exact ⟨g,o,by unfold both;rw [if_pos ⟨by omega,by have:=hk b _ hg;omega⟩,Nat.add_sub_cancel_left];exact hg,h⟩
 | .clo f cs,v,hv=>by
  simp only [shift,VR] at hv ⊢
  obtain ⟨vs,h1,h2,h4⟩:=hv
  exact ⟨vs,h1,by rw [h2,aeg],acX hk cs _ h4⟩
theorem acX {n k:Nat} (hk:∀ b x,ρ' b=some x→b < k):∀ (cs:List AV) (get:Nat→Option Value),bB P w I ρ' cs get→bB P w I (both ρ ρ' n k) (gT n cs) get
 | [],get,hv=>by simp only [gT,bB]
 | c::cs,get,hv=>by
  simp only [gT,bB] at hv ⊢
  obtain ⟨⟨v,h1,h2⟩,h3⟩:=hv
  exact ⟨⟨v,h1,agB hk c v h2⟩,acX hk cs _ h3⟩
end
mutual
theorem ajF {I1 I2:Nat→Prop}:∀ (av:AV) (v:Value),hY av=true→VR P w I1 ρ av v→VR P w I2 ρ av v
 | .val x,v,h,hv=>by simpa only [VR] using hv
 | .agg cs,v,h,hv=>by
  simp only [hY] at h
  simp only [VR] at hv ⊢
  obtain ⟨vs,h1,h2,h3,h4⟩:=hv
  exact ⟨vs,h1,h2,h3,aeh cs _ h h4⟩
 | .tup cs,v,h,hv=>by
  simp only [hY] at h
  simp only [VR] at hv ⊢
  obtain ⟨vs,h1,h2,h4⟩:=hv
  exact ⟨vs,h1,h2,aeh cs _ h h4⟩
 | .tree _ _ _ _,v,h,hv=>by simp [hY] at h
 | .tptr _ _,v,h,hv=>by simp [hY] at h
 | .emp _ _,v,h,hv=>by simpa only [VR] using hv
 | .sl _ _ _ _ _,v,h,hv=>by simpa only [VR] using hv
 | .ptr _ _,v,h,hv=>by simp [hY] at h
 | .clo _ _,v,h,hv=>by simp [hY] at h
theorem aeh {I1 I2:Nat→Prop}:∀ (cs:List AV) (get:Nat→Option Value),iA cs=true→bB P w I1 ρ cs get→bB P w I2 ρ cs get
 | [],get,h,hv=>by simp only [bB]
 | c::cs,get,h,hv=>by
  simp only [iA,Bool.and_eq_true] at h
  simp only [bB] at hv ⊢
  obtain ⟨⟨v,h1,h2⟩,h3⟩:=hv
  exact ⟨⟨v,h1,ajF c v h.1 h2⟩,aeh cs _ h.2 h3⟩
end
mutual
theorem arm:∀ av:AV,shift 0 av=av
 | .val _=>rfl
 | .tree _ _ _ _=>rfl
 | .tptr _ _=>rfl
 | .emp _ _=>rfl
 | .agg cs=>by simp only [shift,acY cs]
 | .tup cs=>by simp only [shift,acY cs]
 | .sl b _ _ _ _=>by simp only [shift,azq]
 | .ptr b _=>by simp only [shift,azq]
 | .clo _ cs=>by simp only [shift,acY cs]
theorem acY:∀ cs:List AV,gT 0 cs=cs
 | []=>rfl
 | c::cs=>by simp only [gT,arm c,acY cs]
end
theorem agC (r:TypeId×List AV):dE P 0 r=⟨r.2,r.1,bK P r.1,true⟩:=by
 unfold dE;rw [acY];split <;> rfl
theorem ajG (B:SR P w I ρ m) {W:Nat→Prop} (Z:∀ g,I g→W g) {rows:List (TypeId×List AV)} (D:∀ b,m.next≤b→b < m.next+rows.length→ρ b=none)
 (T:SR P w' I' ρ' (eB P aF.empty rows)) (c:cM w W dA aF.empty w' I' ρ' (eB P aF.empty rows)) (y:(∀ g,I' g→I g∨w.heap.size≤g)∨∀ r∈rows,iA r.2=true) :
 ∃ G,(∀ g,G g↔I g∨(I' g∧w.heap.size≤g))∧SR P w' G (both ρ ρ' m.next rows.length) (eB P m rows)∧cM w I ρ m w' G (both ρ ρ' m.next rows.length) (eB P m rows):=by
 have v:∀ g,¬ Wr dA aF.empty g:=by
  rintro g (⟨b,k,o,l,_⟩ | l)
  ·simp [aF.empty] at l
  ·exact zH l
 have d:∀ g,g < w.heap.size→w'.heap[g]? = w.heap[g]? := fun g a=>c.same g a (v g)
 have Y:∀ b x,ρ' b=some x→b < rows.length:=fun b x h=>by
  have:=c.lo b rfl (by rw [h];simp);rw [aaL] at this;simp [aF.empty] at this;exact this
 have j:∀ b g o,ρ' b=some (g,o)→w.heap.size≤g:=fun b g o h=>by
  have V:=Y b _ h;have q:(eB P aF.empty rows).at_ b=some (dE P 0 rows[b]):=by
   rw [abw,if_pos (by simp [aF.empty];exact V)];simp [aF.empty,azm V]
  rcases c.own g (.inl ⟨b,_,o,q,rfl,h⟩) with h | h
  ·exact absurd h (v g)
  ·exact h
 have z:=ark (ρ':=ρ') D;refine ⟨fun g=>I g∨(I' g∧w.heap.size≤g),fun g=>Iff.rfl, ?_⟩;have O:iL w w' I (fun g=>I g∨(I' g∧w.heap.size≤g)):=⟨fun _ h => .inl h,fun g a=>d g (B.lt g a),c.shape⟩
 have q:∀ b x,(eB P m rows).at_ b=some x→(m.next≤b∧b < m.next+rows.length∧∃ r,rows[b - m.next]? = some r∧(eB P aF.empty rows).at_ (b - m.next)=some (dE P 0 r)∧x=dE P m.next r)∨(¬ (m.next≤b∧b < m.next+rows.length)∧m.at_ b=some x):=by
  intro b x h;rw [abw] at h;split at h
  ·rename_i H;obtain ⟨r,R,hx⟩:=ayT h;refine .inl ⟨H.1,H.2,r,R, ?_,hx.symm⟩;rw [abw,if_pos (by simp [aF.empty];omega)];simp [aF.empty,R]
  ·rename_i H;exact .inr ⟨H,h⟩
 have t:∀ b,m.next≤b∧b < m.next+rows.length→both ρ ρ' m.next rows.length b=ρ' (b - m.next):=fun b h=>by unfold both;rw [if_pos h]
 have p:∀ b,¬ (m.next≤b∧b < m.next+rows.length)→both ρ ρ' m.next rows.length b=ρ b:=fun b h=>by unfold both;rw [if_neg h]
 have i:∀ b k g o,m.at_ b=some k→ρ b=some (g,o)→g < w.heap.size:=fun b k g o l e=>B.ltb l e
 refine ⟨⟨fun b x g o l e => ?_,fun J Q k1 k2 g o1 o2 l e s C h5 => ?_,fun g a => ?_,by rw [aee];exact B.mms.keep O z (fun g a=>⟨d g (B.mms.lt a),fun h=>h.elim id fun h=>absurd (B.mms.lt a) (by omega)⟩)⟩,⟨c.os,c.tape,c.output,c.size,fun g a _=>d g a,c.shape,fun _ h => .inl h,fun g a => ?_,z,fun b l e => ?_,fun g a => ?_, ?_⟩⟩
 ·rcases q b x l with ⟨n,f,r,R,U,rfl⟩ | ⟨n,f⟩
  ·rw [t b ⟨n,f⟩] at e;have u:=T.blk _ _ g o U e;have a0:=j _ _ _ e;have K:∀ (κ:cA) (cs:List AV) (F:Nat→Option Value),iA cs=iA r.2→bB P w' I' κ cs F→bB P w' (fun g=>I g∨(I' g∧w.heap.size≤g)) κ cs F:=fun κ cs F hn X=>by
    rcases y with y | y
    ·exact eN (⟨fun g a=>(y g a).imp id fun h=>⟨a,h⟩,fun _ _=>rfl,fun _ _ h=>h⟩:iL w' w' I' _) (fun _ _ h=>h) _ _ X
    ·exact aeh cs _ (hn.trans (y r (az8 R))) X
   rw [agC] at u;refine ⟨?_, ?_,fun _=>⟨fun A => ?_,(u.wr rfl).2⟩,(fun h=>by cases h),fun _=>u.all1 rfl,fun _=>u.nostr rfl⟩
   ·unfold dE;simp only;split
    ·exact u.one
    ·exact agA _ _ u.one
   ·obtain ⟨arr,fr,e1,M⟩:=u.cells;refine ⟨arr,fr,e1, ?_⟩;unfold dE;simp only at M ⊢;split
    ·rename_i E;rw [if_pos E] at M;exact K _ _ _ rfl M
    ·rename_i E;rw [if_neg E] at M;exact acX Y _ _ (K _ _ _ rfl M)
   ·rcases A with A | A
    ·have:=B.lt g A;omega
    ·exact (u.wr rfl).1 A.1
  ·rw [p b n] at e;have u:=B.blk b x g o f e;refine tY O z u (d g (i b x g o f e)) (fun S A => ?_);rcases A with A | A
   ·exact (u.wr S).1 A
   ·have:=i b x g o f e;omega
 ·rcases q J k1 l with ⟨n,f,r1,_,U,rfl⟩ | ⟨n,f⟩ <;> rcases q Q k2 e with ⟨L,N,r2,_,p3,rfl⟩ | ⟨L,N⟩
  ·rw [t J ⟨n,f⟩] at s;rw [t Q ⟨L,N⟩] at C;have:=T.inj _ _ _ _ _ _ _ U p3 s C rfl;omega
  ·rw [t J ⟨n,f⟩] at s;rw [p Q L] at C;have:=j _ _ _ s;have:=i _ _ _ _ N C;omega
  ·rw [p J n] at s;rw [t Q ⟨L,N⟩] at C;have:=j _ _ _ C;have:=i _ _ _ _ f s;omega
  ·rw [p J n] at s;rw [p Q L] at C;exact B.inj _ _ _ _ _ _ _ f N s C h5
 ·rcases a with a | a
  ·exact Nat.lt_of_lt_of_le (B.lt g a) c.size
  ·exact T.lt g a.1
 ·rcases a with a | a
  ·exact .inl a
  ·exact .inr (.inr a.2)
 ·unfold both at e;split at e
  ·rename_i H;rw [aaL];exact H
  ·exact absurd l e
 ·rcases a with ⟨b,x,o,l,e,s⟩ | a
  ·rcases q b x l with ⟨n,f,_⟩ | ⟨n,f⟩
   ·rw [t b ⟨n,f⟩] at s;exact .inr (j _ _ _ s)
   ·rw [p b n] at s;exact .inl (.inl ⟨b,x,o,f,e,s⟩)
  ·rw [aee] at a;exact .inl (.inr a)
 ·rw [aaL];omega
def oK (ρ:cA) (a:List (Nat×Nat)):cA:=fun j=>(a[j]?).bind fun i=>(ρ i.1).map fun x=>(x.1,x.2+i.2)
theorem ajH (ρ:cA) (a:List (Nat×Nat)) (x:List (Nat×Nat)):∀ b y,oK ρ a b=some y→oK ρ (a++x) b=some y:=by
 intro b y h;unfold oK at h ⊢;obtain ⟨i,hi,h⟩:=ayS h;rw [azg (ay8.1 hi).1,hi];exact h
def xX (P:Program) (w:World) (I:Nat→Prop) (ρ:cA) (m:aF) (a:List (Nat×Nat)) (rows:List (TypeId×List AV)):Prop :=
 rows.length=a.length∧(∀ (j:Nat) (i:Nat×Nat),a[j]? = some i→∃ k r,m.at_ i.1=some k∧k.wr=true∧rows[j]? = some r∧r.1=k.el∧bK P r.1=k.kind∧dY r.2 ∧
  ∀ g o,ρ i.1=some (g,o)→bB P w I (if k.kind = .flat then dA else oK ρ a) r.2 (fun j=>w.cell? ⟨g,o+i.2+j,none⟩))∧∀ (j b:Nat) (i c:Nat×Nat),a[j]? = some i→a[b]? = some c→i.1=c.1→j=b
theorem ajI {kd:gJ} {a x:List (Nat×Nat)} {cs:List AV} {b:Nat→Option Value} (h:bB P w I (if kd = .flat then dA else oK ρ a) cs b):bB P w I (if kd = .flat then dA else oK ρ (a++x)) cs b:=by
 split
 ·rename_i c;rw [if_pos c] at h;exact h
 ·rename_i c;rw [if_neg c] at h;exact eN (ad4 w I) (ajH ρ _ _) _ _ h
theorem xX.snoc {a:List (Nat×Nat)} {rows:List (TypeId×List AV)} (h:xX P w I ρ m a rows) {b l:Nat} {k:eZ} {cs:List AV} (K:m.at_ b=some k) (z:k.wr=true) (M:bK P k.el=k.kind) (x:dY cs)
 (F:∀ g o,ρ b=some (g,o)→bB P w I (if k.kind = .flat then dA else oK ρ a) cs (fun j=>w.cell? ⟨g,o+l+j,none⟩)) (L:(a.any fun i=>i.1 == b)=false):xX P w I ρ m (a++[(b,l)]) (rows++[(k.el,cs)]):=by
 obtain ⟨u,A,E⟩:=h;have n:∀ (j:Nat) (i:Nat×Nat),a[j]? = some i→i.1≠b:=fun j i c e=>by
  have:=List.any_eq_false.1 L i (az8 c);simp [e] at this
 have d:∀ (j:Nat) (i:Nat×Nat),(a++[(b,l)])[j]? = some i→(a[j]? = some i∧j < a.length)∨(j=a.length∧i=(b,l)):=fun j i c=>by
  rcases azX j a.length with p | p
  ·rw [azg p] at c;exact .inl ⟨c,p⟩
  ·rw [azh p] at c;have:=(ay8.1 c).1;simp at this;have e:j=a.length:=by omega
   subst e;simp at c;exact .inr ⟨rfl,c.symm⟩
 refine ⟨by simp [u],fun j i c => ?_,fun j t i q c f e => ?_⟩
 ·rcases d j i c with ⟨c,p⟩ | ⟨rfl,rfl⟩
  ·obtain ⟨k',r,C,J,H,B,v,D,y⟩:=A j i c;exact ⟨k',r,C,J,by rw [azg (by omega)];exact H,B,v,D,fun g o s=>ajI (y g o s)⟩
  ·exact ⟨k,(k.el,cs),K,z,by rw [←u];simp,rfl,M,x,fun g o s=>ajI (F g o s)⟩
 ·rcases d j i c with ⟨c,p⟩ | ⟨rfl,rfl⟩ <;> rcases d t q f with ⟨f,G⟩ | ⟨rfl,rfl⟩
  ·exact E j t i q c f e
  ·exact absurd e (n j i c)
  ·exact absurd e.symm (n t q f)
  ·rfl
theorem ajJ (H:SR P w I ρ m) {b a len c:Nat} {f:Bool} {x:eZ} {v:Value} {d:List (Nat×Nat)} {rows:List (TypeId×List AV)} {r:AV×List (Nat×Nat)×List (TypeId×List AV)} (E:m.at_ b=some x) (e:x.kind = .flat) (G:VR P w I ρ (.sl b a len c f) v) (D:xX P w I ρ m d rows)
 (h:(if x.wr=true then (if d.any (fun i=>i.1 == b)=true∨bK P x.el ≠ .flat then none else some (.sl rows.length 0 len c f,d++[(b,a)],rows++[(x.el,x.cells.drop a)])) else some (.tree len c (x.cells.drop a) f,d,rows))=some r) :
 xX P w I ρ m r.2.1 r.2.2∧(∃ x,r.2.1=d++x)∧VR P w I (oK ρ r.2.1) r.1 v∧(dL (.sl b a len c f)=dL r.1):=by
 simp only [VR] at G;obtain ⟨g,o,cap,ty,n,s,B,rfl,p,F,z,t,y⟩:=G;have l:=H.blk b x g o E B;split at h
 ·rename_i u;split at h
  ·cases h
  ·rename_i J;obtain ⟨C,A⟩:=not_or.1 J;have k:bK P x.el = .flat:=Decidable.not_not.1 A;simp only [ay0] at h;subst h;refine ⟨D.snoc E u (by rw [k,e]) (lH l.one _) (fun K L q => ?_) ((Bool.not_eq_true _).mp C),⟨_,rfl⟩, ?_,rfl⟩
   ·rw [B,ay0,azk] at q;obtain ⟨rfl,rfl⟩:=q;rw [if_pos e];exact iK (lS (l.flatAt e) a) fun j _=>by rw [ay3]
   ·simp only [VR];refine ⟨g,o+a,cap,ty,n,s, ?_,rfl,p,F,z,t,by omega⟩;unfold oK;rw [D.1,azh (aza _)];simp [B]
 ·rename_i u;simp only [ay0] at h;subst h;refine ⟨D,⟨[],by simp⟩, ?_,rfl⟩;simp only [VR];refine ⟨g,o+a,cap,rfl,l.im (by simpa using u),p,F,lH l.one _, ?_⟩;exact iK (lS (l.flatAt e) a) fun j _=>by rw [ay3]
mutual
theorem ajK (hS:SR P w I ρ m):∀ (d:Nat) (av:AV) (v:Value) (ids:List (Nat×Nat)) (rows:List (TypeId×List AV)) (r:AV×List (Nat×Nat)×List (TypeId×List AV)),canon P m d ids rows av=some r→VR P w I ρ av v→xX P w I ρ m ids rows →
 xX P w I ρ m r.2.1 r.2.2∧(∃ x,r.2.1=ids++x)∧VR P w I (oK ρ r.2.1) r.1 v∧(dL av=dL r.1)
 | d,.val x,v,ids,rows,r,h,hv,hE=>by
  unfold canon at h
  simp only [ay0] at h;subst h
  exact ⟨hE,⟨[],by simp⟩,by simpa only [VR] using hv,rfl⟩
 | d,.tree _ _ _ _,v,ids,rows,r,h,hv,hE=>by
  unfold canon at h
  simp only [ay0] at h;subst h
  exact ⟨hE,⟨[],by simp⟩,by simpa only [VR] using hv,rfl⟩
 | d,.tptr _ _,v,ids,rows,r,h,hv,hE=>by
  unfold canon at h
  simp only [ay0] at h;subst h
  exact ⟨hE,⟨[],by simp⟩,by simpa only [VR] using hv,rfl⟩
 | d,.emp _ _,v,ids,rows,r,h,hv,hE=>by
  unfold canon at h
  simp only [ay0] at h;subst h
  exact ⟨hE,⟨[],by simp⟩,by simpa only [VR] using hv,rfl⟩
 | d,.agg cs,v,ids,rows,r,h,hv,hE=>by
  unfold canon at h
  obtain ⟨s,hs,rfl⟩:=ayT h
  simp only [VR] at hv
  obtain ⟨vs,rfl,h2,h3,h4⟩:=hv
  obtain ⟨e1,e2,e3,e4,e5⟩:=aei hS d cs _ ids rows s hs h4 hE
  refine ⟨e1,e2, ?_,rfl⟩
  simp only [VR]
  exact ⟨vs,rfl,by rw [h2,e4],e5 h3,e3⟩
 | d,.tup cs,v,ids,rows,r,h,hv,hE=>by
  unfold canon at h
  obtain ⟨s,hs,rfl⟩:=ayT h
  simp only [VR] at hv
  obtain ⟨vs,rfl,h2,h4⟩:=hv
  obtain ⟨e1,e2,e3,e4,e5⟩:=aei hS d cs _ ids rows s hs h4 hE
  refine ⟨e1,e2, ?_,rfl⟩
  simp only [VR]
  exact ⟨vs,rfl,by rw [h2,e4],e3⟩
 | 0,.sl b off len c f,v,ids,rows,r,h,hv,hE=>by
  unfold canon at h
  obtain ⟨x,hx,h⟩:=ayS h
  split at h
  ·rename_i hkf
   exact ajJ hS hx hkf hv hE h
  ·cases h
 | d+1,.sl b off len c f,v,ids,rows,r,h,hv,hE=>by
  unfold canon at h
  obtain ⟨x,hx,h⟩:=ayS h
  split at h
  ·rename_i hkf
   exact ajJ hS hx hkf hv hE h
  ·rename_i hkv
   split at h
   case isFalse=>cases h
   rename_i hw
   obtain ⟨s,hs,h⟩:=ayS h
   split at h
   ·cases h
   ·rename_i hn
    simp only [ay0] at h;subst h
    simp only [VR] at hv
    obtain ⟨g,o,cap,ty,n,sz,hg,rfl,hlc,hf,hsh,hss,hroom⟩:=hv
    have hB:=hS.blk b x g o hx hg
    obtain ⟨e1,⟨y,e2⟩,e3,e4,e5⟩:=aei hS d _ _ ids rows s hs (lS hB.cellsAt off) hE
    refine ⟨e1.snoc hx hw.1 (by rw [hw.2,hkv]) (e5 (lH hB.one _)) (fun g' o' hg' => ?_) ((Bool.not_eq_true _).mp hn),⟨y++[(b,off)],by rw [e2,azW]⟩, ?_,rfl⟩
    ·rw [hg,ay0,azk] at hg'
     obtain ⟨rfl,rfl⟩:=hg'
     rw [if_neg (by rw [hkv];decide)]
     exact iK e3 fun j _=>by rw [ay3]
    ·simp only [VR]
     refine ⟨g,o+off,cap,ty,n,sz, ?_,rfl,hlc,hf,hsh,hss,by omega⟩
     unfold oK
     rw [e1.1,azh (aza _)]
     simp [hg]
  ·cases h
 | d,.ptr _ _,v,ids,rows,r,h,hv,hE=>by unfold canon at h;cases h
 | d,.clo f [],v,ids,rows,r,h,hv,hE=>by
  unfold canon at h
  simp only [ay0] at h;subst h
  exact ⟨hE,⟨[],by simp⟩,by simp only [VR,bB] at hv ⊢;exact hv,rfl⟩
 | d,.clo f (_::_),v,ids,rows,r,h,hv,hE=>by unfold canon at h;cases h
 termination_by d av=>(d,ayW av)
theorem aei (hS:SR P w I ρ m):∀ (d:Nat) (cs:List AV) (get:Nat→Option Value) (ids:List (Nat×Nat)) (rows:List (TypeId×List AV)) (r:List AV×List (Nat×Nat)×List (TypeId×List AV)),fN P m d ids rows cs=some r→bB P w I ρ cs get→xX P w I ρ m ids rows →
 xX P w I ρ m r.2.1 r.2.2∧(∃ x,r.2.1=ids++x)∧bB P w I (oK ρ r.2.1) r.1 get∧r.1.length=cs.length∧(dY cs→dY r.1)
 | d,[],get,ids,rows,r,h,hv,hE=>by
  unfold fN at h
  simp only [ay0] at h;subst h
  exact ⟨hE,⟨[],by simp⟩,by simp only [bB],rfl,fun h=>h⟩
 | d,c::cs,get,ids,rows,r,h,hv,hE=>by
  unfold fN at h
  obtain ⟨s,hs,h⟩:=ayS h
  obtain ⟨t,ht,rfl⟩:=ayT h
  simp only [bB] at hv
  obtain ⟨⟨v,h1,h2⟩,h3⟩:=hv
  obtain ⟨e1,⟨x,e2⟩,e3,e4⟩:=ajK hS d c v ids rows s hs h2 hE
  obtain ⟨f1,⟨y,f2⟩,f3,f4,f5⟩:=aei hS d cs _ s.2.1 s.2.2 t ht h3 e1
  refine ⟨f1,⟨x++y,by simp only;rw [f2,e2,azW]⟩, ?_,by simp [f4],fun h z hz => ?_⟩
  ·simp only [bB]
   refine ⟨⟨v,h1, ?_⟩,f3⟩
   refine rI (ad4 w I) ?_ _ _ e3
   rw [f2]
   exact ajH ρ _ _
  ·rcases az7.1 hz with rfl | hz
   ·rw [←e4];exact h c (by simp)
   ·exact f5 (fun a ha=>h a (by simp [ha])) z hz
 termination_by d cs=>(d,ayW cs)
end
theorem ajL {w0:World} {I0:Nat→Prop} (A:SR P w I ρ m) (a:cM w0 I0 dA aF.empty w I ρ m) {B:AV} {v:Value} (hv:VR P w I ρ B v) {r:fA} (h:jB P m B=some r) :
 ∃ ρ',VR P w I ρ' r.v v∧SR P w I ρ' (eB P aF.empty r.rows)∧cM w0 I0 dA aF.empty w I ρ' (eB P aF.empty r.rows):=by
 unfold jB at h;obtain ⟨s,hs,rfl⟩:=ayT h;obtain ⟨⟨e1,W,e3⟩,_,e4,_⟩:=ajK A 3 B v [] [] s hs hv ⟨rfl,fun j i h=>by simp at h,fun j j' i H h=>by simp at h⟩;have c:∀ b x,(eB P aF.empty s.2.2).at_ b=some x→∀ g o,oK ρ s.2.1 b=some (g,o)→∃ (i:Nat×Nat) (k:eZ) (r:TypeId×List AV) (f:Nat),s.2.1[b]? = some i∧m.at_ i.1=some k∧k.wr=true∧ρ i.1=some (g,f)∧o=f+i.2∧r.1=k.el∧bK P r.1=k.kind∧dY r.2 ∧
  bB P w I (if k.kind = .flat then dA else oK ρ s.2.1) r.2 (fun j=>w.cell? ⟨g,f+i.2+j,none⟩)∧x=⟨r.2,r.1,bK P r.1,true⟩:=by
  intro b x p g o d;unfold oK at d;obtain ⟨i,hi,d⟩:=ayS d;obtain ⟨y,F,t⟩:=ayT d;simp only [azk] at t;obtain ⟨rfl,rfl⟩:=t;obtain ⟨k,r,D,k3,Q,k5,T,k7,O⟩:=W b i hi;rw [abw] at p;split at p
  ·simp only [aF.empty,Nat.sub_zero,Q,az6,ay0] at p;rw [agC] at p;exact ⟨i,k,r,y.2,hi,D,k3,F,rfl,k5,T,k7,O _ _ F,p.symm⟩
  ·simp [aF.empty] at p
 refine ⟨oK ρ s.2.1,e4,⟨fun b x g o n e => ?_,fun G M D k2 g N o2 n e E h4 h5 => ?_,A.lt,by rw [aee];exact kG.none⟩,⟨a.os,a.tape,a.output,a.size,a.same,a.shape,a.imm,a.back,fun b x h=>by simp [dA] at h,fun b n e => ?_,fun g d => ?_,by simp [aF.empty]⟩⟩
 ·obtain ⟨i,k,r,f,C,q,l,u,rfl,L,S,u3,Y,rfl⟩:=c b x n g o e;have z:=A.blk i.1 k g f q u;obtain ⟨arr,R,J,f2⟩:=z.cells;refine ⟨u3,⟨arr,R,by simp only [L];exact J, ?_⟩,fun _=>z.wr l,(fun h=>by cases h),fun _=>z.all1 l,fun _ h=>z.nostr l (by simpa only [L] using h)⟩;simp only [S];refine iK Y fun j _ => ?_
  simp [World.cell?,J]
 ·obtain ⟨i,k,r,f,C,q,l,u,rfl,_,_,_,_,rfl⟩:=c G D n g N E;obtain ⟨H,k',r',Z,V,X,p4,U,rfl,_,_,_,_,rfl⟩:=c M k2 e g o2 h4;exact e3 G M i H C V (A.inj _ _ _ _ _ _ _ q X u U l)
 ·unfold oK at e;cases K:s.2.1[b]? with
  | none=>rw [K] at e;simp at e
  | some i =>
   have:=(ay8.1 K).1;rw [aaL];simp [aF.empty];omega
 ·rcases d with ⟨b,x,o,n,e,E⟩ | d
  ·obtain ⟨i,k,r,f,C,q,l,u,rfl,_⟩:=c b x n g o E;exact a.own g (.inl ⟨i.1,k,f,q,l,u⟩)
  ·rw [aee] at d;exact (zH d).elim
end
end Go.Tw