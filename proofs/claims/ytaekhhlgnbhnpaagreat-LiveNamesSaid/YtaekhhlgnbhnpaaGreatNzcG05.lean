import Derived.Test.YtaekhhlgnbhnpaaGreatNzcG04
import Derived.Laws.Append
set_option linter.unusedVariables false
set_option linter.unusedSimpArgs false
open Array renaming length_toList→azs,getElem?_eq_some_iff→azy,getElem?_modify→azF,replicate→azH,getElem?_append_left→azJ,mem_toList_iff→azK,mem_append→azL,append_assoc→azS
open Bool renaming false_eq_true→azx
open ForInStep renaming yield→azO
open Go renaming convert→azP
open Go.Addr renaming add_lit→ayZ
open Go.Builtin renaming firstCells→azz,lenOf→azB,append_→azQ,zeroCells→azR,copy_→az0,clear_→az1,len_→az2
open Go.Conv renaming bytesToString→azM
open Go.Instr renaming buildSlice→azr
open Go.IntKind renaming i64→azv
open Go.Question renaming appendCap→azG,forced→azI
open Go.Result renaming andThen_ok→azw
open Go.Sem renaming run_bind→azt,run_pure→azu
open Go.Value renaming int→azA
open Go.Value.slice renaming injEq→azZ
open List renaming getElem?_map→azl,mem_map→azm,getD_eq_getElem?_getD→azp,getElem?_eq_getElem→azj,getElem?_eq_some_iff→ay5,getElem?_take→azE,getElem?_eq_none→ay3,append_assoc→azT,getElem?_append_left→azd,getElem?_append_right→aze,size_toArray→azV,getElem?_toArray→azW,eq_nil_of_length_eq_zero→azY,mem_cons→az4,mem_of_getElem?→az5
open Nat renaming zero_add→azn,le_refl→ay7,eq_zero_or_pos→azo,mod_lt→azq,add_assoc→ay0,mul_le_mul_right→azC,le_trans→ayV,mul_one→azD,lt_or_ge→azU,add_mul→azX
open Option renaming map_eq_some_iff→ayY,map_some→az3
open Option.some renaming injEq→ayX
open Prod.mk renaming injEq→azh
open SizeOf renaming sizeOf→ayT
open UInt8 renaming ofNat→azN
namespace Go.Tw
open Go
section
variable {P:Program} {w:World} {I:Nat→Prop} {ρ:cB} {m:aF}
def iK {α:Type} (P:Program) (w:World) (I:Nat→Prop) (ρ:cB) (m:aF) (r:Result α) (val:α→Value) (out:bR) (addr:Value):Prop :=
 ∃ x w' a ρ',r = .ok x w'∧VR P w' a ρ' out.v (val x)∧SR P w' a ρ' out.m∧cL w I ρ m w' a ρ' out.m∧∀ d y,out.wb=some (d,y)→VR P w' a ρ' y addr
theorem ai5 {k:eR} {cs:List AV} {a:Nat→Option Value} (h:bC P w I cZ cs a):bC P w I (if k.kind = .flat then cZ else ρ) cs a:=by
 split
 ·exact h
 ·exact af5 h
theorem agd {w w1:World} {arr:Array Value} {ty:TypeId} (h:w1.heap=w.heap∧w1.os=w.os∧w1.tape=w.tape∧w1.output=w.output):o7 w (w1.alloc (.cells arr ty)) arr ty:=by
 obtain ⟨a,f,d,e⟩:=h;have:=o7.alloc w1 arr ty;exact ⟨this.os.trans f,this.tape.trans d,this.output.trans e,by rw [this.size,a],fun g b=>by rw [this.same g (by rw [a];exact b),a],by rw [←a];exact this.blk,fun j c=>by rw [←a];exact this.free j c⟩
theorem aaD {t:TypeId} {z:List Value} (h:gN P t=some z):∃ v,(zeroValue t).run P w = .ok v w∧v.cells.toList=z∧(∀ x∈z,tO x=true)∧(∃ i,P.info? t=some i∧i.zero=some v):=by
 unfold gN at h;obtain ⟨v,d,h⟩:=ayQ h;obtain ⟨i,hi,a⟩:=ayQ d;split at h
 ·rename_i b;simp only [ayX] at h;refine ⟨v,by simp [zeroValue,typeInfo,hi,a],h,fun x c => ?_,i,hi,a⟩;rw [h] at b;exact List.all_eq_true.1 b x c
 ·cases h
theorem adE {x:Value} (h:tO x=true):d5 (.val x)=true:=by cases x <;> simp_all [d5,tO]
theorem age {x:Value} (h:tO x=true):x.oneCell'=true:=by cases x <;> simp_all [tO,Value.oneCell']
theorem ai6 (z:List Value):bC P w I ρ (z.map .val) (fun j=>z[j]?):=j6.2 fun j c a=>by
 rw [azl] at a;obtain ⟨v,b,rfl⟩:=ayR a;exact ⟨v,b,by simp only [VR]⟩
theorem aqg (o:SR P w I ρ m) (e:ρ m.next=none) {once:Bool} {t:TypeId} {out:bR} (h:aM P once m t=some out) (g addr:Value):iK P w I ρ m ((Instr.alloc t true g).run P w) id out addr:=by
 unfold aM at h;obtain ⟨z,l,h⟩:=ayQ h;simp only [zak] at h;subst h;obtain ⟨v,q,j,i,_⟩:=aaD (w:=w) l;have n:=o7.alloc w v.cells t;obtain ⟨a,b⟩:=zG (k:=⟨z.map .val,t,if once then .hole else .var,true⟩) n o e rfl (fun c p=>by
  obtain ⟨x,f,rfl⟩:=azm.1 p;exact adE (i x f)) (ai5 (by
   have:=ai6 (P:=P) (w:=w) (I:=I) (ρ:=cZ) z;rw [←j] at this ⊢;simpa using this)) (fun x f=>age (i x (by rw [←j];exact f))) (fun _=>aaC _ _)
 refine ⟨.pointer (some ⟨w.heap.size,0,none⟩),_,_,_, ?_, ?_,a,b,fun d y h=>by cases h⟩
 ·simp [Instr.alloc,q,newVar,newRow]
 ·simp only [id,VR];exact ⟨_,_,tS _ _ _,rfl⟩
theorem aqh (q:SR P w I ρ m) {once:Bool} {t:TypeId} {x:AV} {out:bR} (h:aaw P once m t x=some out) (e:∀ b,m.next≤b→b < out.m.next→ρ b=none) {v:Value} (z:VR P w I ρ x v) (addr:Value) :
 iK P w I ρ m ((Instr.box t v).run P w) id out addr:=by
 unfold aaw at h;obtain ⟨n,F,h⟩:=ayQ h;split at h
 ·rename_i E;obtain ⟨A,g,f⟩:=af9 E.2 z;have c:(Instr.box t v).run P w = .ok (.pointer (some ⟨w.heap.size,0,none⟩)) (w.alloc (.cells v.cells t)):=by simp [Instr.box,newVar,newRow]
  split at h
  ·obtain ⟨r,D,h⟩:=ayQ h;simp only [zak] at h;subst h;obtain ⟨G,l,s,H,d1,d2,B⟩:=xO x.cells m r.2 I r.1 _ D q f;have p:=o7.alloc w v.cells t;obtain ⟨C,o⟩:=adD p l;refine ⟨_,_,_,_,c, ?_,C,s.trans o,fun d y h=>by cases h⟩;simp only [id,VR];refine ⟨w.heap.size,0,rfl,.inr rfl,B g, ?_⟩;obtain ⟨fr,i⟩:=p.blk;exact iH (eL (o.keeps l) (fun _ _ h=>h) _ _ d1) fun j _=>by rw [cell_of_row _ _ _ _ _ _ i,azn]
  ·simp only [zak] at h;subst h;have u:ρ m.next=none:=e m.next (ay7 _) (by simp [aF.push]);obtain ⟨a,b⟩:=zG (k:=⟨x.cells,t,.var,true⟩) (o7.alloc w v.cells t) q u rfl g (by simpa using f) (uU (P:=P) (w:=w) (I:=I) (ρ:=ρ) g (by simpa using A) (by simpa using f)) (fun _=>aaC _ _);refine ⟨_,_,_,_,c, ?_,a,b,fun d y h=>by cases h⟩;simp only [id,VR];exact ⟨_,_,tS _ _ _,rfl⟩
 ·cases h
theorem adF {el:TypeId} {n:Nat} {z:List AV} (h:jF P el n=some z):∃ sz,cE P el=some sz∧∃ arr:Array Value,
 (∀ w,(do let zero ←(if n*sz=0 then pure #[] else do pure (←zeroValue el).cells:Sem (Array Value));pure ((Array.range (n*sz)).map (zero[· % zero.size]!)):Sem (Array Value)).run P w = .ok arr w)∧arr.size=n*sz∧z.length=n*sz∧eF z∧∀ w I ρ,bC P w I ρ z (fun j=>arr[j]?):=by
 unfold jF at h;obtain ⟨sz,l,h⟩:=ayQ h;refine ⟨sz,l, ?_⟩;split at h
 ·rename_i b;simp only [ayX] at h;subst h;exact ⟨#[],fun w=>by simp [b],by simp [b],by simp [b],fun c o=>by simp at o,fun _ _ _=>by simp only [bC]⟩
 ·rename_i b;obtain ⟨F,s,h⟩:=ayQ h;split at h
  ·rename_i r;simp only [ayX] at h;subst h;obtain ⟨v,G,u,A,x⟩:=aaD (w:=default) s;have k:∀ w,(zeroValue el).run P w = .ok v w:=fun w=>by
    obtain ⟨C,y,_,_,i,D,B⟩:=aaD (P:=P) (w:=w) s;have e:C=v:=by
     obtain ⟨E,g,p⟩:=x;rw [D] at g;simp only [ayX] at g;subst g;rw [B] at p;exact Option.some.inj p
    rw [←e];exact y
   have f:v.cells.size=sz:=by rw [←r,←u];simp
   refine ⟨(Array.range (n*sz)).map (v.cells[· % v.cells.size]!),fun w=>by simp [b,k w],by simp,by simp,fun c o => ?_,fun w I ρ=>j6.2 fun j c q => ?_⟩
   ·obtain ⟨i,hi,rfl⟩:=azm.1 o;have a:0 < sz:=by
     rcases azo sz with e | e
     ·subst e;simp at b
     ·exact e
    refine adE (A _ ?_);rw [azp,azj (by rw [r];exact azq _ a)];exact List.getElem_mem _
   ·rw [azl] at q;obtain ⟨i,hi,rfl⟩:=ayR q;have d:j < n*sz:=by have:=(ay5.1 hi).1;simpa using this
    have m:i=j:=by simp [d] at hi;exact hi.symm
    subst m;have a:0 < sz:=by
     rcases azo sz with e | e
     ·subst e;simp at b
     ·exact e
    refine ⟨v.cells[i % v.cells.size]!,by simp [d], ?_⟩;simp only [VR];have t:i % sz < v.cells.size:=by rw [f];exact azq _ a
    rw [f,getElem!_pos v.cells _ t,azp,←u];simp [t]
  ·cases h
theorem aqi (K:SR P w I ρ m) {t:TypeId} {len:Nat} {parts:List (Nat×AV)} {out:bR} (h:p6 P m t len parts=some out) (o:∀ b,m.next≤b→b < out.m.next→ρ b=none)
 {c:List (Nat×Value)} (hl:c.length=parts.length) (X:∀ (j i:Nat) (S:AV) (U:Nat) (v:Value),parts[j]? = some (i,S)→c[j]? = some (U,v)→i=U∧VR P w I ρ S v) (addr:Value) :
 iK P w I ρ m ((azr t len c.toArray).run P w) id out addr:=by
 unfold p6 at h;obtain ⟨el,q,h⟩:=ayQ h;obtain ⟨n,B,h⟩:=ayQ h;obtain ⟨z,hz,h⟩:=ayQ h;split at h
 ·rename_i a0;obtain ⟨cs,J,h⟩:=ayQ h;obtain ⟨sz,A,arr,Y,q2,T,q4,q5⟩:=adF hz;rw [B,ayX] at A;subst A;obtain ⟨g,V,Q,Z,E,C⟩:=aaB (P:=P) (w:=w) (I:=I) (ρ:=ρ) (place:=fun i=>some (i*n,n)) (placeE:=fun i=>some (i*n,n)) (fun _ _ h=>h) parts c z cs arr J hl X (by rw [q2,T]) q4 (q5 w I ρ);obtain ⟨l,f,kd,s,rfl,G,F,M,d1,L⟩:∃ (l:aF) (f:List AV) (kd:fZ) (s:Nat→Prop),out=⟨.sl l.next 0 len len true,l.push ⟨f,el,kd,true⟩,none⟩∧SR P w s ρ l∧cL w I ρ m w s ρ l∧l.next=m.next∧bC P w s (if kd = .flat then cZ else ρ) f (fun j=>g[j]?)∧eF f:=by
   cases N:bP P el with
   | flat =>
    rw [N] at h;obtain ⟨r,hr,h⟩:=ayQ h;simp only [zak] at h;subst h;obtain ⟨s,G,F,M,d1,d2,L⟩:=xO cs m r.2 I r.1 _ hr K C;exact ⟨_,_,_,_,rfl,G,F,M,by simpa using d1,L E⟩
   | var =>
    rw [N] at h;simp only [zak] at h;subst h;exact ⟨_,_,_,_,rfl,K,cL.refl _ _ _ _,rfl,by simpa using C,E⟩
   | hole =>
    rw [N] at h;simp only [zak] at h;subst h;exact ⟨_,_,_,_,rfl,K,cL.refl _ _ _ _,rfl,by simpa using C,E⟩
  have R:=o7.alloc w g el;have W:ρ l.next=none:=o _ (by rw [M];exact ay7 _) (by simp [aF.push]);obtain ⟨a,b⟩:=zG (k:=⟨f,el,kd,true⟩) R G W rfl L d1 (uU (P:=P) (w:=w) (I:=I) (ρ:=ρ) E (by rw [azs,Q]) (by simpa using C)) (fun _=>aaC _ _);refine ⟨.slice (some ⟨w.heap.size,0,none⟩) len len,_,_,_, ?_, ?_,a,F.trans b,fun d y h=>by cases h⟩
  ·have e:=Y w;simp only [azt,Sem.run_ite,azu] at e;by_cases D:len*n=0
   ·simp [D] at e;simp [azr,cW (iJ q),iC B,D,V,e,newRow]
   ·simp only [D,if_false] at e;have u:¬ (16777216 < len*n):=by omega
    cases p:(zeroValue el).run P w with
    | halt x y=>rw [p] at e;simp at e
    | ok x y =>
     rw [p] at e;simp at e;obtain ⟨q6,q7⟩:=e;subst q7;simp [azr,cW (iJ q),iC B,D,u,p,q6,V,newRow]
  ·simp only [id,VR];obtain ⟨fr,O⟩:=R.blk;have H:=l8 O;refine ⟨_,_,len,el,_,n,tS _ _ _,rfl,⟨ay7 _,ay7 _⟩,fun _=>rfl,H,B, ?_⟩;rw [Q,Z,T];omega
 ·cases h
theorem aqj (K:SR P w I ρ m) {t:TypeId} {n k:Nat} {out:bR} (h:rZ P m t n k=some out) (f:ρ m.next=none) (J O:IntKind) (addr:Value) :
 iK P w I ρ m ((Instr.makeSlice t (.int J n) (.int O k)).run P w) id out addr:=by
 unfold rZ at h;obtain ⟨el,r,h⟩:=ayQ h;obtain ⟨sz,g,h⟩:=ayQ h;obtain ⟨y,G,h⟩:=ayQ h;obtain ⟨z,N,h⟩:=ayQ h;split at h
 ·rename_i R;obtain ⟨L,U,T⟩:=R;simp only [zak] at h;subst h;obtain ⟨i,hi,rfl⟩:=af2 G;obtain ⟨H,e,arr,F,D,M,E,C⟩:=adF N;rw [g,ayX] at e;subst e;have B:=o7.alloc w arr el;obtain ⟨a,b⟩:=zG (k:=⟨z.take (n*sz),el,bP P el,true⟩) B K f rfl (tQ E _) (ai5 (adz (C w I cZ) _)) (uU (P:=P) (w:=w) (I:=I) (ρ:=ρ) E (by rw [azs,D,M]) (by simpa using C w I ρ)) (fun _=>aaC _ _);have A:azv.wrap (n:Int)=n:=by rw [IntKind.wrap_i64];omega
  have s:azv.wrap (k:Int)=k:=by rw [IntKind.wrap_i64];omega
  have V:((i.bytes:Int)*(k:Int))≤281474976710656:=by
   have:((k*i.bytes:Nat):Int)≤281474976710656:=by omega
   rw [Int.natCast_mul,Int.mul_comm] at this;exact this
  refine ⟨.slice (some ⟨w.heap.size,0,none⟩) n k,_,_,_, ?_, ?_,a,b,fun d y h=>by cases h⟩
  ·have c:=F w;have p:¬ ((k:Int) < 0):=by omega
   have j:¬ ((n:Int) < 0):=by omega
   have l:¬ ((k:Int) < (n:Int)):=by omega
   have o:¬ ((281474976710656:Int) < (i.bytes:Int)*(k:Int)):=by omega
   unfold Instr.makeSlice;simp only [azt,cW (iJ r),azw,asInt,asIntOf,azu,typeInfo,run_program,hi,A,s,run_askRoom,Int.toNat_natCast,iC g,Sem.run_ite];simp only [p,j,l,decide_false,Bool.false_or,gt_iff_lt,Bool.or_self,Int.reducePow,o,if_false,azx];simp only [azt,Sem.run_ite,azu] at c;by_cases u:k*sz=0
   ·simp [u] at c;simp [u,newRow,c]
   ·simp only [u,if_false] at c ⊢;cases q:(zeroValue el).run P w with
    | halt x y=>rw [q] at c;simp at c
    | ok x y =>
     rw [q] at c;simp at c;obtain ⟨S,Q⟩:=c;subst Q;simp [S,newRow]
  ·simp only [id,VR];obtain ⟨fr,v⟩:=B.blk;refine ⟨_,_,k,el,_,sz,tS _ _ _,rfl,⟨L,ay7 _⟩,fun _=>rfl,l8 v,g, ?_⟩;rw [D];omega
 ·cases h
end
section
variable {P:Program} {w:World} {I:Nat→Prop} {ρ:cB} {m:aF}
theorem aqk (v:Value):v.cells.toList.length=v.cells.size:=by simp
theorem aql {t:TypeId} {n:Nat} (b:cE P t=some n) {a:Addr} {v:Value} (hs:v.cells.size=n) {r:Result Unit} (h:(storeCells a v.cells.toList).run P w=r):(storeVar t a v).run P w=r:=by
 simp [storeVar,iC b,hs,h]
theorem acg {k:eR} {g o:Nat} (h:BR P w I ρ k g o) (b:k.wr=true) {arr:Array Value} {ty:TypeId} {fr:Nat×Nat} (c:w.heap[g]? = some (.cells arr ty fr)):∀ j,w.frozen? ⟨g,j,none⟩=true→arr.size≤j :=
 fun j a=>(h.wr b).2 j a arr.size ty (l8 c)
theorem ach {cs e:List AV} {a o p:Nat} (r:p=o+a) (g:a+e.length≤cs.length) {arr b:Array Value} {vs:List Value} (t:vs.length=e.length)
 (h:bC P w I ρ cs (fun j=>arr[o+j]?)) (m:bC P w I ρ e (fun j=>vs[j]?)) (n:∀ i,b[i]? = if p≤i∧i < p+vs.length∧i < arr.size then vs[i - p]? else arr[i]?):bC P w I ρ (cP cs a e) (fun j=>b[o+j]?):=by
 subst r;refine j6.2 fun j c d => ?_
 rw [aga _ _ _ g] at d;simp only [n];split at d
 ·rename_i q;have f:j < cs.length:=by omega
  obtain ⟨u,l⟩:=aay h f;have k:o+j < arr.size:=(azy.1 l).1;rw [if_pos (by omega)];obtain ⟨v,s,x⟩:=gQ m d;exact ⟨v,by rw [show o+j - (o+a)=j - a by omega];exact s,x⟩
 ·rename_i q;rw [if_neg (by omega)];exact gQ h d
theorem xP (x:Option eR):(match x with
 | some k=>∃ wr,x=some ⟨k.cells,k.el,k.kind,wr⟩∧(wr=true→k.wr=true)
 | none=>x=none):=by
 cases x with
 | none=>rfl
 | some k=>exact ⟨k.wr,rfl,fun h=>h⟩
mutual
theorem aqm : ∀ (av : AV) (m m' : aF) (av' : AV), fz m av = some (av', m') → ∀ b, match m.at_ b with
   | some k => ∃ wr, m'.at_ b = some ⟨k.cells, k.el, k.kind, wr⟩ ∧ (wr = true → k.wr = true)
   | none => m'.at_ b = none
 | .val x, m, m', av', h, b => by
   simp only [fz, ayX, azh] at h; obtain ⟨rfl, rfl⟩ := h; exact xP _
 | .tree n c cs f, m, m', av', h, b => by
   simp only [fz, ayX, azh] at h; obtain ⟨rfl, rfl⟩ := h; exact xP _
 | .tptr o cs, m, m', av', h, b => by
   simp only [fz, ayX, azh] at h; obtain ⟨rfl, rfl⟩ := h; exact xP _
 | .emp c f, m, m', av', h, b => by
   simp only [fz, ayX, azh] at h; obtain ⟨rfl, rfl⟩ := h; exact xP _
 | .agg cs, m, m', av', h, b => by
   simp only [fz] at h
   obtain ⟨r, hr, h⟩ := ayR h
   simp only [azh] at h
   obtain ⟨rfl, rfl⟩ := h
   exact adG cs m r.2 r.1 hr b
 | .sl c off len cc full, m, m', av', h, b => by
   simp only [fz] at h
   split at h
   · rename_i cells el wr hb
     simp only [ayX, azh] at h
     obtain ⟨rfl, rfl⟩ := h
     by_cases e : b = c
     · subst e; rw [hb]; exact ⟨false, by simp [aF.put], fun h => by cases h⟩
     · have : (m.put c (some ⟨cells, el, .flat, false⟩)).at_ b = m.at_ b := by simp [aF.put, e]
       rw [this]
       exact xP _
   · rename_i cells el wr hb
     split at h
     · cases h
     simp only [ayX, azh] at h
     obtain ⟨rfl, rfl⟩ := h
     by_cases e : b = c
     · subst e; rw [hb]; exact ⟨false, by simp [aF.put], fun h => by cases h⟩
     · have : (m.put c (some ⟨cells, el, .var, false⟩)).at_ b = m.at_ b := by simp [aF.put, e]
       rw [this]
       exact xP _
   · cases h
 | .ptr _ _, m, m', av', h, b => by simp [fz] at h
 | .tup _, m, m', av', h, b => by simp [fz] at h
 | .clo f [], m, m', av', h, b => by
   simp only [fz, ayX, azh] at h; obtain ⟨rfl, rfl⟩ := h; exact xP _
 | .clo f (c :: cs), m, m', av', h, b => by simp [fz] at h
theorem adG : ∀ (cs : List AV) (m m' : aF) (cs' : List AV), fzs m cs = some (cs', m') → ∀ b, match m.at_ b with
   | some k => ∃ wr, m'.at_ b = some ⟨k.cells, k.el, k.kind, wr⟩ ∧ (wr = true → k.wr = true)
   | none => m'.at_ b = none
 | [], m, m', cs', h, b => by
   simp only [fzs, ayX, azh] at h; obtain ⟨rfl, rfl⟩ := h; exact xP _
 | c :: cs, m, m', cs', h, b => by
   simp only [fzs] at h
   obtain ⟨r, hr, h⟩ := ayQ h
   obtain ⟨s, hs, h⟩ := ayR h
   simp only [azh] at h
   obtain ⟨rfl, rfl⟩ := h
   have h1 := aqm c m r.2 r.1 hr b
   have h2 := adG cs r.2 s.2 s.1 hs b
   cases hq : m.at_ b with
   | none => rw [hq] at h1; simp only at h1; rw [h1] at h2; exact h2
   | some k =>
     rw [hq] at h1
     simp only at h1
     obtain ⟨wr, h3, h4⟩ := h1
     rw [h3] at h2
     simp only at h2
     obtain ⟨wr', h5, h6⟩ := h2
     exact ⟨wr', h5, fun h => h4 (h6 h)⟩
end
theorem aqn (Q : SR P w I ρ m) {t : TypeId} {W : Option Nat} {x a : AV} {out : bR} (h : aJ P m t W x a = some out) {v va : Value} (hv : VR P w I ρ x v) (ha : VR P w I ρ a va) :
   iK P w I ρ m ((Instr.storeAt t va v).run P w) (fun _ => undef) out va := by
 unfold aJ at h;split at h
 · rename_i b c
   obtain ⟨n, hn, h⟩ := ayQ h;obtain ⟨k, R, h⟩ := ayQ h;split at h
   · rename_i hc
     obtain ⟨c1, c2, M, c4, c0⟩ := hc;simp only [VR] at ha;obtain ⟨g, o, N, rfl⟩ := ha;have Z := Q.blk b k g o R N;obtain ⟨arr, fr, D, q⟩ := Z.cells;obtain ⟨g1, g2, g3⟩ := af9 c4 hv;have T : v.cells.toList.length = x.cells.length := by rw [aqk, g1]
     have a6 : o + c + v.cells.toList.length ≤ arr.size := by
       obtain ⟨u, hu⟩ := aay q (j := c + n - 1) (by omega);have := (azy.1 hu).1;omega
     have B := uU (P := P) (w := w) (I := I) (ρ := ρ) g2 T (by simpa using g3);have A : (Instr.storeAt t (.pointer (some ⟨g, o + c, none⟩)) v).run P w = .ok () (w.setCells g (o + c) v.cells.toList) := by
       have := acf (P := P) (w := w) D (acg Z M D) a6 B;simp [Instr.storeAt, Instr.sureAddr, aql hn (by rw [g1, c1]) this]
     split at h
     · -- a hole: written once, immutable from now on
       rename_i f;obtain ⟨d, hd, h⟩ := ayQ h;split at h
       · rename_i b0
         obtain ⟨c5, c6⟩ := b0;obtain ⟨r, V, h⟩ := ayQ h;simp only [ayX] at h;subst h;obtain ⟨e1, e2⟩ := ai2 Q b;obtain ⟨I1, F, b1, f1, d1, d2, d3⟩ := xO x.cells (m.put b none) r.2 I r.1 _ V e1 g3;have H := e2.trans b1;have a5 : ¬ I g := (Z.wr M).1;have J : ∀ l k' G C, r.2.at_ l = some k' → ρ l = some (G, C) → G ≠ g := by
           rintro l k' G C E U rfl;have := adG x.cells (m.put b none) r.2 r.1 V l;by_cases e : l = b
           · have X : (m.put b none).at_ l = none := by simp [aF.put, e]
             rw [X] at this;rw [this] at E;cases E
           · have X : (m.put b none).at_ l = m.at_ l := by simp [aF.put, e]
             rw [X] at this;cases hq : m.at_ l with
             | none => rw [hq] at this; rw [this] at E; cases E
             | some k2 => exact e (Q.inj b l k k2 _ o C R hq N U M).symm
         have Y : ¬ I1 g := by
           intro O;rcases b1.back g O with z | (⟨l, k', C, z, h2, h3⟩ | z) | z
           · exact a5 z
           · by_cases e : l = b
             · simp [aF.put, e] at z
             · have X : (m.put b none).at_ l = m.at_ l := by simp [aF.put, e]
               rw [X] at z;exact e (Q.inj b l k k' _ o C R z N h3 M).symm
           · exact (Q.mms.not_cells z D).elim
           · have := vU D; omega
         obtain ⟨K, z, h2, h3⟩ := agb g v.cells.toList (o + c) w arr k.el fr D;obtain ⟨r1, r2, r3, r4⟩ := agc g v.cells.toList (o + c) w;have a4 : ∀ x y, w.shape? x = some y → (w.setCells g (o + c) v.cells.toList).shape? x = some y := by
           intro x y hx;by_cases e : x = g
           · subst e
             rw [l8 z, h2, ← l8 D]; exact hx
           · rw [tR (tT g _ _ w x e)]; exact hx
         have S : iI w (w.setCells g (o + c) v.cells.toList) I1 (fun y => I1 y ∨ y = g) := ⟨fun _ h => .inl h, fun y i => tT g _ _ w y (fun e => Y (e ▸ i)), a4⟩
         refine ⟨(), _, (fun y => I1 y ∨ y = g), ρ, A, by simp only [eN, undef, VR], ⟨fun l k' G C E U => ?_, F.inj, fun y i => ?_, F.mms.keep S (fun _ _ h => h) (fun y i => ⟨tT g _ _ w y (fun e => by subst e; exact (F.mms.not_cells i D).elim), fun h => h.elim id fun h => by subst h; exact (F.mms.not_cells i D).elim⟩)⟩, ⟨r1, r2, r3, by rw [r4]; exact ay7 _, fun y i hn => tT g _ _ w y (fun e => hn (.inl ⟨b, k, o, R, M, by rw [e]; exact N⟩)), a4, fun y i => .inl (H.imm y i), fun y i => ?_, fun _ _ h => h, fun b z h2 => absurd z h2, fun y i => H.own y i, H.next⟩, fun d' y i => ?_⟩
         · refine sC S (fun _ _ h => h) (F.blk l k' G C E U) (tT g _ _ w G (J l k' G C E U)) (fun a7 O => ?_)
           rcases O with O | O
           · exact ((F.blk l k' G C E U).wr a7).1 O
           · exact J l k' G C E U O
         · rw [r4]
           rcases i with i | rfl
           · exact F.lt y i
           · exact vU D
         · rcases i with i | rfl
           · exact H.back y i
           · exact .inr (.inl (.inl ⟨b, k, o, R, M, N⟩))
         · simp only [ayX, azh] at i
           obtain ⟨rfl, rfl⟩ := i;simp only [VR];refine ⟨g, o + c, rfl, .inr rfl, d3 g2, ?_⟩;refine iH (eL S (fun _ _ h => h) _ _ d1) fun j hj => ?_
           rw [cell_of_row _ _ _ _ _ _ z, h3, if_pos (by omega)];simp
       · cases h
     · rename_i f
       simp only [zak] at h;subst h;rw [f] at q;obtain ⟨s1, s2⟩ := zK (k' := ⟨cP k.cells c x.cells, k.el, .var, true⟩) Q R M N (vs := v.cells.toList) (p := o + c) ⟨rfl, rfl, aaz Z.one g2 _⟩ B (fun a0 a9 e0 s K e1 e2 => by
         rw [f] at s;simp only [reduceCtorEq, if_false] at s ⊢;exact ach rfl (by omega) T s (by simpa using g3) e2)
       exact ⟨(), _, _, _, A, by simp only [eN, undef, VR], s1, s2, fun d y h => by cases h⟩
     · rename_i f
       obtain ⟨r, V, h⟩ := ayQ h;obtain ⟨k1, a3, h⟩ := ayQ h;split at h
       · rename_i a2
         simp only [zak] at h;subst h;obtain ⟨I1, F, b1, e1, d1, d2, d3⟩ := xO x.cells m r.2 I r.1 _ V Q g3;have L := adG x.cells m r.2 r.1 V b;rw [R] at L;obtain ⟨wr, h5, h6⟩ := L;rw [a3, ayX] at h5;subst h5;simp only at a2;obtain ⟨s1, s2⟩ := zK (k' := ⟨cP k.cells c r.1, k.el, .flat, true⟩) F a3 a2 N (vs := v.cells.toList) (p := o + c) ⟨rfl, rfl, aaz Z.one (d3 g2) _⟩ B (fun a0 a9 e0 s K e1 e2 => by
           simp only [f, if_true] at s ⊢;exact ach rfl (by rw [d2]; omega) (by rw [d2]; exact T) s (by simpa using d1) e2)
         exact ⟨(), _, _, _, A, by simp only [eN, undef, VR], s1, b1.trans s2, fun d y h => by cases h⟩
       · cases h
   · cases h
 · cases h
end
section
variable {P:Program} {w:World} {I:Nat→Prop} {ρ:cB} {m:aF}
def kR (k:fZ) (ρ:cB):cB:=if k = .flat then cZ else ρ
theorem aqo {κ:cB} {cs:List AV} {a:Nat→Option Value} (h:bC P w I cZ cs a):bC P w I κ cs a :=
 eL (⟨fun _ h=>h,fun _ _=>rfl,fun _ _ h=>h⟩:iI w w I I) (fun b x h=>by cases h) _ _ h
def aci (P:Program) (w:World) (I:Nat→Prop) (κ:cB) (a:Option Addr) (cs:List AV):Prop :=
 match a with
 | some b=>(cs≠[]→b.spot=none)∧bC P w I κ cs (fun j=>w.cell? ⟨b.block,b.off+j,none⟩)
 | none=>cs=[]
theorem acj (E:SR P w I ρ m) {x:AV} {cs:List AV} {n:Nat} {f:Bool} {kd:fZ} (h:eE kd m x=some (cs,n,f)) {v:Value} (i:VR P w I ρ x v) :
 ∃ a cap,v = .slice a n cap∧n≤cap∧(f=true→cap=n)∧aci P w I (kR kd ρ) a cs∧eF cs∧(a=none→cs=[]∧n=0∧cap=0):=by
 cases x with
 | val x =>
  simp only [VR] at i;subst i;unfold eE at h;split at h
  ·rename_i d;simp only [AV.val.injEq] at d;subst d;simp only [ayX,azh] at h;obtain ⟨rfl,rfl,rfl⟩:=h;exact ⟨none,0,rfl,ay7 _,fun _=>rfl,rfl,fun c r=>by simp at r,fun _=>⟨rfl,rfl,rfl⟩⟩
  ·rename_i d;cases d
  ·rename_i d;cases d
  ·rename_i d;cases d
  ·cases h
 | tree l c cells u =>
  simp only [eE,ayX,azh] at h;obtain ⟨rfl,rfl,rfl⟩:=h;simp only [VR] at i;obtain ⟨g,o,cap,rfl,K,⟨G,y⟩,k,A,z⟩:=i;refine ⟨some ⟨g,o,none⟩,cap,rfl,by omega,fun e => ?_,⟨fun _=>rfl,aqo z⟩,A,fun h=>by cases h⟩;simp at e;rw [k e.1,e.2]
 | emp c u =>
  simp only [eE,ayX,azh] at h;obtain ⟨rfl,rfl,rfl⟩:=h;simp only [VR] at i;obtain ⟨F,cap,rfl,y,k⟩:=i;refine ⟨some F,cap,rfl,by omega,fun e => ?_,⟨fun h=>absurd rfl h,by simp only [bC]⟩,fun c r=>by simp at r,fun h=>by cases h⟩;simp at e;rw [k e.1,e.2]
 | sl b p l c u =>
  simp only [eE] at h;split at h
  ·rename_i x J;split at h
   case isFalse=>cases h
   rename_i q;simp only [ayX,azh] at h;obtain ⟨rfl,rfl,rfl⟩:=h;simp only [VR] at i;obtain ⟨g,o,cap,ty,L,s,H,rfl,⟨G,y⟩,k,_⟩:=i;have t:=E.blk b _ g o J H;refine ⟨some ⟨g,o+p,none⟩,cap,rfl,by omega,fun e => ?_,⟨fun _=>rfl, ?_⟩,lC t.one _,fun h=>by cases h⟩
   ·simp at e;rw [k e.1,e.2]
   ·obtain ⟨arr,fr,C,D⟩:=t.cells;have B:bC P w I (kR kd ρ) x.cells (fun j=>arr[o+j]?):=by unfold kR;rw [←q];exact D
    refine iH (lQ B p) fun j _ => ?_
    simp [World.cell?,C,ay0]
  ·cases h
 | agg _=>simp [eE] at h
 | tup _=>simp [eE] at h
 | tptr _ _=>simp [eE] at h
 | ptr _ _=>simp [eE] at h
 | clo _ _=>simp [eE] at h
theorem adH {κ:cB} {a:Option Addr} {cs:List AV} (h:aci P w I κ a cs) {sz n:Nat} (p:n*sz≤cs.length) {len cap:Nat} (o:a=none→n=0) :
 ∃ b:List Value,b.length=n*sz∧(azz sz n (.slice a len cap)).run P w = .ok b.toArray w∧bC P w I κ (cs.take (n*sz)) (fun j=>b[j]?):=by
 cases a with
 | none =>
  simp only [aci] at h;subst h;have:n=0:=o rfl;subst this;exact ⟨[],by simp,by simp [azz],by simp [bC]⟩
 | some c =>
  obtain ⟨g,h⟩:=h;obtain ⟨vs,l,f,r⟩:=aiV (adz h (n*sz));have d:vs.length=n*sz:=by rw [l,List.length_take];omega
  have m:=run_loadCells_list (P:=P) (w:=w) c vs (fun j v k=>by
   have:=f j v k;have e:c.add j=⟨c.block,c.off+j,none⟩:=by
    have i:cs≠[]:=fun e=>by
     subst e;simp at l;subst l;simp at k
    obtain ⟨x,y,z⟩:=c;have g:=g i;simp only at g;subst g;exact ayZ x y j
   rw [e];exact this)
  rw [d] at m;exact ⟨vs,d,by simp [azz,m],r⟩
theorem agf (b:ByteArray):bC P w I ρ (fT b) (fun j=>(b.data.toList.map fun x=>azA .u8 x.toNat)[j]?):=j6.2 fun j c a=>by
 unfold fT at a;rw [azl] at a;obtain ⟨x,d,rfl⟩:=ayR a;exact ⟨.int .u8 x.toNat,by rw [azl,d];rfl,by simp only [bA,VR]⟩
theorem agh (b:ByteArray):eF (fT b):=fun c a=>by
 obtain ⟨x,_,rfl⟩:=azm.1 a;rfl
theorem agi (b:ByteArray):(fT b).length=b.size:=by simp [fT]
theorem agj (C:SR P w I ρ m) {el:TypeId} {sz:Nat} {x:AV} {new:List AV} {n:Nat} (h:f9 P el sz m x=some (new,n)) {v:Value} (s:VR P w I ρ x v) :
 (azB v).run P w = .ok n w∧new.length=n*sz∧eF new∧∀ g,g≤n→∃ d:List Value,d.length=g*sz∧(azz sz g v).run P w = .ok d.toArray w∧bC P w I (kR (bP P el) ρ) (new.take (g*sz)) (fun j=>d[j]?):=by
 have key:∀ r,eE (bP P el) m x=some r→(if r.2.1*sz≤r.1.length then some (r.1.take (r.2.1*sz),r.2.1) else none)=some (new,n) →
  (azB v).run P w = .ok n w∧new.length=n*sz∧eF new∧∀ g,g≤n→∃ d:List Value,d.length=g*sz∧(azz sz g v).run P w = .ok d.toArray w∧bC P w I (kR (bP P el) ρ) (new.take (g*sz)) (fun j=>d[j]?):=by
  rintro ⟨cs,l,f⟩ t h;split at h
  ·rename_i k;simp only [ayX,azh] at h;obtain ⟨rfl,rfl⟩:=h;obtain ⟨a,cap,rfl,_,_,z,y,B⟩:=acj C t s;refine ⟨by simp [azB],by rw [List.length_take];exact Nat.min_eq_left k,tQ y _,fun g o => ?_⟩;have i:g*sz≤l*sz:=azC _ o;obtain ⟨d,A,E,D⟩:=adH (P:=P) (n:=g) (len:=l) (cap:=cap) z (ayV i k) (fun e=>by have:=(B e).2.1;omega);refine ⟨d,A,E, ?_⟩;rw [List.take_take,Nat.min_eq_left i];exact D
  ·cases h
 unfold f9 at h;split at h
 ·rename_i b;split at h
  ·rename_i G;obtain ⟨J,rfl⟩:=G;simp only [ayX,azh] at h;obtain ⟨rfl,rfl⟩:=h;simp only [VR] at s;subst s;refine ⟨by simp [azB],by rw [agi,azD],agh b,fun g o=>⟨(b.data.toList.map fun x=>azA .u8 x.toNat).take g, ?_, ?_, ?_⟩⟩
   ·simp;omega
   ·simp only [azz,azu];congr 1;apply Array.ext';simp [ByteArray.data_extract]
   ·rw [azD];refine j6.2 fun j c p => ?_
    rw [azE] at p;split at p
    ·rename_i q;obtain ⟨u,F,H⟩:=gQ (agf (P:=P) (w:=w) (I:=I) (ρ:=kR (bP P el) ρ) b) p;exact ⟨u,by rw [azE,if_pos q];exact F,H⟩
    ·cases p
  ·cases h
 ·obtain ⟨r,t,h⟩:=ayQ h;exact key r t h
theorem aqp {w1:World} {arr:Array Value} {ty:TypeId} (h:w1.heap=w.heap∧w1.os=w.os∧w1.tape=w.tape∧w1.output=w.output) :
 o7 w ((w1.alloc (.cells arr ty)).freeze ⟨w.heap.size,arr.size,none⟩ 1) arr ty:=by
 have a:=agd (arr:=arr) (ty:=ty) h;have b:((w1.alloc (.cells arr ty)).freeze ⟨w.heap.size,arr.size,none⟩ 1).heap[w.heap.size]? = some (.cells arr ty (arr.size,arr.size+1)):=by
  have d:(w1.alloc (.cells arr ty)).heap[w.heap.size]? = some (.cells arr ty (0,0)):=by rw [←h.1];exact heap_alloc_new w1 _
  simp [World.freeze,azF,d]
 refine ⟨a.os,a.tape,a.output, ?_,fun g c => ?_,⟨_,b⟩,fun j e => ?_⟩
 ·rw [←a.size];simp [World.freeze]
 ·rw [←a.same g c];simp only [World.freeze,Nat.one_ne_zero,if_false];rw [azF,if_neg (by omega)]
 ·unfold World.frozen?;rw [b];simp;omega
theorem ai7 (el:TypeId) (s:ByteArray):∃ cap arr w',(Conv.stringToBytes el s).run P w = .ok (.slice (some ⟨w.heap.size,0,none⟩) s.size cap) w'∧s.size≤cap∧o7 w w' arr el∧arr.size=cap ∧
 (∀ j,j < s.size→arr[j]? = (s.data.toList.map fun x=>azA .u8 x.toNat)[j]?)∧∀ v∈arr.toList,v.oneCell'=true:=by
 obtain ⟨c,g⟩:∃ c,c=(azG s.size 0 el).cut (w.tape w.drawn (.appendCap s.size 0 el)):=⟨_,rfl⟩
 have f:s.size≤c:=by rw [g];simp only [Question.cut];omega
 refine ⟨c,(s.data.map fun b=>azA .u8 b.toNat)++azH (c - s.size) (.int .u8 0),_, ?_,f,aqp (w:=w) (w1:=w.drew) ⟨rfl,rfl,rfl,rfl⟩, ?_, ?_, ?_⟩
 ·have e:((s.data.map fun (b:UInt8)=>azA .u8 (b.toNat:Int))++azH (c - s.size) (azA .u8 0)).size=c:=by simp;omega
  have a:=l8 (heap_alloc_new w.drew (.cells ((s.data.map fun (b:UInt8)=>azA .u8 (b.toNat:Int))++azH (c - s.size) (azA .u8 0)) el));rw [e] at a;unfold Conv.stringToBytes;simp only [azt,run_choose,azI,azx,if_false,azw,←g,newRow,run_newObj,azu,World.drew_eq,World.alloc_eq,World.size_drew,markStringish,run_shape,e];simp only [World.size_drew] at a;rw [a];simp only [run_freeze,azw]
 ·simp;omega
 ·intro j h;rw [azJ (by simpa using h)];simp
 ·intro v d;rw [azK] at d;rcases azL.1 d with d | d
  ·obtain ⟨b,_,rfl⟩:=Array.mem_map.1 d;rfl
  ·rw [(Array.mem_replicate.1 d).2];rfl
theorem aqq {a : Addr} {l : List Value} {n cap : Nat} (hl : (loadCells a n).run P w = .ok l.toArray w) {ns : List Int} (hb : l = ns.map fun n => azA .u8 n) : (azM (.slice (some a) n cap)).run P w = .ok (.string ⟨(ns.map fun n => azN n.toNat).toArray⟩) w := by
 have key : ∀ (ns : List Int) (s : ByteArray), (forIn (ns.map fun n => azA .u8 n).toArray s (fun c (r : ByteArray) => (match c with
     | .int .u8 n => pure (azO (r.push (azN n.toNat)))
     | _ => (do
       stuck "bytesToString: byte expected"
       pure (azO r)) : Sem (ForInStep ByteArray)))).run P w = .ok ⟨s.data ++ (ns.map fun n => azN n.toNat).toArray⟩ w := by
   intro ns
   induction ns with
   | nil => intro s; simp
   | cons b ns ih =>
     intro s
     simp only [List.map_cons, List.forIn_toArray, List.forIn_cons, azt, azu, azw]
     have := ih (s.push (azN b.toNat))
     simp only [List.forIn_toArray] at this
     rw [this]
     congr 1
     simp [ByteArray.push]
 subst hb
 unfold azM
 simp only [azt, hl, azw]
 refine Eq.trans (congrArg (fun r : Result ByteArray => r.andThen fun a w' => Sem.run P (pure (Value.string a)) w') (key ns ByteArray.empty)) ?_
 simp only [azw, azu]
 congr 3
 simp [ByteArray.empty, ByteArray.emptyWithCapacity]
 rfl
theorem ai8:∀ (cs:List AV) (bs:List UInt8) (a:Nat→Option Value),bytesOf cs=some bs→bC P w I ρ cs a→∃ e:List Int,e.length=cs.length∧bs=e.map (fun n=>azN n.toNat)∧∀ j,j < cs.length→a j=(e[j]?).map fun n => .int .u8 n
 | [],bs,a,h,hv=>by
  simp only [bytesOf,ayX] at h;subst h;exact ⟨[],rfl,rfl,fun j f=>by simp at f⟩
 | c::cs,bs,a,h,hv=>by
  simp only [bytesOf] at h;obtain ⟨b,d,h⟩:=ayQ h;obtain ⟨g,k,rfl⟩:=ayR h;simp only [bC] at hv;obtain ⟨⟨v,o,i⟩,p⟩:=hv;obtain ⟨e,l,q,m⟩:=ai8 cs g _ k p;unfold asB at d;split at d
  ·rename_i n;simp only [ayX] at d;simp only [VR] at i;subst i;refine ⟨n::e,by simp [l],by simp [q,d],fun j f => ?_⟩;cases j with
   | zero=>simpa using o
   | succ j=>simpa using m j (by simpa using f)
  ·cases d
end
section
variable {P:Program} {w:World} {I:Nat→Prop} {ρ:cB} {m:aF}
theorem iK.pur {s:Sem Value} {a:AV} {addr:Value} (b:SR P w I ρ m) (h:mK P w I ρ s a):iK P w I ρ m (s.run P w) id ⟨a,m,none⟩ addr:=by
 obtain ⟨v,e,c⟩:=h;exact ⟨v,w,I,ρ,e,c,b,cL.refl _ _ _ _,fun d y h=>by cases h⟩
theorem ai9 (D:SR P w I ρ m) {src dst:TypeId} {x:AV} {out:bR} (h:mJ P m src dst x=some out) (i:∀ b,m.next≤b→b < out.m.next→ρ b=none) {v:Value} (p:VR P w I ρ x v) (addr:Value) :
 iK P w I ρ m ((azP src dst v).run P w) id out addr:=by
 unfold mJ at h;split at h
 ·rename_i el o;split at h
  ·rename_i s;split at h
   ·rename_i hc;obtain ⟨B,N,t⟩:=hc;have F:=aax N;simp only [zak] at h;subst h;simp only [VR] at p;subst p;obtain ⟨cap,arr,w',S,T,C,U,E,X⟩:=ai7 (P:=P) (w:=w) el s;have V:ρ m.next=none:=i m.next (ay7 _) (by simp [aF.push]);obtain ⟨a,b⟩:=zG (k:=⟨fT s,el,.flat,true⟩) C D V rfl (agh s) (by
     simp only [if_true];exact iH (agf s) fun j K=>E j (by rw [agi] at K;exact K)) X (fun h=>by simp only at h;rw [B] at h;cases h)
    refine ⟨.slice (some ⟨w.heap.size,0,none⟩) s.size cap,w',I,_, ?_, ?_,a,b,fun d y h=>by cases h⟩
    ·simp [azP,cW F,cW (iJ o),cW (af4 B),S]
    ·simp only [id,VR];obtain ⟨fr,O⟩:=C.blk;exact ⟨_,_,cap,el,_,1,tS _ _ _,rfl,⟨ay7 _,T⟩,(fun h=>by cases h),l8 O,t,by omega⟩
   ·cases h
  ·cases h
 ·rename_i o;have c:∀ u:Value,x = .val u→eX ((cF P (azP src dst u)).map .val) m=some out→iK P w I ρ m ((azP src dst v).run P w) id out addr:=by
   rintro u rfl h;simp only [eX] at h;obtain ⟨av,Q,rfl⟩:=ayR h;obtain ⟨z,hz,rfl⟩:=ayR Q;simp only [VR] at p;subst p;exact iK.pur D ⟨z,sA P _ _ hz w,by simp only [VR]⟩
  split at h
  ·rename_i el l G;split at h
   ·rename_i B;obtain ⟨⟨cs,n,f⟩,hr,h⟩:=ayQ h;simp only at h;split at h
    ·rename_i M;obtain ⟨bs,g,h⟩:=ayQ h;simp only [zak] at h;subst h;obtain ⟨a,cap,rfl,S,T,C,U,E⟩:=acj D hr p;refine ⟨.string ⟨bs.toArray⟩,w,I,ρ, ?_,by simp only [id,VR],D,cL.refl _ _ _ _,fun d y h=>by cases h⟩;have r:=iJ G;have q:=aax l;simp only [azP,azt,cW r,cW q,azw,cW (af4 B)];cases a with
     | none =>
      obtain ⟨J,L,e3⟩:=E rfl;subst J;subst L;simp [bytesOf] at g;subst g;simp [azM];rfl
     | some Z =>
      obtain ⟨A,W,q2,R⟩:=adH (P:=P) (sz:=1) (n:=n) (len:=n) (cap:=cap) C (by rw [azD];exact M) (fun e=>by cases e);rw [azD] at W R;have H:(loadCells Z n).run P w = .ok A.toArray w:=by simpa [azz] using q2
      obtain ⟨ns,J,rfl,L⟩:=ai8 _ bs _ g R;refine aqq H ?_;apply List.ext_getElem?;intro j;have Y:(cs.take n).length=n:=by simp;omega
      by_cases K:j < n
      ·rw [azl];exact L j (by omega)
      ·rw [ay3 (by omega),ay3 (by simp [J];omega)]
    ·cases h
   ·cases h
  ·split at h
   ·exact c _ rfl h
   ·cases h
theorem aja {t:TypeId} {z:List Value} (h:gN P t=some z):∃ v,(v.cells.size=z.length∧∀ x∈v.cells,x.oneCell'=true)∧∀ w,(zeroValue t).run P w = .ok v w:=by
 obtain ⟨v,f,a,d,i,e,b⟩:=aaD (w:=default) h;exact ⟨v,⟨by rw [←a];simp,fun x c=>age (d x (by rw [←a];simpa using c))⟩,fun w=>by simp [zeroValue,typeInfo,e,b]⟩
theorem aqr (n:SR P w I ρ m) {b:Nat} {k:eR} (D:m.at_ b=some k) (s:k.wr=true) {g o:Nat} (C:ρ b=some (g,o)) (p:ρ m.next=none) (a:Nat) :
 SR P w I (mZ ρ m.next (g,o+a)) ((m.put b none).push ⟨k.cells.drop a,k.el,k.kind,true⟩)∧cL w I ρ m w I (mZ ρ m.next (g,o+a)) ((m.put b none).push ⟨k.cells.drop a,k.el,k.kind,true⟩):=by
 have i:=ai1 (ρ:=ρ) (b:=m.next) (x:=(g,o+a)) p;have K:=adB w I;have r:=n.blk b k g o D C;have c:∀ d k' x y,((m.put b none).push ⟨k.cells.drop a,k.el,k.kind,true⟩).at_ d=some k'→mZ ρ m.next (g,o+a) d=some (x,y) →
  (d=m.next∧k'=⟨k.cells.drop a,k.el,k.kind,true⟩∧x=g∧y=o+a)∨(d≠m.next∧d≠b∧m.at_ d=some k'∧ρ d=some (x,y)):=by
  intro d k' x y l f;by_cases e:d=m.next
  ·subst e;simp [aF.push,aF.put] at l;simp [mZ] at f;exact .inl ⟨rfl,l.symm,f.1.symm,f.2.symm⟩
  ·simp [aF.push,aF.put,e] at l;simp [mZ,e] at f;exact .inr ⟨e,l.1,l.2,f⟩
 refine ⟨⟨fun d k' x y l f => ?_,fun F A L B x H z l f q t N => ?_,n.lt,n.mms.keep K i (fun _ _=>⟨rfl,fun h=>h⟩)⟩,⟨rfl,rfl,rfl,ay7 _,fun _ _ _=>rfl,fun _ _ h=>h,fun _ h=>h,fun _ h => .inl h,i,fun d l f => ?_,fun x J => ?_,by simp [aF.push,aF.put]⟩⟩
 ·rcases c d k' x y l f with ⟨rfl,rfl,rfl,rfl⟩ | ⟨_,_,q,t⟩
  ·obtain ⟨arr,fr,T,E⟩:=r.cells;refine ⟨lC r.one _,⟨arr,fr,T, ?_⟩,fun _=>r.wr s,(fun h=>by cases h),fun _=>r.all1 s,fun _=>r.nostr s⟩;simp only at E ⊢;split at E
   ·rename_i G;rw [if_pos G];exact iH (lQ E a) fun j _=>by rw [ay0]
   ·rename_i G;rw [if_neg G];exact iH (lQ (eL K i _ _ E) a) fun j _=>by rw [ay0]
  ·exact sC K i (n.blk d k' x y q t) rfl (fun M=>((n.blk d k' x y q t).wr M).1)
 ·rcases c F L x H l q with ⟨rfl,rfl,rfl,rfl⟩ | ⟨U,S,O,Q⟩
  ·rcases c A B _ z f t with ⟨rfl,_⟩ | ⟨_,R,u,v⟩
   ·rfl
   ·exact absurd (n.inj b A k B _ o z D u C v s).symm R
  ·rcases c A B x z f t with ⟨rfl,rfl,rfl,rfl⟩ | ⟨_,R,u,v⟩
   ·exact absurd (n.inj F b L k _ H o O D Q C N) S
   ·exact n.inj F A L B x H z O u Q v N
 ·unfold mZ at f;split at f
  ·rename_i e;subst e;simp [aF.push,aF.put]
  ·exact absurd l f
 ·rcases J with ⟨d,k',y,l,f,q⟩ | J
  ·rcases c d k' x y l q with ⟨rfl,rfl,rfl,rfl⟩ | ⟨_,_,u,v⟩
   ·exact .inl (.inl ⟨b,k,o,D,s,C⟩)
   ·exact .inl (.inl ⟨d,k',y,u,f,v⟩)
  ·exact .inl (.inr J)
theorem ajb {c:TypeId} (a:xL P c=true):∃ d,P.underlying c=some d∧∀ k,d ≠ .int k:=by
 unfold xL at a;split at a
 ·cases a
 ·rename_i d b e;exact ⟨d,e,b⟩
 ·cases a
theorem ajc {d:TypeDesc} (h:∀ k,d ≠ .int k):(match (generalizing:=false) d with | .int _=>true | _=>false)=false:=by
 cases d <;> first | rfl | exact absurd rfl (h _)
theorem aqs {t v ty el:TypeId} {sz y:Nat} (j:bZ P t=some el) (D:xL P v=true) (q:cE P el=some sz) (A:lB P el=some y) {z:Value} (B:∀ w,(zeroValue el).run P w = .ok z w)
 {base:Option Addr} {len cap n:Nat} {p:Value} (f:(azB p).run P w = .ok n w) {e a:List Value} (d:(azz sz n p).run P w.drew = .ok a.toArray w.drew)
 (g:(azz sz len (.slice base len cap)).run P w.drew = .ok e.toArray w.drew) (b:(len+n)*y≤140737488355328) (h:len+n≤140737488355328) (C:cap < len+n) :
 ∃ c,len+n≤c∧(azQ #[t,v] ty #[.slice base len cap,p]).run P w = .ok (.slice (some ⟨w.heap.size,0,none⟩) (len+n) c) (w.drew.alloc (.cells (e.toArray++a.toArray++azR z.cells (c - (len+n))) el)):=by
 obtain ⟨d2,r,o⟩:=ajb D;obtain ⟨i,hi,rfl⟩:=af2 A;obtain ⟨c,u⟩:∃ c,c=(azG (len+n) cap el).cut (w.tape w.drawn (.appendCap (len+n) cap el)):=⟨_,rfl⟩
 refine ⟨c,by rw [u];simp only [Question.cut];omega, ?_⟩;have x:=growslice_fits (bytes:=i.bytes) C b;have m:¬ (len+n≤cap):=by omega
 have l:¬ (281474976710656 < Builtin.nextslicecap (len+n) cap*i.bytes):=by omega
 have k:¬ ((9223372036854775807:Int) < (len:Int)+(n:Int)):=by omega
 have s:∀ w,(typeInfo el).run P w = .ok i w:=fun w=>by simp [typeInfo,hi]
 have E:=ajc o;simp [azQ,cW (iJ j),cW r,iC q,s,f,m,l,k,azI,B,d,g,newRow,←u,azS];congr 2;apply Array.ext';simp [azT]
theorem agk {t l ty el:TypeId} {sz:Nat} (f:bZ P t=some el) (m:xL P l=true) (g:cE P el=some sz)
 {base:Option Addr} {len cap n:Nat} {k:Value} (c:(azB k).run P w = .ok n w) {e:List Value} (b:(azz sz n k).run P w = .ok e.toArray w)
 (d:len+n≤cap) {w':World} (i:(match base with | some a=>storeCells (a.add (len*sz)) e | none=>pure ():Sem Unit).run P w = .ok () w'):(azQ #[t,l] ty #[.slice base len cap,k]).run P w = .ok (.slice base (len+n) cap) w':=by
 obtain ⟨d2,h,j⟩:=ajb m;have o:=ajc j;cases base with
 | none =>
  simp at i;subst i;simp [azQ,cW (iJ f),cW h,iC g,c,d,b]
 | some a =>
  simp only at i;simp [azQ,cW (iJ f),cW h,iC g,c,d,b,i]
theorem ack (w:World) (I:Nat→Prop):iI w w.drew I I:=⟨fun _ h=>h,fun _ _=>rfl,fun _ _ h=>h⟩
theorem aqt {a:AV} {v:Value} (h:VR P w I ρ a v):VR P w.drew I ρ a v:=p9 (ack w I) (fun _ _ h=>h) a v h
theorem ajd (a:SR P w I ρ m):SR P w.drew I ρ m :=
 ⟨fun b k g o d c=>sC (ack w I) (fun _ _ h=>h) (a.blk b k g o d c) rfl (fun e=>((a.blk b k g o d c).wr e).1),a.inj,a.lt,a.mms.keep (ack w I) (fun _ _ h=>h) (fun _ _=>⟨rfl,fun h=>h⟩)⟩
theorem agl (z:Array Value) (n:Nat):(azR z n).size=n*z.size:=by simp [azR]
theorem agm {z:Array Value} (h:∀ x∈z,x.oneCell'=true) (n:Nat):∀ x∈azR z n,x.oneCell'=true:=by
 intro x b;simp only [azR,Array.mem_map,Array.mem_range] at b;obtain ⟨i,hi,rfl⟩:=b;have a:0 < z.size:=by
  rcases azo z.size with e | e
  ·rw [e] at hi;simp at hi
  ·exact e
 rw [getElem!_pos z _ (azq _ a)];exact h _ (Array.getElem_mem _)
theorem aje {b bs:List AV} {d ys:List Value} {arr:Array Value} (l:d.length=b.length) (i:bC P w I ρ b (fun j=>d[j]?)) (g:bC P w I ρ bs (fun j=>ys[j]?)) (m:ys.length=bs.length) :
 bC P w I ρ (b++bs) (fun j=>(d.toArray++ys.toArray++arr)[j]?):=j6.2 fun j c a=>by
 rcases azU j b.length with h | h
 ·rw [azd h] at a;obtain ⟨u,f,e⟩:=gQ i a;exact ⟨u,by rw [azS,azJ (by simp;omega)];simpa using f,e⟩
 ·rw [aze h] at a;have k:=(ay5.1 a).1;obtain ⟨u,f,e⟩:=gQ g a;refine ⟨u, ?_,e⟩;rw [azJ (by simp;omega),Array.getElem?_append_right (by simp;omega)];simp only [azV,azW,l];exact f
theorem aqu (V:SR P w I ρ m) {t t2 ty el:TypeId} (Y:bZ P t=some el) (h2:xL P t2=true) {s x:AV} {out:bR} (h:gA P el m s x=some out) (L:∀ b,m.next≤b→b < out.m.next→ρ b=none)
 {sv xv:Value} (hs:VR P w I ρ s sv) (O:VR P w I ρ x xv) (addr:Value):iK P w I ρ m ((azQ #[t,t2] ty #[sv,xv]).run P w) id out addr:=by
 unfold gA at h;obtain ⟨sz,F,h⟩:=ayQ h;obtain ⟨y,hy,h⟩:=ayQ h;obtain ⟨zl,d0,h⟩:=ayQ h;obtain ⟨⟨new,n⟩,a3,h⟩:=ayQ h;obtain ⟨⟨cs,len,f⟩,r,h⟩:=ayQ h;simp only at h;split at h
 ·rename_i hc;obtain ⟨c1,c2,c3⟩:=hc;obtain ⟨z,⟨f3,e8⟩,hz⟩:=aja d0;obtain ⟨l1,l2,l3,l4⟩:=agj V a3 O;obtain ⟨_,_,_,e4⟩:=agj (ajd V) a3 (aqt O);obtain ⟨base,cap,rfl,b1,b2,b3,b4,b5⟩:=acj V r hs;have G:new.take (n*sz)=new:=by rw [←l2];exact List.take_length
  -- growing
  have U:cap < len+n→len*sz≤cs.length→∀ (m1:aF),m1.next=m.next→SR P w I ρ m1→cL w I ρ m w I ρ m1→ρ m.next=none →
   iK P w I ρ m ((azQ #[t,t2] ty #[.slice base len cap,xv]).run P w) id ⟨.sl m1.next 0 (len+n) (len+n) false,m1.push ⟨cs.take (len*sz)++new,el,bP P el,true⟩,none⟩ addr:=by
   intro hg W m1 f0 c5 f4 hf;obtain ⟨q,R,n2,S⟩:=e4 n (ay7 _);have c4:aci P w.drew I (kR (bP P el) ρ) base cs:=by
    cases base with
    | none=>exact b3
    | some ad=>exact ⟨b3.1,eL (ack w I) (fun _ _ h=>h) _ _ b3.2⟩
   obtain ⟨f1,o1,o2,o3⟩:=adH (P:=P) (sz:=sz) (n:=len) (len:=len) (cap:=cap) c4 W (fun e=>(b5 e).2.1);obtain ⟨c,e3,A⟩:=aqs (ty:=ty) Y h2 F hy hz l1 n2 o2 c1 c2 hg;have hA:=agd (w:=w) (w1:=w.drew) (arr:=f1.toArray++q.toArray++azR z.cells (c - (len+n))) (ty:=el) ⟨rfl,rfl,rfl,rfl⟩;have a0:(cs.take (len*sz)).length=len*sz:=by simp;omega
   rw [G] at S;obtain ⟨a,b⟩:=zG (k:=⟨cs.take (len*sz)++new,el,bP P el,true⟩) hA c5 (by rw [f0];exact hf) rfl (acb (tQ b4 _) l3) (by
    exact eL (⟨fun _ h=>h,fun _ _=>rfl,fun _ _ h=>h⟩:iI w.drew w I I) (fun _ _ h=>h) _ _ (aje (by rw [o1,a0]) o3 S (by rw [R,l2]))) (fun x O=>by
    rw [azK] at O;rcases azL.1 O with O | O
    ·rcases azL.1 O with O | O
     ·exact uU (P:=P) (w:=w.drew) (I:=I) (ρ:=kR (bP P el) ρ) (tQ b4 (len*sz)) (by rw [o1,a0]) o3 x (by simpa using O)
     ·exact uU (P:=P) (w:=w.drew) (I:=I) (ρ:=kR (bP P el) ρ) l3 (by rw [R,l2]) S x (by simpa using O)
    ·exact agm e8 _ x O) (fun _=>aaC (w1:=w.drew) _ _)
   refine ⟨_,_,_,_,A, ?_,a,f4.trans b,fun d y h=>by cases h⟩;simp only [id,VR];obtain ⟨fr,a2⟩:=hA.blk;refine ⟨_,_,c,el,_,sz,tS _ _ _,rfl,⟨ay7 _,e3⟩,(fun h=>by cases h),l8 a2,F, ?_⟩;simp only [Array.size_append,azV,agl,o1,R,f3,c3];rw [←azX,←azX];have:len+n+(c - (len+n))=c:=by omega
   rw [this];omega
  split at h
  ·rename_i hf;have f7:cap=len:=b2 hf;split at h
   ·rename_i a9;simp only [zak] at h;subst h;subst a9;obtain ⟨q,R,n2,S⟩:=l4 0 (ay7 _);have c0:q=[]:=azY (by rw [R,Nat.zero_mul]);subst c0;have A:=agk (P:=P) (w:=w) (ty:=ty) Y h2 F l1 n2 (base:=base) (len:=len) (cap:=cap) (by omega) (w':=w) (by cases base <;> rfl);exact ⟨_,w,I,ρ,A,hs,V,cL.refl _ _ _ _,fun d y h=>by cases h⟩
   ·rename_i a9;split at h
    ·rename_i W;simp only [zak] at h;subst h;exact U (by omega) W m rfl V (cL.refl _ _ _ _) (L m.next (ay7 _) (by simp [aF.push]))
    ·cases h
  ·split at h
   ·rename_i v;split at h
    ·rename_i W;simp only [zak] at h;subst h;refine U ?_ W m rfl V (cL.refl _ _ _ _) (L m.next (ay7 _) (by simp [aF.push]));unfold vS at v;split at v
     ·simp only [VR] at hs;obtain ⟨g,o,a4,a6,n',s',hb,J,⟨b8,Z⟩,a1,e5⟩:=hs;simp only [azZ] at J;simp only [decide_eq_true_eq] at v;have:=a1 trivial;omega
     ·cases v
    ·cases h
   cases s with
   | sl b l i c' f' =>
    simp only at h;obtain ⟨k,hk,h⟩:=ayQ h;split at h
    ·rename_i e6;obtain ⟨d1,d2,d3⟩:=e6;simp only [zak] at h;subst h;simp only [eE,hk] at r;obtain ⟨M,B,kk,kw⟩:=k;simp only at d1 d2 d3 r;subst d1;subst d2;split at r
     case isFalse=>cases r
     case isTrue hkk =>
      subst hkk;simp only [ayX,azh] at r;obtain ⟨rfl,rfl,rfl⟩:=r;have e9:(M.drop l).length=i*sz:=by simp;omega
      have f6:(M.drop l).take (i*sz)=M.drop l:=by rw [←e9];exact List.take_length
      have a2:ρ m.next=none:=L m.next (ay7 _) (by simp [aF.push,aF.put]);rcases azU cap (i+n) with hg | E
      ·obtain ⟨e1,e2⟩:=ai2 V b;have:=U hg (by omega) (m.put b none) rfl e1 e2 a2;rw [f6] at this;exact this
      ·simp only [VR] at hs;obtain ⟨g,o,a4,a6,n',s',hb,J,⟨b8,Z⟩,a1,K,X,H⟩:=hs;simp only [azZ] at J;obtain ⟨rfl,_,rfl⟩:=J;have hB:=V.blk b _ g o hk hb;obtain ⟨arr,fr,hh,N⟩:=hB.cells;have Q:=l8 hh;rw [K] at Q;simp only [ayX,azh] at Q;obtain ⟨c6,f2⟩:=Q;rw [c6] at X K;rw [f2] at K H;rw [F,ayX] at X;subst X;obtain ⟨q,R,n2,S⟩:=l4 n (ay7 _);rw [G] at S;have e7:(i+n)*sz≤cap*sz:=azC _ E;rw [azX] at e7;have C:=uU (P:=P) (w:=w) (I:=I) (ρ:=kR (bP P B) ρ) l3 (by rw [R,l2]) S;have a5:=acf (P:=P) (w:=w) (o:=o+l+i*sz) (vs:=q) hh (acg hB rfl hh) (by rw [R];omega) C;have A:=agk (P:=P) (w:=w) (ty:=ty) Y h2 F l1 n2 (base:=some ⟨g,o+l,none⟩) (len:=i) (cap:=cap) E (by simpa only [ayZ] using a5);obtain ⟨s1,s2⟩:=zK (k':=⟨M++new,B,bP P B,true⟩) V hk rfl hb (vs:=q) (p:=o+l+i*sz) ⟨rfl,rfl,acb hB.one l3⟩ C (fun b0 c8 e0 T b7 e1 e2=>by
        simp only at T ⊢;rw [hh] at e0;simp only [ayX,Obj.cells.injEq] at e0;obtain ⟨rfl,_,_⟩:=e0;refine j6.2 fun j c hj => ?_
        simp only [e2];rcases azU j M.length with a0 | c7
        ·rw [azd a0] at hj;rw [if_neg (by omega)];exact gQ T hj
        ·rw [aze c7] at hj;have f8:=(ay5.1 hj).1;obtain ⟨u,h1,h2⟩:=gQ S hj;rw [if_pos (by omega)];exact ⟨u,by rw [show o+j - (o+l+i*sz)=j - M.length by omega];exact h1,h2⟩)
       obtain ⟨s3,s4⟩:=aqr s1 (b:=b) (k:=⟨M++new,B,bP P B,true⟩) (by simp [aF.put]) rfl hb a2 l;have b9:((m.put b (some ⟨M++new,B,bP P B,true⟩)).put b none).push ⟨(M++new).drop l,B,bP P B,true⟩=(m.put b none).push ⟨M.drop l++new,B,bP P B,true⟩:=by
        have e1:(m.put b (some ⟨M++new,B,bP P B,true⟩)).put b none=m.put b none:=by
         simp only [aF.put,aF.mk.injEq,true_and,and_true];funext j;by_cases e:j=b <;> simp [e]
        rw [e1,List.drop_append_of_le_length (by omega)]
       simp only at s3 s4;rw [b9] at s3 s4;refine ⟨_,_,_,_,A, ?_,s3,s2.trans s4,fun d y h=>by cases h⟩;simp only [id,VR];refine ⟨g,o+l,cap,B,arr.size,sz,tS _ _ _,rfl,⟨ay7 _,E⟩,(fun h=>by cases h), ?_,F,by omega⟩;exact s2.shape _ _ K
    ·split at h
     ·rename_i f5;obtain ⟨d1,d2,d3,d4⟩:=f5;simp only [zak] at h;subst h;simp only [eE,hk] at r;obtain ⟨M,B,kk,kw⟩:=k;simp only at d1 d2 d4 r;subst d1;subst d2;split at r
      case isFalse=>cases r
      case isTrue hkk =>
       subst hkk;simp only [ayX,azh] at r;obtain ⟨rfl,rfl,rfl⟩:=r;simp only [VR] at hs;obtain ⟨g,o,a4,a6,n',s',hb,J,⟨b8,Z⟩,a1,K,X,H⟩:=hs;simp only [azZ] at J;obtain ⟨rfl,_,rfl⟩:=J;have E:i+n≤cap:=ayV d3 Z;have hB:=V.blk b _ g o hk hb;obtain ⟨arr,fr,hh,N⟩:=hB.cells;obtain ⟨q,R,n2,S⟩:=l4 n (ay7 _);rw [G] at S;have C:=uU (P:=P) (w:=w) (I:=I) (ρ:=kR (bP P B) ρ) l3 (by rw [R,l2]) S;have D:bC P w I (kR (bP P B) ρ) M (fun j=>arr[o+j]?):=N;have a7:o+l+i*sz+q.length≤arr.size:=by
        rw [R];rw [azX] at d4;have Q:=l8 hh;rw [K] at Q;simp only [ayX,azh] at Q;rcases azo (n*sz) with h0 | h0
        ·rcases azo (i*sz) with h1 | h1
         ·omega
         ·obtain ⟨u,hu⟩:=aay D (j:=l+i*sz - 1) (by omega);have:=(azy.1 hu).1;omega
        ·obtain ⟨u,hu⟩:=aay D (j:=l+i*sz+n*sz - 1) (by omega);have:=(azy.1 hu).1;omega
       have a5:=acf (P:=P) (w:=w) (o:=o+l+i*sz) (vs:=q) hh (acg hB rfl hh) a7 C;have A:=agk (P:=P) (w:=w) (ty:=ty) Y h2 F l1 n2 (base:=some ⟨g,o+l,none⟩) (len:=i) (cap:=cap) E (by simpa only [ayZ] using a5);obtain ⟨s1,s2⟩:=zK (k':=⟨cP M (l+i*sz) new,B,bP P B,true⟩) V hk rfl hb (vs:=q) (p:=o+l+i*sz) ⟨rfl,rfl,aaz hB.one l3 _⟩ C (fun b0 c8 e0 T b7 e1 e2=>by
        simp only at T ⊢;exact ach (by omega) (by rw [l2];rw [azX] at d4;omega) (by rw [R,l2]) T S e2)
       refine ⟨_,_,_,_,A, ?_,s1,s2,fun d y h=>by cases h⟩;simp only [id,VR];exact ⟨g,o,cap,a6,n',s',hb,rfl,⟨d3,Z⟩,a1,s2.shape _ _ K,X,H⟩
     ·cases h
   | _=>simp at h
 ·cases h
theorem ajf {el:TypeId} {zl:List Value} (r:gN P el=some zl) {sz:Nat} (h:zl.length=sz) (n:Nat):∃ v,v.cells.size=sz∧(∀ w,(zeroValue el).run P w = .ok v w) ∧
 (uS zl (n*sz)).length=n*sz∧(azR v.cells n).size=n*sz∧eF (uS zl (n*sz))∧(∀ x∈azR v.cells n,x.oneCell'=true)∧∀ w I ρ,bC P w I ρ (uS zl (n*sz)) (fun j=>(azR v.cells n)[j]?):=by
 obtain ⟨v,t,k,l,i,p,o⟩:=aaD (w:=default) r;have d:v.cells.size=sz:=by rw [←h,←k];simp
 refine ⟨v,d,fun w=>by simp [zeroValue,typeInfo,p,o],by simp [uS],by rw [agl,d],fun c s => ?_,agm (fun x q=>age (l x (by rw [←k];simpa using q))) n,fun w I ρ=>j6.2 fun j c f => ?_⟩
 ·obtain ⟨i,hi,rfl⟩:=azm.1 s;have a:0 < zl.length:=by
   rcases azo zl.length with e | e
   ·rw [h] at e;subst e;simp at hi
   ·exact e
  refine adE (l _ ?_);rw [azp,azj (azq _ a)];exact List.getElem_mem _
 ·unfold uS at f;rw [azl] at f;obtain ⟨i,hi,rfl⟩:=ayR f;have b:j < n*sz:=by have:=(ay5.1 hi).1;simpa using this
  have g:i=j:=by simp [b] at hi;exact hi.symm
  subst g;have a:0 < sz:=by
   rcases azo sz with e | e
   ·subst e;simp at b
   ·exact e
  refine ⟨v.cells[i % v.cells.size]!,by simp [azR,d,b], ?_⟩;simp only [VR];have m:i % sz < v.cells.size:=by rw [d];exact azq _ a
  rw [d,getElem!_pos v.cells _ m,azp,h,←k];simp [m]
theorem aqv {b:TypeId} (a:ab7 P b=true):∃ k,P.underlying b=some (.int k):=by
 unfold ab7 at a;split at a
 ·rename_i k c;exact ⟨k,c⟩
 ·cases a
theorem aqw {t F ty el:TypeId} {sz y:Nat} (d:bZ P t=some el) (L:ab7 P F=true) (q:cE P el=some sz) (J:lB P el=some y) {z:Value} (E:∀ w,(zeroValue el).run P w = .ok z w) (x:z.cells.size=sz)
 {base:Option Addr} {len cap n:Nat} {k:IntKind} {f:List Value} (v:n≠0)
 (b:(azz sz len (.slice base len cap)).run P w.drew = .ok f.toArray w.drew) (a:(len+n)*y≤140737488355328) (u:len+n≤140737488355328) (K:cap < len+n) :
 ∃ c,len+n≤c∧(azQ #[t,F] ty #[.slice base len cap,.int k n]).run P w = .ok (.slice (some ⟨w.heap.size,0,none⟩) (len+n) c) (w.drew.alloc (.cells (f.toArray++azR z.cells n++azR z.cells (c - (len+n))) el)):=by
 obtain ⟨M,r⟩:=aqv L;obtain ⟨i,hi,rfl⟩:=af2 J;obtain ⟨c,B⟩:∃ c,c=(azG (len+n) cap el).cut (w.tape w.drawn (.appendCap (len+n) cap el)):=⟨_,rfl⟩
 refine ⟨c,by rw [B];simp only [Question.cut];omega, ?_⟩;have I:=growslice_fits (bytes:=i.bytes) K a;have m:¬ (len+n≤cap):=by omega
 have j:¬ (281474976710656 < Builtin.nextslicecap (len+n) cap*i.bytes):=by omega
 have g:¬ ((9223372036854775807:Int) < (len:Int)+(n:Int)):=by omega
 have s:∀ w,(typeInfo el).run P w = .ok i w:=fun w=>by simp [typeInfo,hi]
 have D:azv.wrap (n:Int)=n:=by rw [IntKind.wrap_i64];omega
 have p:¬ ((n:Int) < 0):=by omega
 have G:n*i.bytes≤140737488355328:=ayV (azC _ (Nat.le_add_left n len)) a;have o:¬ ((281474976710656:Int) < (n:Int)*(i.bytes:Int)):=by
  have:((n*i.bytes:Nat):Int)≤140737488355328:=by omega
  rw [Int.natCast_mul] at this;omega
 by_cases C:n*sz=0
 ·have l:sz=0:=by
   rcases Nat.mul_eq_zero.1 C with e | e
   ·exact absurd e v
   ·exact e
  have A:∀ k,azR z.cells k = #[]:=fun k=>by simp [azR,x,l]
  simp [azQ,cW (iJ d),cW r,iC q,s,m,j,g,p,o,azI,E,b,newRow,←B,azS,asInt,asIntOf,D,A]
 ·have H:¬ (n=0∨sz=0):=fun h=>C (Nat.mul_eq_zero.2 h)
  simp [azQ,cW (iJ d),cW r,iC q,s,m,j,g,p,o,azI,E,b,newRow,←B,azS,asInt,asIntOf,D];exact fun h=>absurd h C
theorem aqx (U:SR P w I ρ m) {t W ty el:TypeId} (D:bZ P t=some el) (B:ab7 P W=true) {s:AV} {n:Nat} {k:IntKind} {out:bR} (h:adw P el m s n=some out) (l:∀ b,m.next≤b→b < out.m.next→ρ b=none)
 {sv:Value} (hs:VR P w I ρ s sv) (addr:Value):iK P w I ρ m ((azQ #[t,W] ty #[sv,.int k n]).run P w) id out addr:=by
 unfold adw at h;obtain ⟨sz,v,h⟩:=ayQ h;obtain ⟨y,hy,h⟩:=ayQ h;obtain ⟨zl,q,h⟩:=ayQ h;obtain ⟨⟨cs,len,f⟩,L,h⟩:=ayQ h;simp only at h;split at h
 ·rename_i hc;obtain ⟨c1,c2,c3,c4,j,M⟩:=hc;simp only [zak] at h;subst h;obtain ⟨z,u,V,Z,q2,q3,q4,q5⟩:=ajf q c3 n;obtain ⟨base,cap,rfl,b1,Y,F,R,b5⟩:=acj U L hs;have hg:cap < len+n:=by
   rcases j with j | j
   ·have:=Y j;omega
   ·unfold vS at j;split at j
    ·simp only [VR] at hs;obtain ⟨g,o,S,a1,n',s',hb,N,⟨a2,a0⟩,J,H⟩:=hs;simp only [azZ] at N;simp only [decide_eq_true_eq] at j;have:=J trivial;omega
    ·cases j
  have G:aci P w.drew I (kR (bP P el) ρ) base cs:=by
   cases base with
   | none=>exact F
   | some ad=>exact ⟨F.1,eL (ack w I) (fun _ _ h=>h) _ _ F.2⟩
  obtain ⟨E,K,X,Q⟩:=adH (P:=P) (sz:=sz) (n:=len) (len:=len) (cap:=cap) G M (fun e=>(b5 e).2.1);obtain ⟨c,C,A⟩:=aqw (k:=k) (ty:=ty) D B v hy V u c4 X c1 c2 hg;have T:=agd (w:=w) (w1:=w.drew) (arr:=E.toArray++azR z.cells n++azR z.cells (c - (len+n))) (ty:=el) ⟨rfl,rfl,rfl,rfl⟩;have p:(cs.take (len*sz)).length=len*sz:=by simp;omega
  have r:(azR z.cells n).toList.toArray=azR z.cells n:=by simp
  obtain ⟨a,b⟩:=zG (k:=⟨cs.take (len*sz)++uS zl (n*sz),el,bP P el,true⟩) T U (l m.next (ay7 _) (by simp [aF.push])) rfl (acb (tQ R _) q3) (by
   simp only [if_true];have:=aje (P:=P) (w:=w.drew) (I:=I) (ρ:=(kR (bP P el) ρ)) (arr:=azR z.cells (c - (len+n))) (ys:=(azR z.cells n).toList) (by rw [K,p]) Q (by simpa using q5 w.drew I (kR (bP P el) ρ)) (by rw [azs,q2,Z]);rw [r] at this;exact eL (⟨fun _ h=>h,fun _ _=>rfl,fun _ _ h=>h⟩:iI w.drew w I I) (fun _ _ h=>h) _ _ this) (fun x i=>by
   rw [azK] at i;rcases azL.1 i with i | i
   ·rcases azL.1 i with i | i
    ·exact uU (P:=P) (w:=w.drew) (I:=I) (ρ:=kR (bP P el) ρ) (tQ R (len*sz)) (by rw [K,p]) Q x (by simpa using i)
    ·exact q4 x i
   ·refine agm (fun x i => ?_) _ x i;obtain ⟨v',e1,e2⟩:=aja q;have:v'=z:=by have h1:=e2 w;have B:=V w;rw [h1] at B;simp at B;exact B
    subst this;exact e1.2 x i) (fun _=>aaC (w1:=w.drew) _ _)
  refine ⟨_,_,_,_,A, ?_,a,b,fun d y h=>by cases h⟩;simp only [id,VR];obtain ⟨fr,O⟩:=T.blk;refine ⟨_,_,c,el,_,sz,tS _ _ _,rfl,⟨ay7 _,C⟩,(fun h=>by cases h),l8 O,v, ?_⟩;simp only [Array.size_append,azV,agl,K,u];rw [←azX,←azX];have:len+n+(c - (len+n))=c:=by omega
  rw [this];omega
 ·cases h
end
section
variable {P:Program} {w:World} {I:Nat→Prop} {ρ:cB} {m:aF}
theorem ajg {t:TypeId} {ts:List TypeId} {ty el:TypeId} {sz n len cap:Nat} {base:Option Addr} {xv:Value} (hel:bZ P t=some el) (hsz:cE P el=some sz) (hlen:(azB xv).run P w = .ok n w) {news:List Value}
 (hnews:(azz sz (min n len) xv).run P w = .ok news.toArray w) {w':World} (hr:(match base with | some a=>storeCells a news | none=>pure ():Sem Unit).run P w = .ok () w') :
 (az0 (t::ts).toArray ty #[.slice base len cap,xv]).run P w = .ok (.int .i64 ((min n len:Nat):Int)) w':=by
 have h0:(t::ts).toArray[0]? = some t:=by simp
 unfold az0
 simp only [h0]
 cases base with
 | none =>
  simp only [azu,Result.ok.injEq,true_and] at hr
  subst hr
  simp [cW (iJ hel),hlen,iC hsz,hnews,goInt]
 | some a =>
  simp only at hr
  simp [cW (iJ hel),hlen,iC hsz,hnews,hr,goInt]
theorem aqy (k:SR P w I ρ m) {t ty el:TypeId} (j:bZ P t=some el) {x i:AV} (h:afZ x=some i) {v:Value} (e:VR P w I ρ x v) (addr:Value) :
 iK P w I ρ m ((Builtin.cap_ #[t] ty #[v]).run P w) id ⟨i,m,none⟩ addr:=by
 have b:∀ {a:Option Addr} {n c:Nat},v = .slice a n c→i=aC c→iK P w I ρ m ((Builtin.cap_ #[t] ty #[v]).run P w) id ⟨i,m,none⟩ addr:=by
  rintro a n c rfl rfl;exact ⟨.int .i64 c,w,I,ρ,by simp [Builtin.cap_,cW (iJ j),goInt],by simp only [id,aC,VR],k,cL.refl _ _ _ _,fun d y h=>by cases h⟩
 unfold afZ at h;split at h
 ·simp only [ayX] at h;subst h;simp only [VR] at e;exact b e rfl
 ·simp only [ayX] at h;subst h;simp only [VR] at e;obtain ⟨g,o,cap,rfl,_,_,f,_⟩:=e;exact b rfl (by rw [f trivial])
 ·simp only [ayX] at h;subst h;simp only [VR] at e;obtain ⟨l,cap,rfl,_,f⟩:=e;exact b rfl (by rw [f trivial])
 ·simp only [ayX] at h;subst h;simp only [VR] at e;obtain ⟨g,o,cap,ty,n,s,_,rfl,_,f,_⟩:=e;exact b rfl (by rw [f trivial])
 ·cases h
theorem aqz (N:SR P w I ρ m) {t ty el:TypeId} (B:bZ P t=some el) {x:AV} {out:bR} (h:adx P el m x=some out) {v:Value} (q:VR P w I ρ x v) (addr:Value) :
 iK P w I ρ m ((az1 #[t] ty #[v]).run P w) id out addr:=by
 have none:∀ {a:Option Addr} {c:Nat},v = .slice a 0 c→bL eN m=some out→iK P w I ρ m ((az1 #[t] ty #[v]).run P w) id out addr:=by
  rintro a c rfl h;simp only [zak] at h;subst h;exact ⟨.tuple #[],w,I,ρ,by cases a <;> simp [az1,cW (iJ B)],by simp only [id,eN,VR],N,cL.refl _ _ _ _,fun d y h=>by cases h⟩
 unfold adx at h;split at h
 ·simp only [VR] at q;exact none q h
 ·simp only [VR] at q;obtain ⟨ad,cap,rfl,_⟩:=q;exact none rfl h
 ·rename_i b i len c f;split at h
  ·rename_i O;subst O;simp only [VR] at q;obtain ⟨g,o,cap,ty,n,s,_,rfl,_⟩:=q;exact none rfl h
  ·rename_i O;obtain ⟨sz,a1,h⟩:=ayQ h;obtain ⟨zl,H,h⟩:=ayQ h;obtain ⟨k,S,h⟩:=ayQ h;split at h
   ·rename_i hc;obtain ⟨c1,T,Y,c4⟩:=hc;simp only [zak] at h;subst h;simp only [VR] at q;obtain ⟨g,o,cap,a3,n',s',U,rfl,hl,hf,J,a0,M⟩:=q;have G:=N.blk b k g o S U;obtain ⟨arr,fr,K,l⟩:=G.cells;obtain ⟨z,X,hz,L,q2,q3,q4,q5⟩:=ajf H Y len;have E:(azR z.cells len).toList.length=(uS zl (len*sz)).length:=by rw [azs,q2,L]
    have r:∀ x∈(azR z.cells len).toList,x.oneCell'=true:=fun x hx=>q4 x (by simpa using hx)
    have D:o+i+(azR z.cells len).toList.length≤arr.size:=by
     rw [E,L];rcases azo (len*sz) with e | e
     ·rw [e];have C:=l8 K;rw [J] at C;simp only [ayX,azh] at C;omega
     ·obtain ⟨u,V⟩:=aay l (j:=i+len*sz - 1) (by omega);have:=(azy.1 V).1;omega
    have A:=acf (P:=P) (w:=w) (o:=o+i) (vs:=(azR z.cells len).toList) K (acg G T K) D r;obtain ⟨Z,W⟩:=zK (k':=⟨cP k.cells i (uS zl (len*sz)),k.el,k.kind,true⟩) N S T U (vs:=(azR z.cells len).toList) (p:=o+i) ⟨rfl,rfl,aaz G.one q3 _⟩ r (fun Q a2 e0 F R e1 e2=>by
     simp only at F ⊢;exact ach rfl (by rw [L];omega) E F (by simpa using q5 w I _) e2)
    refine ⟨.tuple #[],_,_,_, ?_,by simp only [id,eN,VR],Z,W,fun d y h=>by cases h⟩
    match len,O,A with
    | len+1,_,A=>simp [az1,cW (iJ B),hz,A]
   ·cases h
 ·cases h
theorem aqA (hS:SR P w I ρ m) {t:TypeId} {ts:List TypeId} {ty el:TypeId} (hel:bZ P t=some el) {d x:AV} {out:bR} (h:p7 P el m d x=some out) {dv xv:Value} (hd:VR P w I ρ d dv) (hx:VR P w I ρ x xv) (addr:Value) :
 iK P w I ρ m ((az0 (t::ts).toArray ty #[dv,xv]).run P w) id out addr:=by
 unfold p7 at h
 obtain ⟨sz,hsz,h⟩:=ayQ h
 obtain ⟨⟨new,n⟩,hnew,h⟩:=ayQ h
 obtain ⟨l1,l2,l3,l4⟩:=agj hS hnew hx
 have zero:∀ {base:Option Addr} {len cap:Nat},min n len=0→iK P w I ρ m ((az0 (t::ts).toArray ty #[.slice base len cap,xv]).run P w) id ⟨aC 0,m,none⟩ addr:=by
  intro base len cap h0
  obtain ⟨news,n1,n2,n3⟩:=l4 0 (Nat.zero_le _)
  have hnil:news=[]:=azY (by rw [n1,Nat.zero_mul])
  subst hnil
  have:=ajg (P:=P) (w:=w) (t:=t) (ts:=ts) (ty:=ty) (base:=base) (len:=len) (cap:=cap) hel hsz l1 (by rw [h0];exact n2) (w':=w) (by cases base <;> rfl)
  rw [h0] at this
  exact ⟨_,w,I,ρ,this,by simp only [id,aC,VR];rfl,hS,cL.refl _ _ _ _,fun d y h=>by cases h⟩
 have other:((eE (bP P el) m d).bind fun r=>if min n r.2.1=0 then bL (aC 0) m else none)=some out→iK P w I ρ m ((az0 (t::ts).toArray ty #[dv,xv]).run P w) id out addr:=by
  intro h
  obtain ⟨⟨cs,len,f⟩,hr,h⟩:=ayQ h
  simp only at h
  split at h
  ·rename_i h0
   simp only [zak] at h
   subst h
   obtain ⟨a,cap,rfl,_⟩:=acj hS hr hd
   exact zero h0
  ·cases h
 cases d with
 | sl b off len c f =>
  simp only at h
  obtain ⟨k,hk,h⟩:=ayQ h
  split at h
  ·rename_i hc
   obtain ⟨c1,c2,c3⟩:=hc
   simp only [zak] at h
   subst h
   simp only [VR] at hd
   obtain ⟨g,o,cap,ty',n',s',hb,rfl,hl,hf,hsh,hss,hroom⟩:=hd
   have hB:=hS.blk b k g o hk hb
   obtain ⟨arr,fr,hh,hcells⟩:=hB.cells
   have hmn:min n len≤n:=Nat.min_le_left _ _
   have hml:min n len*sz≤len*sz:=azC _ (Nat.min_le_right _ _)
   have hmn':min n len*sz≤n*sz:=azC _ hmn
   obtain ⟨news,n1,n2,n3⟩:=l4 (min n len) hmn
   have hxl:(new.take (min n len*sz)).length=min n len*sz:=by simp;omega
   have hone:=uU (P:=P) (w:=w) (I:=I) (ρ:=kR (bP P el) ρ) (tQ l3 _) (by rw [n1,hxl]) n3
   have hsz':o+off+news.length≤arr.size:=by
    rw [n1]
    rcases azo (min n len*sz) with h0 | h0
    ·rw [h0]
     have hty:=l8 hh
     rw [hsh] at hty
     simp only [ayX,azh] at hty
     omega
    ·obtain ⟨u,hu⟩:=aay hcells (j:=off+min n len*sz - 1) (by omega)
     have:=(azy.1 hu).1
     omega
   have hw1:=acf (P:=P) (w:=w) (o:=o+off) (vs:=news) hh (acg hB c2 hh) hsz' hone
   have hrun:=ajg (P:=P) (w:=w) (t:=t) (ts:=ts) (ty:=ty) (base:=some ⟨g,o+off,none⟩) (len:=len) (cap:=cap) hel hsz l1 n2 hw1
   obtain ⟨s1,s2⟩:=zK (k':=⟨cP k.cells off (new.take (min n len*sz)),k.el,k.kind,true⟩) hS hk c2 hb (vs:=news) (p:=o+off) ⟨rfl,rfl,aaz hB.one (tQ l3 _) _⟩ hone (fun arr0 fr0 e0 hc0 arr' e1 e2=>by
    simp only [c1] at hc0 ⊢
    exact ach rfl (by omega) (by rw [n1,hxl]) hc0 n3 e2)
   exact ⟨_,_,_,_,hrun,by simp only [id,aC,VR],s1,s2,fun d y h=>by cases h⟩
  ·cases h
 | val _=>exact other h
 | emp _ _=>exact other h
 | tree _ _ _ _=>exact other h
 | agg _=>exact other h
 | tup _=>exact other h
 | tptr _ _=>exact other h
 | ptr _ _=>exact other h
 | clo _ _=>exact other h
theorem aqB {x:AV} {n:Nat} (h:vQ x=some n) {v:Value} (b:VR P w I ρ x v):∃ a cap,v = .slice a n cap:=by
 unfold vQ at h;split at h
 ·simp only [ayX] at h;subst h;simp only [VR] at b;exact ⟨none,0,b⟩
 ·simp only [ayX] at h;subst h;simp only [VR] at b;obtain ⟨g,o,cap,rfl,_⟩:=b;exact ⟨_,_,rfl⟩
 ·simp only [ayX] at h;subst h;simp only [VR] at b;obtain ⟨c,cap,rfl,_⟩:=b;exact ⟨_,_,rfl⟩
 ·simp only [ayX] at h;subst h;simp only [VR] at b;obtain ⟨g,o,cap,ty,d,s,_,rfl,_⟩:=b;exact ⟨_,_,rfl⟩
 ·cases h
theorem aqC {t:TypeId} {a:Nat×TypeId} (h:adu P t=some a):∃ b,P.underlying t=some (.pointer b)∧o6 P b=some a:=by
 unfold adu at h;split at h
 ·exact ⟨_,by assumption,h⟩
 ·cases h
theorem aqD {t ty:TypeId} {x e:AV} (h:lenE P t x=some e) {v:Value} (d:VR P w I ρ x v):mK P w I ρ (az2 #[t] ty #[v]) e:=by
 unfold lenE at h;split at h
 ·split at h
  ·rename_i s hs;simp only [ayX] at h;subst h;simp only [VR] at d;subst d;exact ⟨.int .i64 s.size,by simp [az2,cW (aax hs),goInt],by simp only [aC,VR]⟩
  ·cases h
 ·split at h
  ·rename_i el b;obtain ⟨n,f,rfl⟩:=ayR h;obtain ⟨a,cap,rfl⟩:=aqB f d;exact ⟨.int .i64 n,by simp [az2,cW (iJ b),goInt],by simp only [aC,VR]⟩
  ·split at h
   ·rename_i a c;simp only [ayX] at h;subst h;exact ⟨.int .i64 a.1,by simp [az2,cW (zC c),goInt],by simp only [aC,VR]⟩
   ·rename_i a _ c;simp only [ayX] at h;subst h;obtain ⟨j,i,g⟩:=aqC c;exact ⟨.int .i64 a.1,by simp [az2,cW i,cW (zC g),goInt],by simp only [aC,VR]⟩
   ·cases h
theorem aqE {t:TypeId} (h:adv P t=true):∃ a:Array Field,P.underlying t=some (.struct a)∧∀ f∈a.toList,∃ n,cE P f.type=some n:=by
 unfold adv at h;split at h
 ·rename_i a b;refine ⟨a,b,fun f c => ?_⟩;exact Option.isSome_iff_exists.1 (List.all_eq_true.1 h f c)
 ·cases h
theorem ajh:∀ (l:List Field),(∀ f∈l,∃ n,cE P f.type=some n)→∃ a:List (Nat×Nat),(l.mapM fun f=>(do pure (f.offset,←sizeOf f.type):Sem (Nat×Nat))).run P w = .ok a w∧a.length=l.length∧∀ (i:Nat) (f:Field),l[i]? = some f→∃ n,cE P f.type=some n∧a[i]? = some (f.offset,n)
 | [],_=>⟨[],by simp,rfl,fun i f h=>by simp at h⟩
 | f::l,h=>by
  obtain ⟨n,b⟩:=h f (by simp);obtain ⟨a,c,j,e⟩:=ajh l (fun g d=>h g (by simp [d]));refine ⟨(f.offset,n)::a,by simp [List.mapM_cons,iC b] at c ⊢;simp [c],by simp [j],fun i g hi => ?_⟩;cases i with
  | zero=>simp at hi;subst hi;exact ⟨n,b,rfl⟩
  | succ i=>simpa using e i g (by simpa using hi)
theorem aqF {t:TypeId} {parts:List (Nat×AV)} {q:AV} (h:ab8 P t parts=some q) {b:List (Nat×Value)} (Q:b.length=parts.length)
 (M:∀ (j i:Nat) (q:AV) (O:Nat) (v:Value),parts[j]? = some (i,q)→b[j]? = some (O,v)→i=O∧VR P w I ρ q v):mK P w I ρ (Instr.build t b.toArray) q:=by
 unfold ab8 at h;obtain ⟨z,hz,h⟩:=ayQ h;obtain ⟨u,R,S,W,_⟩:=aaD (w:=w) hz;have g:u.cells.size=(z.map AV.val).length:=by simp [←S]
 have k:eF (z.map AV.val):=fun c hc=>by
  obtain ⟨x,hx,rfl⟩:=azm.1 hc;exact adE (W x hx)
 have m:bC P w I ρ (z.map .val) (fun j=>u.cells[j]?):=by
  have:=ai6 (P:=P) (w:=w) (I:=I) (ρ:=ρ) z;rw [←S] at this ⊢;simpa using this
 split at h
 ·rename_i C;obtain ⟨T,o,F⟩:=aqE C;obtain ⟨cs,l,rfl⟩:=ayR h
  -- the d
  obtain ⟨V,J,a0,K⟩:=ajh (P:=P) (w:=w) T.toList F;obtain ⟨d,s⟩:∃ d:Array (Nat×Nat),d=V.toArray:=⟨_,rfl⟩
  have r:(T.mapM fun f=>(do pure (f.offset,←sizeOf f.type):Sem (Nat×Nat))).run P w = .ok d w:=by
   rw [Array.mapM_eq_mapM_toList,Sem.run_map,J,s];rfl
  obtain ⟨e,G,B,X,L,H⟩:=aaB (P:=P) (w:=w) (I:=I) (ρ:=ρ) (place:=fun i=>d[i]?) (fun i p E=>by
   obtain ⟨fp,y,E⟩:=ayQ E;obtain ⟨n,A,rfl⟩:=ayR E;obtain ⟨a1,f,D,Z,U,Y⟩:=af3 y;rw [o] at D;simp only [ayX,TypeDesc.struct.injEq] at D;subst D;obtain ⟨n',N,q2⟩:=K i f (by simpa using Z);rw [Y,A,ayX] at N;subst N;rw [s,azW,q2,U]) parts b (z.map .val) cs u.cells l Q M g k m
  refine ⟨.agg e, ?_, ?_⟩
  ·simp only [Instr.build,azt,R,azw,cW o,r];simp [G]
  ·simp only [VR];exact ⟨e,rfl,B,L,H⟩
 ·obtain ⟨a,ha,h⟩:=ayQ h;obtain ⟨n,A,h⟩:=ayQ h;obtain ⟨cs,l,rfl⟩:=ayR h;obtain ⟨e,G,B,X,L,H⟩:=aaB (P:=P) (w:=w) (I:=I) (ρ:=ρ) (place:=fun i=>some (i*n,n)) (placeE:=fun i=>some (i*n,n)) (fun _ _ h=>h) parts b (z.map .val) cs u.cells l Q M g k m;refine ⟨.agg e, ?_, ?_⟩
  ·simp [Instr.build,R,cW (zC ha),iC A,G]
  ·simp only [VR];exact ⟨e,rfl,B,L,H⟩
end
section
variable {P:Program} {w:World} {I:Nat→Prop} {ρ:cB} {m:aF}
def fG (P:Program) (w:World) (I:Nat→Prop) (ρ:cB) (m:aF) (a:Act) (r:Result Next) (out:bR):Prop :=
 ∃ v w' b ρ',(r = .ok (.value v) w'∨(r = .ok .skip w'∧v=undef))∧VR P w' b ρ' out.v v∧SR P w' b ρ' out.m∧cL w I ρ m w' b ρ' out.m∧∀ d y,out.wb=some (d,y)→VR P w' b ρ' y (a.tmps.getD d undef)
theorem fG.of_does {a:Act} {s:Sem Value} {out:bR} {addr:Value} (h:iK P w I ρ m (s.run P w) id out addr) (e:∀ d y,out.wb=some (d,y)→addr=a.tmps.getD d undef):fG P w I ρ m a ((do pure (.value (←s)):Sem Next).run P w) out:=by
 obtain ⟨x,w',c,ρ',j,i,f,g,b⟩:=h;exact ⟨x,w',c,ρ',.inl (by simp [j]),i,f,g,fun d y h=>by rw [←e d y h];exact b d y h⟩
theorem fG.of_pur {a:Act} {s:Sem Value} {v:Option AV} {out:bR} (e:SR P w I ρ m) (h:eX v m=some out) (g:∀ b,v=some b→mK P w I ρ s b):fG P w I ρ m a ((do pure (.value (←s)):Sem Next).run P w) out:=by
 unfold eX at h;obtain ⟨b,c,rfl⟩:=ayR h;obtain ⟨x,i,f⟩:=g b c;exact ⟨x,w,I,ρ,.inl (by simp [i]),f,e,cL.refl _ _ _ _,fun d y h=>by cases h⟩
theorem adI {e:bB} {a:Act} (parts:Array (Nat×Operand)):(parts.map fun p=>(p.1,a.eval p.2)).toList.length=(parts.toList.map fun p=>(p.1,opd e p.2)).length:=by simp
theorem adJ {e:bB} {a:Act} (g:ER P w I ρ e a) (parts:Array (Nat×Operand)):∀ (j i:Nat) (d:AV) (f:Nat) (v:Value),(parts.toList.map fun p=>(p.1,opd e p.2))[j]? = some (i,d)→(parts.map fun p=>(p.1,a.eval p.2)).toList[j]? = some (f,v)→i=f∧VR P w I ρ d v:=by
 intro j i d f v b c;rw [azl] at b;rw [Array.toList_map,azl] at c;obtain ⟨p,h,b⟩:=ayR b;rw [h] at c;simp only [az3,ayX,azh] at b c;obtain ⟨rfl,rfl⟩:=b;obtain ⟨rfl,rfl⟩:=c;exact ⟨rfl,d7 g p.2⟩
theorem adK {a:Act} (parts:Array (Nat×Operand)):(parts.map fun (i,x)=>(i,a.eval x))=(parts.map fun p=>(p.1,a.eval p.2)).toList.toArray:=by
 rw [Array.toArray_toList]
theorem aqG (C : SR P w I ρ m) {once : Bool} {e : bB} {a : Act} (A : ER P w I ρ e a) {o : Oper} {out : bR} (h : dG P once e m o.op = some out) (B : ∀ b, m.next ≤ b → b < out.m.next → ρ b = none) :
   fG P w I ρ m a ((execOp a.eval o).run P w) out := by
 obtain ⟨dst, op, type, pos, after, guard⟩ := o;simp only at h;cases op <;> simp only [dG] at h <;> try (cases h; done)
 case move x =>
   simp only [zak] at h; subst h;exact ⟨a.eval x, w, I, ρ, .inl (by simp [execOp]), d7 A x, C, cL.refl _ _ _ _, fun d y h => by cases h⟩
 case assign x =>
   simp only [zak] at h; subst h;exact ⟨a.eval x, w, I, ρ, .inl (by simp [execOp]), d7 A x, C, cL.refl _ _ _ _, fun d y h => by cases h⟩
 case pick c x y =>
   obtain ⟨H, p, rfl⟩ := ayR h;obtain ⟨v, K, h2⟩ := ap2 p (d7 A x) (d7 A y) (d7 A c);refine ⟨v, w, I, ρ, .inl ?_, h2, C, cL.refl _ _ _ _, fun d y h => by cases h⟩;simp only [azt] at K;cases N : (asBool (a.eval c)).run P w with
   | halt x y => rw [N] at K; simp at K
   | ok b w1 =>
     rw [N] at K;simp only [azw, azu, Result.ok.injEq] at K;obtain ⟨rfl, rfl⟩ := K;simp [execOp, N]
 case alloc t =>
   have T : ρ m.next = none := B m.next (ay7 _) (by
     unfold aM at h;obtain ⟨z, hz, h⟩ := ayQ h;simp only [zak] at h;subst h;simp [aF.push])
   have := aqg (addr := undef) C T h (.tuple #[]);refine fG.of_does this (fun d y F => ?_);unfold aM at h;obtain ⟨z, hz, h⟩ := ayQ h;simp only [zak] at h;subst h;cases F
 case box t x =>
   refine fG.of_does (aqh C h B (d7 A x) undef) (fun d y F => ?_);unfold aaw at h;obtain ⟨n, R, h⟩ := ayQ h;split at h
   · split at h
     · obtain ⟨r, hr, h⟩ := ayQ h
       simp only [zak] at h; subst h; cases F
     · simp only [zak] at h; subst h; cases F
   · cases h
 case build t parts =>
   refine fG.of_pur C h fun H p => ?_
   ·
     have := aqF (P := P) (w := w) (I := I) (ρ := ρ) p (adI (e := e) (a := a) parts) (adJ A parts);rw [← adK] at this;exact this
 case buildSlice t len parts =>
   have := aqi C h B (adI (e := e) (a := a) parts) (adJ A parts) undef;rw [← adK] at this;refine fG.of_does this (fun d y F => ?_);unfold p6 at h;obtain ⟨_, _, h⟩ := ayQ h;obtain ⟨_, _, h⟩ := ayQ h;obtain ⟨_, _, h⟩ := ayQ h;split at h
   · obtain ⟨_, _, h⟩ := ayQ h
     split at h
     · obtain ⟨_, _, h⟩ := ayQ h
       simp only [zak] at h; subst h; cases F
     · simp only [zak] at h; subst h; cases F
   · cases h
 case load t x => exact fG.of_pur C h fun H p => aiZ C p (d7 A x)
 case store t x y =>
   obtain ⟨u, w', I', ρ', K, h2, h3, h4, h5⟩ := aqn C h (d7 A y) (d7 A x);refine ⟨undef, w', I', ρ', .inr ⟨by simp [execOp, K], rfl⟩, h2, h3, h4, fun d z F => ?_⟩;have hz := h5 d z F;have L : xM x = some d := by
     unfold aJ at h;split at h
     · obtain ⟨n, R, h⟩ := ayQ h
       obtain ⟨k, O, h⟩ := ayQ h;split at h
       · split at h
         · obtain ⟨d', a1, h⟩ := ayQ h
           split at h
           · obtain ⟨r, hr, h⟩ := ayQ h
             simp only [ayX] at h;subst h;simp only [ayX, azh] at F;rw [a1, F.1]
           · cases h
         · simp only [zak] at h; subst h; cases F
         · obtain ⟨r, hr, h⟩ := ayQ h
           obtain ⟨r2, a2, h⟩ := ayQ h;split at h
           · simp only [zak] at h; subst h; cases F
           · cases h
       · cases h
     · cases h
   cases x <;> simp only [xM] at L
   · simp only [ayX] at L
     subst L;exact hz
   all_goals cases L
 case nilCheck x =>
   obtain ⟨H, p, rfl⟩ := ayR h;have E := d7 A x;refine ⟨a.eval x, w, I, ρ, .inl ?_, ?_, C, cL.refl _ _ _ _, fun d y h => by cases h⟩
   · unfold tP at p
     split at p
     · rename_i D; rw [D] at E; simp only [VR] at E; obtain ⟨g, o, _, E⟩ := E; simp [execOp, E]
     · rename_i D; rw [D] at E; simp only [VR] at E; obtain ⟨g, o, E, _⟩ := E; simp [execOp, E]
     · rename_i D; rw [D] at E; simp only [VR] at E; obtain ⟨vs, E, _⟩ := E; simp [execOp, E]
     · cases p
   · unfold tP at p
     split at p
     · rename_i D; simp only [ayX] at p; subst p; rw [← D]; exact E
     · rename_i D; simp only [ayX] at p; subst p; rw [← D]; exact E
     · rename_i D; simp only [ayX] at p; subst p; rw [← D]; exact E
     · cases p
 case binOp op t x y ty => exact fG.of_pur C h fun H p => ap4 p (d7 A x) (d7 A y)
 case unOp op t x => exact fG.of_pur C h fun H p => ap5 p (d7 A x)
 case convert s d x =>
   refine fG.of_does (ai9 C h B (d7 A x) undef) (fun d' y F => ?_);unfold mJ at h;split at h
   · split at h
     · split at h
       · simp only [zak] at h; subst h; cases F
       · cases h
     · cases h
   · split at h
     · split at h
       · obtain ⟨_, _, h⟩ := ayQ h
         split at h
         · obtain ⟨_, _, h⟩ := ayQ h
           simp only [zak] at h; subst h; cases F
         · cases h
       · cases h
     · split at h
       · simp only [eX] at h
         obtain ⟨_, _, rfl⟩ := ayR h;cases F
       · cases h
 case slice t x lo hi mx =>
   split at h
   case isFalse => cases h
   rename_i G;have X : ∀ b J n c f el sz, opd e x = .sl b J n c f → bZ P t = some el → cE P el = some sz → ∀ g o', ρ b = some (g, o') → ∀ ty n', w.shape? g = some (ty, n') → cE P ty = some sz := by
     intro b J n c f el sz e1 e2 U g o' e4 ty n' V;rw [e1] at G;simp only [slOk, e2] at G;cases N : m.at_ b with
     | none => rw [N] at G; simp at G
     | some k =>
       rw [N] at G;simp only [beq_iff_eq] at G;obtain ⟨arr, fr, q1, _⟩ := (C.blk b k g o' N e4).cells;rw [l8 q1] at V;simp only [ayX, azh] at V;rw [← V.1, G, U]
   obtain ⟨l, hl, h⟩ := ayQ h;obtain ⟨hh, S, h⟩ := ayQ h;obtain ⟨mm, Z, h⟩ := ayQ h;exact fG.of_pur C h fun H p => aqc p (d7 A x) (fun b J n c f el sz e1 e2 U => X b J n c f el sz e1 e2 U) (af6 A hl) (af6 A S) (af6 A Z)
 case fieldAddr s x f => exact fG.of_pur C h fun H p => ap7 p (d7 A x)
 case field t x f => exact fG.of_pur C h fun H p => ap8 p (d7 A x)
 case indexAddr t x i =>
   obtain ⟨k, O, h⟩ := ayQ h;obtain ⟨kd, M⟩ := acd O (d7 A i);exact fG.of_pur C h fun H p => by rw [M]; exact ap9 p (d7 A x) kd
 case index t x i =>
   obtain ⟨k, O, h⟩ := ayQ h;obtain ⟨kd, M⟩ := acd O (d7 A i);exact fG.of_pur C h fun H p => by rw [M]; exact aqa p (d7 A x) kd
 case extract x i => exact fG.of_pur C h fun H p => ap6 p (d7 A x)
 case makeSlice t l c =>
   obtain ⟨n, R, h⟩ := ayQ h;obtain ⟨k, O, h⟩ := ayQ h;obtain ⟨kn, W⟩ := acd R (d7 A l);obtain ⟨kk, Y⟩ := acd O (d7 A c);have q := h;unfold rZ at q;obtain ⟨_, _, q⟩ := ayQ q;obtain ⟨_, _, q⟩ := ayQ q;obtain ⟨_, _, q⟩ := ayQ q;obtain ⟨_, _, q⟩ := ayQ q;split at q
   · simp only [zak] at q
     have T : ρ m.next = none := B m.next (ay7 _) (by rw [← q]; simp [aF.push]);have L := aqj (addr := undef) C h T kn kk;rw [← W, ← Y] at L;exact fG.of_does L (fun d y F => by rw [← q] at F; cases F)
   · cases q
 case makeFunc fn first caps =>
   cases fn <;> simp only at h <;> try (cases h; done)
   rename_i f;split at h
   · rename_i Q
     simp only [zak] at h; subst h;have a0 : first = #[] := Array.eq_empty_of_size_eq_zero Q
     subst a0;refine ⟨.func (.func f) #[] (caps.map a.eval), w, I, ρ, .inl (by simp [execOp, Instr.makeFunc]), ?_, C, cL.refl _ _ _ _, fun d y h => by cases h⟩;simp only [VR];refine ⟨_, rfl, by simp, j6.2 fun j c hj => ?_⟩;rw [azl] at hj;obtain ⟨x, E, rfl⟩ := ayR hj;exact ⟨a.eval x, by simp at E ⊢; exact ⟨x, E, rfl⟩, d7 A x⟩
   · cases h
end
def sF (P:Program) (f:FuncId):Bool:=match P.funcs[f]? with
 | some fn => fn.name != "runtime.NumGoroutine" && fn.body.isSome
 | none=>false
def aR (P:Program) (f:FuncId) (args:List AV) (r:fF):Prop:=sF P f=true ∧
 ∀ (w:World) (I:Nat→Prop) (vs:Array Value),(∀ g,I g→g < w.heap.size)→vs.size=args.length→bC P w I cZ args (fun j=>vs[j]?) →
  Calls P f vs w fun b w'=>∃ v a ρ',b = .returned v∧VR P w' a ρ' r.v v∧SR P w' a ρ' (dT P aF.empty r.rows)∧cL w I cZ aF.empty w' a ρ' (dT P aF.empty r.rows)
def fH (P:Program) (f:FuncId) (args:List AV) (m:aF) (Q:AV→aF→Prop):Prop:=sF P f=true ∧
 ∀ (w:World) (I:Nat→Prop) (ρ:cB) (vs:Array Value),SR P w I ρ m→vs.size=args.length→bC P w I ρ args (fun j=>vs[j]?)→(∀ b,m.next≤b→ρ b=none) →
  Calls P f vs w fun c w'=>∃ v r m' a ρ',c = .returned v∧Q r m'∧VR P w' a ρ' r v∧SR P w' a ρ' m'∧cL w I ρ m w' a ρ' m'∧∀ b,m'.next≤b→ρ' b=none
def aqH (P:Program) (f:FuncId) (args:List AV) (m:aF) (r:AV):Prop :=
 ∀ (w:World) (I:Nat→Prop) (ρ:cB) (vs:Array Value),SR P w I ρ m→vs.size=args.length→bC P w I ρ args (fun j=>vs[j]?)→∃ v,(callFunc f vs).run P w = .ok (.value v) w∧VR P w I ρ r v
section
variable {P:Program} {w w':World} {I I':Nat→Prop} {ρ ρ':cB} {m:aF}
def dS (P:Program) (base:Nat) (r:TypeId×List AV):eR:=⟨if bP P r.1 = .flat then r.2 else iG base r.2,r.1,bP P r.1,true⟩
theorem aji (base:Nat):∀ (rows:List (TypeId×List AV)) (m:aF),(gO P base m rows).next=m.next+rows.length
 | [],m=>rfl
 | r::rows,m=>by rw [gO,aji base rows];simp [aF.push];omega
theorem ajj (base:Nat):∀ (rows:List (TypeId×List AV)) (m:aF) (b:Nat),(gO P base m rows).at_ b=if m.next≤b∧b < m.next+rows.length then (rows[b - m.next]?).map (dS P base) else m.at_ b
 | [],m,b=>by rw [gO,if_neg (by simp)]
 | r::rows,m,b=>by
  have c:(m.push (dS P base r)).next=m.next+1:=rfl;have e:(m.push (dS P base r)).at_ b=if b=m.next then some (dS P base r) else m.at_ b:=rfl
  have f:gO P base m (r::rows)=gO P base (m.push (dS P base r)) rows:=rfl;rw [f,ajj base rows,c,e,List.length_cons];by_cases h:b=m.next
  ·subst h;rw [if_neg (by omega),if_pos (by omega)];simp
  ·by_cases a:m.next+1≤b∧b < m.next+1+rows.length
   ·rw [if_pos a,if_pos (by omega)];obtain ⟨d,g⟩:∃ d,b - m.next=d+1:=⟨b - m.next - 1,by omega⟩
    rw [g,List.getElem?_cons_succ];congr 2;omega
   ·rw [if_neg a,if_neg h,if_neg (by omega)]
theorem ajk (base:Nat):∀ (rows:List (TypeId×List AV)) (m:aF),(gO P base m rows).mm=m.mm
 | [],m=>rfl
 | c::cs,m=>by unfold gO;rw [ajk base cs];rfl
theorem adL (rows:List (TypeId×List AV)) (m:aF):(dT P m rows).mm=m.mm:=ajk _ _ _
theorem zL (rows:List (TypeId×List AV)) (m:aF):(dT P m rows).next=m.next+rows.length:=aji _ _ _
theorem aaE (rows:List (TypeId×List AV)) (m:aF) (b:Nat):(dT P m rows).at_ b=if m.next≤b∧b < m.next+rows.length then (rows[b - m.next]?).map (dS P m.next) else m.at_ b:=ajj _ _ _ _
mutual
theorem aqI:∀ (k:Nat) (av av':AV),i7 av=false→lend k m av=some av'→av'=av
 | k,.val v,av',h,hl=>by unfold lend at hl;simp at hl;exact hl.symm
 | k,.tree _ _ _ _,av',h,hl=>by unfold lend at hl;simp at hl;exact hl.symm
 | k,.tptr _ _,av',h,hl=>by unfold lend at hl;simp at hl;exact hl.symm
 | k,.emp _ _,av',h,hl=>by unfold lend at hl;simp at hl;exact hl.symm
 | k,.agg cs,av',h,hl=>by
  simp only [i7] at h
  unfold lend at hl
  obtain ⟨cs',hc,rfl⟩:=ayR hl
  rw [adM k cs cs' h hc]
 | k,.clo f cs,av',h,hl=>by
  simp only [i7] at h
  unfold lend at hl
  obtain ⟨cs',hc,rfl⟩:=ayR hl
  rw [adM k cs cs' h hc]
 | k,.sl _ _ _ _ _,av',h,hl=>by simp [i7] at h
 | k,.ptr _ _,av',h,hl=>by simp [i7] at h
 | k,.tup cs,av',h,hl=>by unfold lend at hl;cases hl
theorem adM:∀ (k:Nat) (cs cs':List AV),j5 cs=false→d9 k m cs=some cs'→cs'=cs
 | k,[],cs',h,hl=>by unfold d9 at hl;simp at hl;exact hl
 | k,c::cs,cs',h,hl=>by
  simp only [j5,Bool.or_eq_false_iff] at h
  unfold d9 at hl
  obtain ⟨c',hc,hl⟩:=ayQ hl
  obtain ⟨cs'',hcs,rfl⟩:=ayR hl
  rw [aqI k c c' h.1 hc,adM k cs cs'' h.2 hcs]
end
def qA (w:World):Nat→Prop:=fun g=>g < w.heap.size
theorem acl (b:SR P w I ρ m):iI w w I (qA w):=⟨fun g a=>b.lt g a,fun _ _=>rfl,fun _ _ h=>h⟩
theorem SR.ltb (a:SR P w I ρ m) {b:Nat} {k:eR} {g o:Nat} (e:m.at_ b=some k) (d:ρ b=some (g,o)):g < w.heap.size:=by
 obtain ⟨arr,fr,c,_⟩:=(a.blk b k g o e d).cells;exact vU c
mutual
theorem aqJ:∀ (k:Nat) (av av':AV),lend k m av=some av'→d5 av'=d5 av
 | k,.val v,av',hl=>by unfold lend at hl;simp at hl;rw [←hl]
 | k,.tree _ _ _ _,av',hl=>by unfold lend at hl;simp at hl;rw [←hl]
 | k,.tptr _ _,av',hl=>by unfold lend at hl;simp at hl;rw [←hl]
 | k,.emp _ _,av',hl=>by unfold lend at hl;simp at hl;rw [←hl]
 | k,.agg cs,av',hl=>by unfold lend at hl;obtain ⟨cs',hc,rfl⟩:=ayR hl;rfl
 | k,.clo f cs,av',hl=>by unfold lend at hl;obtain ⟨cs',hc,rfl⟩:=ayR hl;rfl
 | 0,.sl _ _ _ _ _,av',hl=>by
  unfold lend at hl
  obtain ⟨x,hx,hl⟩:=ayQ hl
  split at hl
  ·simp at hl;rw [←hl];rfl
  ·cases hl
 | k+1,.sl _ _ _ _ _,av',hl=>by
  unfold lend at hl
  obtain ⟨x,hx,hl⟩:=ayQ hl
  split at hl
  ·simp at hl;rw [←hl];rfl
  ·obtain ⟨cs',hc,rfl⟩:=ayR hl;rfl
  ·cases hl
 | 0,.ptr _ _,av',hl=>by unfold lend at hl;cases hl
 | k+1,.ptr _ _,av',hl=>by
  unfold lend at hl
  obtain ⟨x,hx,hl⟩:=ayQ hl
  split at hl
  ·simp at hl;rw [←hl];rfl
  ·obtain ⟨cs',hc,rfl⟩:=ayR hl;rfl
  ·cases hl
 | k,.tup cs,av',hl=>by unfold lend at hl;cases hl
end
theorem aaF:∀ (k:Nat) (cs a:List AV),d9 k m cs=some a→a.length=cs.length∧(eF cs→eF a)
 | k,[],a,b=>by unfold d9 at b;simp at b;subst b;exact ⟨rfl,fun h=>h⟩
 | k,c::cs,a,b=>by
  unfold d9 at b;obtain ⟨n,i,b⟩:=ayQ b;obtain ⟨d,f,rfl⟩:=ayR b;obtain ⟨l,j⟩:=aaF k cs d f;refine ⟨by simp [l],fun h x e => ?_⟩;rcases az4.1 e with rfl | e
  ·rw [aqJ k c _ i];exact h c (by simp)
  ·exact j (fun y g=>h y (by simp [g])) x e
mutual
theorem aqK (hS:SR P w I ρ m):∀ (k:Nat) (av av':AV) (v:Value),lend k m av=some av'→VR P w I ρ av v→VR P w (qA w) cZ av' v
 | k,.val x,av',v,hl,hv=>by unfold lend at hl;simp at hl;subst hl;simpa only [VR] using hv
 | k,.tree a b c d,av',v,hl,hv=>by
  unfold lend at hl;simp at hl;subst hl
  exact p9 (acl hS) (fun _ _ h=>h) _ _ (zH _ _ rfl hv)
 | k,.tptr a b,av',v,hl,hv=>by
  unfold lend at hl;simp at hl;subst hl
  exact p9 (acl hS) (fun _ _ h=>h) _ _ (zH _ _ rfl hv)
 | k,.emp _ _,av',v,hl,hv=>by unfold lend at hl;simp at hl;subst hl;simpa only [VR] using hv
 | k,.agg cs,av',v,hl,hv=>by
  unfold lend at hl
  obtain ⟨cs',hc,rfl⟩:=ayR hl
  simp only [VR] at hv ⊢
  obtain ⟨vs,h1,h2,h3,h4⟩:=hv
  obtain ⟨l1,l2⟩:=aaF k cs cs' hc
  exact ⟨vs,h1,by rw [h2,l1],l2 h3,aaG hS k cs cs' _ hc h4⟩
 | k,.clo f cs,av',v,hl,hv=>by
  unfold lend at hl
  obtain ⟨cs',hc,rfl⟩:=ayR hl
  simp only [VR] at hv ⊢
  obtain ⟨vs,h1,h2,h4⟩:=hv
  obtain ⟨l1,l2⟩:=aaF k cs cs' hc
  exact ⟨vs,h1,by rw [h2,l1],aaG hS k cs cs' _ hc h4⟩
 | 0,.sl b off len c full,av',v,hl,hv=>by
  unfold lend at hl
  obtain ⟨x,hx,hl⟩:=ayQ hl
  split at hl
  ·rename_i hk
   simp at hl;subst hl
   simp only [VR] at hv ⊢
   obtain ⟨g,o,cap,ty,n,s,hg,rfl,hlc,hf,_⟩:=hv
   have hB:=hS.blk b x g o hx hg
   refine ⟨g,o+off,cap,rfl,hS.ltb hx hg,hlc,hf,lC hB.one _, ?_⟩
   exact iH (lQ (eL (acl hS) (fun _ _ h=>h) _ _ (hB.flatAt hk)) off) fun j _=>by rw [ay0]
  ·cases hl
 | k+1,.sl b off len c full,av',v,hl,hv=>by
  unfold lend at hl
  obtain ⟨x,hx,hl⟩:=ayQ hl
  simp only [VR] at hv
  obtain ⟨g,o,cap,ty,n,s,hg,rfl,hlc,hf,_⟩:=hv
  have hB:=hS.blk b x g o hx hg
  split at hl
  ·rename_i hk
   simp at hl;subst hl
   simp only [VR]
   refine ⟨g,o+off,cap,rfl,hS.ltb hx hg,hlc,hf,lC hB.one _, ?_⟩
   exact iH (lQ (eL (acl hS) (fun _ _ h=>h) _ _ (hB.flatAt hk)) off) fun j _=>by rw [ay0]
  ·obtain ⟨cs',hc,rfl⟩:=ayR hl
   simp only [VR]
   obtain ⟨l1,l2⟩:=aaF k _ cs' hc
   refine ⟨g,o+off,cap,rfl,hS.ltb hx hg,hlc,hf,l2 (lC hB.one _), ?_⟩
   exact iH (aaG hS k _ cs' _ hc (lQ hB.cellsAt off)) fun j _=>by rw [ay0]
  ·cases hl
 | 0,.ptr b off,av',v,hl,hv=>by unfold lend at hl;cases hl
 | k+1,.ptr b off,av',v,hl,hv=>by
  unfold lend at hl
  obtain ⟨x,hx,hl⟩:=ayQ hl
  simp only [VR] at hv
  obtain ⟨g,o,hg,rfl⟩:=hv
  have hB:=hS.blk b x g o hx hg
  split at hl
  ·rename_i hk
   simp at hl;subst hl
   simp only [VR]
   exact ⟨g,o,rfl,hS.ltb hx hg,hB.one,eL (acl hS) (fun _ _ h=>h) _ _ (hB.flatAt hk)⟩
  ·obtain ⟨cs',hc,rfl⟩:=ayR hl
   simp only [VR]
   obtain ⟨l1,l2⟩:=aaF k _ cs' hc
   exact ⟨g,o,rfl,hS.ltb hx hg,l2 hB.one,aaG hS k _ cs' _ hc hB.cellsAt⟩
  ·cases hl
 | k,.tup cs,av',v,hl,hv=>by unfold lend at hl;cases hl
 termination_by k av=>(k,ayT av)
theorem aaG (hS:SR P w I ρ m):∀ (k:Nat) (cs cs':List AV) (get:Nat→Option Value),d9 k m cs=some cs'→bC P w I ρ cs get→bC P w (qA w) cZ cs' get
 | k,[],cs',get,hl,hv=>by unfold d9 at hl;simp at hl;subst hl;simp only [bC]
 | k,c::cs,cs',get,hl,hv=>by
  unfold d9 at hl
  obtain ⟨c',hc,hl⟩:=ayQ hl
  obtain ⟨cs'',hcs,rfl⟩:=ayR hl
  simp only [bC] at hv ⊢
  obtain ⟨⟨v,h1,h2⟩,h3⟩:=hv
  exact ⟨⟨v,h1,aqK hS k c c' v hc h2⟩,aaG hS k cs cs'' _ hcs h3⟩
 termination_by k cs=>(k,ayT cs)
end
end
section
variable {P:Program} {w w':World} {I I':Nat→Prop} {ρ ρ':cB} {m:aF}
def both (ρ ρ':cB) (n k:Nat):cB:=fun b=>if n≤b∧b < n+k then ρ' (b - n) else ρ b
theorem aqL {n k:Nat} (a:∀ b,n≤b→b < n+k→ρ b=none):∀ b x,ρ b=some x→both ρ ρ' n k b=some x:=by
 intro b x h;unfold both;split
 ·rename_i c;rw [a b c.1 c.2] at h;cases h
 ·exact h
theorem adN (n:Nat):∀ cs:List AV,(iG n cs).length=cs.length
 | []=>rfl
 | c::cs=>by simp [iG,adN n cs]
theorem aqM (n:Nat) (a:AV):d5 (shift n a)=d5 a:=by cases a <;> simp [shift,d5]
theorem agn (n:Nat):∀ cs:List AV,eF cs→eF (iG n cs)
 | [],h=>h
 | c::cs,h=>fun x a=>by
  simp only [iG] at a;rcases az4.1 a with rfl | a
  ·rw [aqM];exact h c (by simp)
  ·exact agn n cs (fun y b=>h y (by simp [b])) x a
mutual
theorem ago {n k:Nat} (hk:∀ b x,ρ' b=some x→b < k):∀ (av:AV) (v:Value),VR P w I ρ' av v→VR P w I (both ρ ρ' n k) (shift n av) v
 | .val x,v,hv=>by simpa only [shift,VR] using hv
 | .tree _ _ _ _,v,hv=>by simpa only [shift,VR] using hv
 | .tptr _ _,v,hv=>by simpa only [shift,VR] using hv
 | .emp _ _,v,hv=>by simpa only [shift,VR] using hv
 | .agg cs,v,hv=>by
  simp only [shift,VR] at hv ⊢
  obtain ⟨vs,h1,h2,h3,h4⟩:=hv
  exact ⟨vs,h1,by rw [h2,adN],agn n cs h3,acm hk cs _ h4⟩
 | .tup cs,v,hv=>by
  simp only [shift,VR] at hv ⊢
  obtain ⟨vs,h1,h2,h4⟩:=hv
  exact ⟨vs,h1,by rw [h2,adN],acm hk cs _ h4⟩
 | .sl b off len c f,v,hv=>by
  simp only [shift,VR] at hv ⊢
  obtain ⟨g,o,cap,ty,n',s,hg,h⟩:=hv
  exact ⟨g,o,cap,ty,n',s,by unfold both;rw [if_pos ⟨by omega,by have:=hk b _ hg;omega⟩,Nat.add_sub_cancel_left];exact hg,h⟩
 | .ptr b off,v,hv=>by
  simp only [shift,VR] at hv ⊢
  obtain ⟨g,o,hg,h⟩:=hv
  exact ⟨g,o,by unfold both;rw [if_pos ⟨by omega,by have:=hk b _ hg;omega⟩,Nat.add_sub_cancel_left];exact hg,h⟩
 | .clo f cs,v,hv=>by
  simp only [shift,VR] at hv ⊢
  obtain ⟨vs,h1,h2,h4⟩:=hv
  exact ⟨vs,h1,by rw [h2,adN],acm hk cs _ h4⟩
theorem acm {n k:Nat} (hk:∀ b x,ρ' b=some x→b < k):∀ (cs:List AV) (get:Nat→Option Value),bC P w I ρ' cs get→bC P w I (both ρ ρ' n k) (iG n cs) get
 | [],get,hv=>by simp only [iG,bC]
 | c::cs,get,hv=>by
  simp only [iG,bC] at hv ⊢
  obtain ⟨⟨v,h1,h2⟩,h3⟩:=hv
  exact ⟨⟨v,h1,ago hk c v h2⟩,acm hk cs _ h3⟩
end
mutual
theorem ajl {I1 I2:Nat→Prop}:∀ (av:AV) (v:Value),jX av=true→VR P w I1 ρ av v→VR P w I2 ρ av v
 | .val x,v,h,hv=>by simpa only [VR] using hv
 | .agg cs,v,h,hv=>by
  simp only [jX] at h
  simp only [VR] at hv ⊢
  obtain ⟨vs,h1,h2,h3,h4⟩:=hv
  exact ⟨vs,h1,h2,h3,adO cs _ h h4⟩
 | .tup cs,v,h,hv=>by
  simp only [jX] at h
  simp only [VR] at hv ⊢
  obtain ⟨vs,h1,h2,h4⟩:=hv
  exact ⟨vs,h1,h2,adO cs _ h h4⟩
 | .tree _ _ _ _,v,h,hv=>by simp [jX] at h
 | .tptr _ _,v,h,hv=>by simp [jX] at h
 | .emp _ _,v,h,hv=>by simpa only [VR] using hv
 | .sl _ _ _ _ _,v,h,hv=>by simpa only [VR] using hv
 | .ptr _ _,v,h,hv=>by simp [jX] at h
 | .clo _ _,v,h,hv=>by simp [jX] at h
theorem adO {I1 I2:Nat→Prop}:∀ (cs:List AV) (get:Nat→Option Value),lP cs=true→bC P w I1 ρ cs get→bC P w I2 ρ cs get
 | [],get,h,hv=>by simp only [bC]
 | c::cs,get,h,hv=>by
  simp only [lP,Bool.and_eq_true] at h
  simp only [bC] at hv ⊢
  obtain ⟨⟨v,h1,h2⟩,h3⟩:=hv
  exact ⟨⟨v,h1,ajl c v h.1 h2⟩,adO cs _ h.2 h3⟩
end
mutual
theorem aqN:∀ av:AV,shift 0 av=av
 | .val _=>rfl
 | .tree _ _ _ _=>rfl
 | .tptr _ _=>rfl
 | .emp _ _=>rfl
 | .agg cs=>by simp only [shift,acn cs]
 | .tup cs=>by simp only [shift,acn cs]
 | .sl b _ _ _ _=>by simp only [shift,azn]
 | .ptr b _=>by simp only [shift,azn]
 | .clo _ cs=>by simp only [shift,acn cs]
theorem acn:∀ cs:List AV,iG 0 cs=cs
 | []=>rfl
 | c::cs=>by simp only [iG,aqN c,acn cs]
end
theorem agp (r:TypeId×List AV):dS P 0 r=⟨r.2,r.1,bP P r.1,true⟩:=by
 unfold dS;rw [acn];split <;> rfl
theorem ajm (B:SR P w I ρ m) {W:Nat→Prop} (a1:∀ g,I g→W g) {rows:List (TypeId×List AV)} (E:∀ b,m.next≤b→b < m.next+rows.length→ρ b=none)
 (S:SR P w' I' ρ' (dT P aF.empty rows)) (c:cL w W cZ aF.empty w' I' ρ' (dT P aF.empty rows)) (v:(∀ g,I' g→I g∨w.heap.size≤g)∨∀ r∈rows,lP r.2=true) :
 ∃ F,(∀ g,F g↔I g∨(I' g∧w.heap.size≤g))∧SR P w' F (both ρ ρ' m.next rows.length) (dT P m rows)∧cL w I ρ m w' F (both ρ ρ' m.next rows.length) (dT P m rows):=by
 have y:∀ g,¬ Wr cZ aF.empty g:=by
  rintro g (⟨b,k,o,s,_⟩ | s)
  ·simp [aF.empty] at s
  ·exact q9 s
 have d:∀ g,g < w.heap.size→w'.heap[g]? = w.heap[g]? := fun g a=>c.same g a (y g)
 have X:∀ b x,ρ' b=some x→b < rows.length:=fun b x h=>by
  have:=c.lo b rfl (by rw [h];simp);rw [zL] at this;simp [aF.empty] at this;exact this
 have j:∀ b g o,ρ' b=some (g,o)→w.heap.size≤g:=fun b g o h=>by
  have Y:=X b _ h;have t:(dT P aF.empty rows).at_ b=some (dS P 0 rows[b]):=by
   rw [aaE,if_pos (by simp [aF.empty];exact Y)];simp [aF.empty,azj Y]
  rcases c.own g (.inl ⟨b,_,o,t,rfl,h⟩) with h | h
  ·exact absurd h (y g)
  ·exact h
 have z:=aqL (ρ':=ρ') E;refine ⟨fun g=>I g∨(I' g∧w.heap.size≤g),fun g=>Iff.rfl, ?_⟩;have Q:iI w w' I (fun g=>I g∨(I' g∧w.heap.size≤g)):=⟨fun _ h => .inl h,fun g a=>d g (B.lt g a),c.shape⟩
 have t:∀ b x,(dT P m rows).at_ b=some x→(m.next≤b∧b < m.next+rows.length∧∃ r,rows[b - m.next]? = some r∧(dT P aF.empty rows).at_ (b - m.next)=some (dS P 0 r)∧x=dS P m.next r)∨(¬ (m.next≤b∧b < m.next+rows.length)∧m.at_ b=some x):=by
  intro b x h;rw [aaE] at h;split at h
  ·rename_i H;obtain ⟨r,R,hx⟩:=ayR h;refine .inl ⟨H.1,H.2,r,R, ?_,hx.symm⟩;rw [aaE,if_pos (by simp [aF.empty];omega)];simp [aF.empty,R]
  ·rename_i H;exact .inr ⟨H,h⟩
 have q:∀ b,m.next≤b∧b < m.next+rows.length→both ρ ρ' m.next rows.length b=ρ' (b - m.next):=fun b h=>by unfold both;rw [if_pos h]
 have p:∀ b,¬ (m.next≤b∧b < m.next+rows.length)→both ρ ρ' m.next rows.length b=ρ b:=fun b h=>by unfold both;rw [if_neg h]
 have i:∀ b k g o,m.at_ b=some k→ρ b=some (g,o)→g < w.heap.size:=fun b k g o s e=>B.ltb s e
 refine ⟨⟨fun b x g o s e => ?_,fun J L k1 k2 g o1 o2 s e n C Z => ?_,fun g a => ?_,by rw [adL];exact B.mms.keep Q z (fun g a=>⟨d g (B.mms.lt a),fun h=>h.elim id fun h=>absurd (B.mms.lt a) (by omega)⟩)⟩,⟨c.os,c.tape,c.output,c.size,fun g a _=>d g a,c.shape,fun _ h => .inl h,fun g a => ?_,z,fun b s e => ?_,fun g a => ?_, ?_⟩⟩
 ·rcases t b x s with ⟨l,f,r,R,T,rfl⟩ | ⟨l,f⟩
  ·rw [q b ⟨l,f⟩] at e;have u:=S.blk _ _ g o T e;have a0:=j _ _ _ e;have N:∀ (κ:cB) (cs:List AV) (D:Nat→Option Value),lP cs=lP r.2→bC P w' I' κ cs D→bC P w' (fun g=>I g∨(I' g∧w.heap.size≤g)) κ cs D:=fun κ cs D hn V=>by
    rcases v with v | v
    ·exact eL (⟨fun g a=>(v g a).imp id fun h=>⟨a,h⟩,fun _ _=>rfl,fun _ _ h=>h⟩:iI w' w' I' _) (fun _ _ h=>h) _ _ V
    ·exact adO cs _ (hn.trans (v r (az5 R))) V
   rw [agp] at u;refine ⟨?_, ?_,fun _=>⟨fun A => ?_,(u.wr rfl).2⟩,(fun h=>by cases h),fun _=>u.all1 rfl,fun _=>u.nostr rfl⟩
   ·unfold dS;simp only;split
    ·exact u.one
    ·exact agn _ _ u.one
   ·obtain ⟨arr,fr,e1,O⟩:=u.cells;refine ⟨arr,fr,e1, ?_⟩;unfold dS;simp only at O ⊢;split
    ·rename_i G;rw [if_pos G] at O;exact N _ _ _ rfl O
    ·rename_i G;rw [if_neg G] at O;exact acm X _ _ (N _ _ _ rfl O)
   ·rcases A with A | A
    ·have:=B.lt g A;omega
    ·exact (u.wr rfl).1 A.1
  ·rw [p b l] at e;have u:=B.blk b x g o f e;refine sC Q z u (d g (i b x g o f e)) (fun U A => ?_);rcases A with A | A
   ·exact (u.wr U).1 A
   ·have:=i b x g o f e;omega
 ·rcases t J k1 s with ⟨l,f,r1,_,T,rfl⟩ | ⟨l,f⟩ <;> rcases t L k2 e with ⟨K,M,r2,_,p3,rfl⟩ | ⟨K,M⟩
  ·rw [q J ⟨l,f⟩] at n;rw [q L ⟨K,M⟩] at C;have:=S.inj _ _ _ _ _ _ _ T p3 n C rfl;omega
  ·rw [q J ⟨l,f⟩] at n;rw [p L K] at C;have:=j _ _ _ n;have:=i _ _ _ _ M C;omega
  ·rw [p J l] at n;rw [q L ⟨K,M⟩] at C;have:=j _ _ _ C;have:=i _ _ _ _ f n;omega
  ·rw [p J l] at n;rw [p L K] at C;exact B.inj _ _ _ _ _ _ _ f M n C Z
 ·rcases a with a | a
  ·exact Nat.lt_of_lt_of_le (B.lt g a) c.size
  ·exact S.lt g a.1
 ·rcases a with a | a
  ·exact .inl a
  ·exact .inr (.inr a.2)
 ·unfold both at e;split at e
  ·rename_i H;rw [zL];exact H
  ·exact absurd s e
 ·rcases a with ⟨b,x,o,s,e,n⟩ | a
  ·rcases t b x s with ⟨l,f,_⟩ | ⟨l,f⟩
   ·rw [q b ⟨l,f⟩] at n;exact .inr (j _ _ _ n)
   ·rw [p b l] at n;exact .inl (.inl ⟨b,x,o,f,e,n⟩)
  ·rw [adL] at a;exact .inl (.inr a)
 ·rw [zL];omega
def nN (ρ:cB) (a:List (Nat×Nat)):cB:=fun j=>(a[j]?).bind fun i=>(ρ i.1).map fun x=>(x.1,x.2+i.2)
theorem ajn (ρ:cB) (a:List (Nat×Nat)) (x:List (Nat×Nat)):∀ b y,nN ρ a b=some y→nN ρ (a++x) b=some y:=by
 intro b y h;unfold nN at h ⊢;obtain ⟨i,hi,h⟩:=ayQ h;rw [azd (ay5.1 hi).1,hi];exact h
def vV (P:Program) (w:World) (I:Nat→Prop) (ρ:cB) (m:aF) (a:List (Nat×Nat)) (rows:List (TypeId×List AV)):Prop :=
 rows.length=a.length∧(∀ (j:Nat) (i:Nat×Nat),a[j]? = some i→∃ k r,m.at_ i.1=some k∧k.wr=true∧rows[j]? = some r∧r.1=k.el∧bP P r.1=k.kind∧eF r.2 ∧
  ∀ g o,ρ i.1=some (g,o)→bC P w I (if k.kind = .flat then cZ else nN ρ a) r.2 (fun j=>w.cell? ⟨g,o+i.2+j,none⟩))∧∀ (j c:Nat) (i b:Nat×Nat),a[j]? = some i→a[c]? = some b→i.1=b.1→j=c
theorem ajo {kd:fZ} {b x:List (Nat×Nat)} {cs:List AV} {a:Nat→Option Value} (h:bC P w I (if kd = .flat then cZ else nN ρ b) cs a):bC P w I (if kd = .flat then cZ else nN ρ (b++x)) cs a:=by
 split
 ·rename_i c;rw [if_pos c] at h;exact h
 ·rename_i c;rw [if_neg c] at h;exact eL (adB w I) (ajn ρ _ _) _ _ h
theorem vV.snoc {a:List (Nat×Nat)} {rows:List (TypeId×List AV)} (h:vV P w I ρ m a rows) {b l:Nat} {k:eR} {cs:List AV} (H:m.at_ b=some k) (x:k.wr=true) (B:bP P k.el=k.kind) (K:eF cs)
 (L:∀ g o,ρ b=some (g,o)→bC P w I (if k.kind = .flat then cZ else nN ρ a) cs (fun j=>w.cell? ⟨g,o+l+j,none⟩)) (y:(a.any fun i=>i.1 == b)=false):vV P w I ρ m (a++[(b,l)]) (rows++[(k.el,cs)]):=by
 obtain ⟨u,M,C⟩:=h;have n:∀ (j:Nat) (i:Nat×Nat),a[j]? = some i→i.1≠b:=fun j i c e=>by
  have:=List.any_eq_false.1 y i (az5 c);simp [e] at this
 have d:∀ (j:Nat) (i:Nat×Nat),(a++[(b,l)])[j]? = some i→(a[j]? = some i∧j < a.length)∨(j=a.length∧i=(b,l)):=fun j i c=>by
  rcases azU j a.length with p | p
  ·rw [azd p] at c;exact .inl ⟨c,p⟩
  ·rw [aze p] at c;have:=(ay5.1 c).1;simp at this;have e:j=a.length:=by omega
   subst e;simp at c;exact .inr ⟨rfl,c.symm⟩
 refine ⟨by simp [u],fun j i c => ?_,fun j s i q c f e => ?_⟩
 ·rcases d j i c with ⟨c,p⟩ | ⟨rfl,rfl⟩
  ·obtain ⟨k',r,z,J,E,v,A,G,F⟩:=M j i c;exact ⟨k',r,z,J,by rw [azd (by omega)];exact E,v,A,G,fun g o t=>ajo (F g o t)⟩
  ·exact ⟨k,(k.el,cs),H,x,by rw [←u];simp,rfl,B,K,fun g o t=>ajo (L g o t)⟩
 ·rcases d j i c with ⟨c,p⟩ | ⟨rfl,rfl⟩ <;> rcases d s q f with ⟨f,D⟩ | ⟨rfl,rfl⟩
  ·exact C j s i q c f e
  ·exact absurd e (n j i c)
  ·exact absurd e.symm (n s q f)
  ·rfl
theorem ajp (J:SR P w I ρ m) {b a len c:Nat} {f:Bool} {x:eR} {v:Value} {d:List (Nat×Nat)} {rows:List (TypeId×List AV)} {r:AV×List (Nat×Nat)×List (TypeId×List AV)} (G:m.at_ b=some x) (e:x.kind = .flat) (F:VR P w I ρ (.sl b a len c f) v) (z:vV P w I ρ m d rows)
 (h:(if x.wr=true then (if d.any (fun i=>i.1 == b)=true∨bP P x.el ≠ .flat then none else some (.sl rows.length 0 len c f,d++[(b,a)],rows++[(x.el,x.cells.drop a)])) else some (.tree len c (x.cells.drop a) f,d,rows))=some r) :
 vV P w I ρ m r.2.1 r.2.2∧(∃ x,r.2.1=d++x)∧VR P w I (nN ρ r.2.1) r.1 v∧(d5 (.sl b a len c f)=d5 r.1):=by
 simp only [VR] at F;obtain ⟨g,o,cap,ty,n,s,D,rfl,q,E,u,C,B⟩:=F;have k:=J.blk b x g o G D;split at h
 ·rename_i t;split at h
  ·cases h
  ·rename_i H;obtain ⟨A,y⟩:=not_or.1 H;have p:bP P x.el = .flat:=Decidable.not_not.1 y;simp only [ayX] at h;subst h;refine ⟨z.snoc G t (by rw [p,e]) (lC k.one _) (fun K L l => ?_) ((Bool.not_eq_true _).mp A),⟨_,rfl⟩, ?_,rfl⟩
   ·rw [D,ayX,azh] at l;obtain ⟨rfl,rfl⟩:=l;rw [if_pos e];exact iH (lQ (k.flatAt e) a) fun j _=>by rw [ay0]
   ·simp only [VR];refine ⟨g,o+a,cap,ty,n,s, ?_,rfl,q,E,u,C,by omega⟩;unfold nN;rw [z.1,aze (ay7 _)];simp [D]
 ·rename_i t;simp only [ayX] at h;subst h;refine ⟨z,⟨[],by simp⟩, ?_,rfl⟩;simp only [VR];refine ⟨g,o+a,cap,rfl,k.im (by simpa using t),q,E,lC k.one _, ?_⟩;exact iH (lQ (k.flatAt e) a) fun j _=>by rw [ay0]
mutual
theorem ajq (hS:SR P w I ρ m):∀ (d:Nat) (av:AV) (v:Value) (ids:List (Nat×Nat)) (rows:List (TypeId×List AV)) (r:AV×List (Nat×Nat)×List (TypeId×List AV)),canon P m d ids rows av=some r→VR P w I ρ av v→vV P w I ρ m ids rows →
 vV P w I ρ m r.2.1 r.2.2∧(∃ x,r.2.1=ids++x)∧VR P w I (nN ρ r.2.1) r.1 v∧(d5 av=d5 r.1)
 | d,.val x,v,ids,rows,r,h,hv,hE=>by
  unfold canon at h
  simp only [ayX] at h;subst h
  exact ⟨hE,⟨[],by simp⟩,by simpa only [VR] using hv,rfl⟩
 | d,.tree _ _ _ _,v,ids,rows,r,h,hv,hE=>by
  unfold canon at h
  simp only [ayX] at h;subst h
  exact ⟨hE,⟨[],by simp⟩,by simpa only [VR] using hv,rfl⟩
 | d,.tptr _ _,v,ids,rows,r,h,hv,hE=>by
  unfold canon at h
  simp only [ayX] at h;subst h
  exact ⟨hE,⟨[],by simp⟩,by simpa only [VR] using hv,rfl⟩
 | d,.emp _ _,v,ids,rows,r,h,hv,hE=>by
  unfold canon at h
  simp only [ayX] at h;subst h
  exact ⟨hE,⟨[],by simp⟩,by simpa only [VR] using hv,rfl⟩
 | d,.agg cs,v,ids,rows,r,h,hv,hE=>by
  unfold canon at h
  obtain ⟨s,hs,rfl⟩:=ayR h
  simp only [VR] at hv
  obtain ⟨vs,rfl,h2,h3,h4⟩:=hv
  obtain ⟨e1,e2,e3,e4,e5⟩:=adP hS d cs _ ids rows s hs h4 hE
  refine ⟨e1,e2, ?_,rfl⟩
  simp only [VR]
  exact ⟨vs,rfl,by rw [h2,e4],e5 h3,e3⟩
 | d,.tup cs,v,ids,rows,r,h,hv,hE=>by
  unfold canon at h
  obtain ⟨s,hs,rfl⟩:=ayR h
  simp only [VR] at hv
  obtain ⟨vs,rfl,h2,h4⟩:=hv
  obtain ⟨e1,e2,e3,e4,e5⟩:=adP hS d cs _ ids rows s hs h4 hE
  refine ⟨e1,e2, ?_,rfl⟩
  simp only [VR]
  exact ⟨vs,rfl,by rw [h2,e4],e3⟩
 | 0,.sl b off len c f,v,ids,rows,r,h,hv,hE=>by
  unfold canon at h
  obtain ⟨x,hx,h⟩:=ayQ h
  split at h
  ·rename_i hkf
   exact ajp hS hx hkf hv hE h
  ·cases h
 | d+1,.sl b off len c f,v,ids,rows,r,h,hv,hE=>by
  unfold canon at h
  obtain ⟨x,hx,h⟩:=ayQ h
  split at h
  ·rename_i hkf
   exact ajp hS hx hkf hv hE h
  ·rename_i hkv
   split at h
   case isFalse=>cases h
   rename_i hw
   obtain ⟨s,hs,h⟩:=ayQ h
   split at h
   ·cases h
   ·rename_i hn
    simp only [ayX] at h;subst h
    simp only [VR] at hv
    obtain ⟨g,o,cap,ty,n,sz,hg,rfl,hlc,hf,hsh,hss,hroom⟩:=hv
    have hB:=hS.blk b x g o hx hg
    obtain ⟨e1,⟨y,e2⟩,e3,e4,e5⟩:=adP hS d _ _ ids rows s hs (lQ hB.cellsAt off) hE
    refine ⟨e1.snoc hx hw.1 (by rw [hw.2,hkv]) (e5 (lC hB.one _)) (fun g' o' hg' => ?_) ((Bool.not_eq_true _).mp hn),⟨y++[(b,off)],by rw [e2,azT]⟩, ?_,rfl⟩
    ·rw [hg,ayX,azh] at hg'
     obtain ⟨rfl,rfl⟩:=hg'
     rw [if_neg (by rw [hkv];decide)]
     exact iH e3 fun j _=>by rw [ay0]
    ·simp only [VR]
     refine ⟨g,o+off,cap,ty,n,sz, ?_,rfl,hlc,hf,hsh,hss,by omega⟩
     unfold nN
     rw [e1.1,aze (ay7 _)]
     simp [hg]
  ·cases h
 | d,.ptr _ _,v,ids,rows,r,h,hv,hE=>by unfold canon at h;cases h
 | d,.clo f [],v,ids,rows,r,h,hv,hE=>by
  unfold canon at h
  simp only [ayX] at h;subst h
  exact ⟨hE,⟨[],by simp⟩,by simp only [VR,bC] at hv ⊢;exact hv,rfl⟩
 | d,.clo f (_::_),v,ids,rows,r,h,hv,hE=>by unfold canon at h;cases h
 termination_by d av=>(d,ayT av)
theorem adP (hS:SR P w I ρ m):∀ (d:Nat) (cs:List AV) (get:Nat→Option Value) (ids:List (Nat×Nat)) (rows:List (TypeId×List AV)) (r:List AV×List (Nat×Nat)×List (TypeId×List AV)),gP P m d ids rows cs=some r→bC P w I ρ cs get→vV P w I ρ m ids rows →
 vV P w I ρ m r.2.1 r.2.2∧(∃ x,r.2.1=ids++x)∧bC P w I (nN ρ r.2.1) r.1 get∧r.1.length=cs.length∧(eF cs→eF r.1)
 | d,[],get,ids,rows,r,h,hv,hE=>by
  unfold gP at h
  simp only [ayX] at h;subst h
  exact ⟨hE,⟨[],by simp⟩,by simp only [bC],rfl,fun h=>h⟩
 | d,c::cs,get,ids,rows,r,h,hv,hE=>by
  unfold gP at h
  obtain ⟨s,hs,h⟩:=ayQ h
  obtain ⟨t,ht,rfl⟩:=ayR h
  simp only [bC] at hv
  obtain ⟨⟨v,h1,h2⟩,h3⟩:=hv
  obtain ⟨e1,⟨x,e2⟩,e3,e4⟩:=ajq hS d c v ids rows s hs h2 hE
  obtain ⟨f1,⟨y,f2⟩,f3,f4,f5⟩:=adP hS d cs _ s.2.1 s.2.2 t ht h3 e1
  refine ⟨f1,⟨x++y,by simp only;rw [f2,e2,azT]⟩, ?_,by simp [f4],fun h z hz => ?_⟩
  ·simp only [bC]
   refine ⟨⟨v,h1, ?_⟩,f3⟩
   refine p9 (adB w I) ?_ _ _ e3
   rw [f2]
   exact ajn ρ _ _
  ·rcases az4.1 hz with rfl | hz
   ·rw [←e4];exact h c (by simp)
   ·exact f5 (fun a ha=>h a (by simp [ha])) z hz
 termination_by d cs=>(d,ayT cs)
end
theorem ajr {w0:World} {I0:Nat→Prop} (A:SR P w I ρ m) (a:cL w0 I0 cZ aF.empty w I ρ m) {D:AV} {v:Value} (R:VR P w I ρ D v) {r:fF} (h:jG P m D=some r) :
 ∃ ρ',VR P w I ρ' r.v v∧SR P w I ρ' (dT P aF.empty r.rows)∧cL w0 I0 cZ aF.empty w I ρ' (dT P aF.empty r.rows):=by
 unfold jG at h;obtain ⟨s,hs,rfl⟩:=ayR h;obtain ⟨⟨e1,Z,Q⟩,_,X,_⟩:=ajq A 3 D v [] [] s hs R ⟨rfl,fun j i h=>by simp at h,fun j j' i K h=>by simp at h⟩;have d:∀ b x,(dT P aF.empty s.2.2).at_ b=some x→∀ g o,nN ρ s.2.1 b=some (g,o)→∃ (i:Nat×Nat) (k:eR) (r:TypeId×List AV) (e:Nat),s.2.1[b]? = some i∧m.at_ i.1=some k∧k.wr=true∧ρ i.1=some (g,e)∧o=e+i.2∧r.1=k.el∧bP P r.1=k.kind∧eF r.2 ∧
  bC P w I (if k.kind = .flat then cZ else nN ρ s.2.1) r.2 (fun j=>w.cell? ⟨g,e+i.2+j,none⟩)∧x=⟨r.2,r.1,bP P r.1,true⟩:=by
  intro b x n g o c;unfold nN at c;obtain ⟨i,hi,c⟩:=ayQ c;obtain ⟨y,H,q⟩:=ayR c;simp only [azh] at q;obtain ⟨rfl,rfl⟩:=q;obtain ⟨k,r,E,k3,k4,Y,V,k7,k8⟩:=Z b i hi;rw [aaE] at n;split at n
  ·simp only [aF.empty,Nat.sub_zero,k4,az3,ayX] at n;rw [agp] at n;exact ⟨i,k,r,y.2,hi,E,k3,H,rfl,Y,V,k7,k8 _ _ H,n.symm⟩
  ·simp [aF.empty] at n
 refine ⟨nN ρ s.2.1,X,⟨fun b x g o p f => ?_,fun F G E W g o1 N p f C O h5 => ?_,A.lt,by rw [adL];exact jH.none⟩,⟨a.os,a.tape,a.output,a.size,a.same,a.shape,a.imm,a.back,fun b x h=>by simp [cZ] at h,fun b p f => ?_,fun g c => ?_,by simp [aF.empty]⟩⟩
 ·obtain ⟨i,k,r,e,B,u,l,t,rfl,J,u2,u3,u4,rfl⟩:=d b x p g o f;have z:=A.blk i.1 k g e u t;obtain ⟨arr,fr,L,f2⟩:=z.cells;refine ⟨u3,⟨arr,fr,by simp only [J];exact L, ?_⟩,fun _=>z.wr l,(fun h=>by cases h),fun _=>z.all1 l,fun _ h=>z.nostr l (by simpa only [J] using h)⟩;simp only [u2];refine iH u4 fun j _ => ?_
  simp [World.cell?,L]
 ·obtain ⟨i,k,r,e,B,u,l,t,rfl,_,_,_,_,rfl⟩:=d F E p g o1 C;obtain ⟨K,k',r',a0,S,T,p4,U,rfl,_,_,_,_,rfl⟩:=d G W f g N O;exact Q F G i K B S (A.inj _ _ _ _ _ _ _ u T t U l)
 ·unfold nN at f;cases M:s.2.1[b]? with
  | none=>rw [M] at f;simp at f
  | some i =>
   have:=(ay5.1 M).1;rw [zL];simp [aF.empty];omega
 ·rcases c with ⟨b,x,o,p,f,C⟩ | c
  ·obtain ⟨i,k,r,e,B,u,l,t,rfl,_⟩:=d b x p g o C;exact a.own g (.inl ⟨i.1,k,e,u,l,t⟩)
  ·rw [adL] at c;exact (q9 c).elim
end
end Go.Tw