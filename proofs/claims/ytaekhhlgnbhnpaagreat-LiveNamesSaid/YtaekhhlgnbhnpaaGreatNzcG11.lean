import Derived.Test.YtaekhhlgnbhnpaaGreatNzcG10
import Derived.Lib.Overlaps
set_option linter.defProp false
set_option linter.unusedVariables false
set_option linter.unusedSimpArgs false
open List renaming getElem?_eq_getElem→azj,range_succ→aAT
open Nat renaming le_refl→ay7,add_assoc→ay0,ne_of_gt→aAX
open Option renaming isSome_iff_exists→aAl,bind_some→aAh,map_eq_some_iff→ayY
open SizeOf renaming sizeOf→ayT
namespace Go.Tw
open Go
structure aaT (P:Program) (m:aF) (v:AV) (m':aF) (v':AV):Prop where
 next:m.next≤m'.next
 to:∀ (w:World) (I:Nat→Prop) (ρ:cB) (x:Value),SR P w I ρ m→VR P w I ρ v x→(∀ b,m.next≤b→ρ b=none)→∃ ρ',SR P w I ρ' m'∧VR P w I ρ' v' x∧cL w I ρ m w I ρ' m'∧∀ b,m'.next≤b→ρ' b=none
section
variable {P:Program} {m m' m'':aF} {v v' v'':AV}
theorem aaT.refl (m:aF) (v:AV):aaT P m v m v:=⟨ay7 _,fun w I ρ x b a c=>⟨ρ,b,a,cL.refl _ _ _ _,c⟩⟩
theorem aaT.trans (h:aaT P m v m' v') (a:aaT P m' v' m'' v''):aaT P m v m'' v'':=⟨Nat.le_trans h.next a.next,fun w I ρ x c l f=>by
 obtain ⟨g,i,k,n,b⟩:=h.to w I ρ x c l f;obtain ⟨e,d,p,j,o⟩:=a.to w I g x i k b;exact ⟨e,d,p,n.trans j,o⟩⟩
end
mutual
def fE (P:Program) (rows:List (TypeId×List AV)):Nat→AV→AV
 | 0,.sl b off n c f => .tree n c ((rows.getD b (0,[])).2.drop off) f
 | d+1,.sl b off n c f => .tree n c ((if bP P (rows.getD b (0,[])).1 = .flat then (rows.getD b (0,[])).2 else iD P rows d (rows.getD b (0,[])).2).drop off) f
 | d,.agg cs => .agg (iD P rows d cs)
 | d,.tup cs => .tup (iD P rows d cs)
 | _,.val v => .val v
 | _,.tree a b c d => .tree a b c d
 | _,.tptr a b => .tptr a b
 | _,.emp a b => .emp a b
 | _,.ptr a b => .ptr a b
 | _,.clo f cs => .clo f cs
 termination_by d v=>(d,ayT v)
def iD (P:Program) (rows:List (TypeId×List AV)):Nat→List AV→List AV
 | _,[]=>[]
 | d,c::cs=>fE P rows d c::iD P rows d cs
 termination_by d v=>(d,ayT v)
end
mutual
def iT (P:Program) (rows:List (TypeId×List AV)):Nat→AV→Bool
 | _,.val _=>true
 | _,.tree .. => true
 | _,.tptr .. => true
 | _,.emp .. => true
 | 0,.sl b _ _ _ _=>decide (bP P (rows.getD b (0,[])).1 = .flat)
 | d+1,.sl b _ _ _ _=>decide (bP P (rows.getD b (0,[])).1 = .flat) || j7 P rows d (rows.getD b (0,[])).2
 | d,.agg cs=>j7 P rows d cs
 | d,.tup cs=>j7 P rows d cs
 | _,_=>false
 termination_by d v=>(d,ayT v)
def j7 (P:Program) (rows:List (TypeId×List AV)):Nat→List AV→Bool
 | _,[]=>true
 | d,c::cs=>iT P rows d c && j7 P rows d cs
 termination_by d v=>(d,ayT v)
end
section
variable {P:Program} {w:World} {I:Nat→Prop} {ρ:cB} {rows:List (TypeId×List AV)}
theorem agX (d:Nat):∀ cs:List AV,(iD P rows d cs).length=cs.length
 | []=>by unfold iD;rfl
 | c::cs=>by unfold iD;simp [agX d cs]
theorem arF (d:Nat) (v:AV):d5 (fE P rows d v)=d5 v:=by
 cases v <;> (cases d <;> (unfold fE;rfl))
theorem agY (d:Nat):∀ (cs:List AV),eF cs→eF (iD P rows d cs)
 | [],h=>by unfold iD;exact h
 | c::cs,h=>fun x a=>by
  unfold iD at a;rcases List.mem_cons.1 a with rfl | a
  ·rw [arF];exact h c (by simp)
  ·exact agY d cs (fun y b=>h y (by simp [b])) x a
def aaU (ρ:cB) (g:Nat):Prop:=∃ b o,ρ b=some (g,o)
theorem v7 (f:SR P w I ρ (dT P aF.empty rows)) (h:∀ b x,ρ b=some x→b < rows.length) {b g o:Nat} (d:ρ b=some (g,o)):∃ r,rows.getD b (0,[])=r∧BR P w I ρ ⟨r.2,r.1,bP P r.1,true⟩ g o:=by
 have a:=h b _ d;have c:(dT P aF.empty rows).at_ b=some (dS P 0 rows[b]):=by
  rw [aaE,if_pos (by simp [aF.empty];exact a)];simp [aF.empty,azj a]
 have e:=f.blk b _ g o c d;rw [agp] at e;exact ⟨rows[b],by simp [List.getD_eq_getElem?_getD,azj a],e⟩
theorem agZ:iI w w I (fun g=>I g∨aaU ρ g):=⟨fun _ h => .inl h,fun _ _=>rfl,fun _ _ h=>h⟩
theorem alA {r:TypeId×List AV} {g o a:Nat} (b:BR P w I ρ ⟨r.2,r.1,bP P r.1,true⟩ g o) (c:bP P r.1 = .flat):bC P w (fun g=>I g∨aaU ρ g) cZ (r.2.drop a) (fun j=>w.cell? ⟨g,o+a+j,none⟩):=by
 have d:=lQ (BR.flatAt b c) a;exact iH (eL agZ (fun _ _ h=>h) _ _ d) fun j _=>by rw [ay0]
mutual
theorem alB (hS:SR P w I ρ (dT P aF.empty rows)) (hk:∀ b x,ρ b=some x→b < rows.length):∀ (d:Nat) (av:AV) (v:Value),iT P rows d av=true→VR P w I ρ av v→VR P w (fun g=>I g∨aaU ρ g) cZ (fE P rows d av) v
 | d,.val x,v,_,hv=>by unfold fE;simpa only [VR] using hv
 | d,.tree n c cs f,v,_,hv=>by
  rw [show fE P rows d (.tree n c cs f) = .tree n c cs f by cases d <;> (unfold fE;rfl)]
  exact p9 agZ (fun _ _ h=>h) _ _ (zH (.tree n c cs f) v rfl hv)
 | d,.tptr o cs,v,_,hv=>by
  rw [show fE P rows d (.tptr o cs) = .tptr o cs by cases d <;> (unfold fE;rfl)]
  exact p9 agZ (fun _ _ h=>h) _ _ (zH (.tptr o cs) v rfl hv)
 | d,.emp _ _,v,_,hv=>by unfold fE;simpa only [VR] using hv
 | d,.agg cs,v,h,hv=>by
  unfold iT at h
  unfold fE
  simp only [VR] at hv ⊢
  obtain ⟨vs,h1,h2,h3,h4⟩:=hv
  exact ⟨vs,h1,by rw [h2,agX],agY d cs h3,aea hS hk d cs _ h h4⟩
 | d,.tup cs,v,h,hv=>by
  unfold iT at h
  unfold fE
  simp only [VR] at hv ⊢
  obtain ⟨vs,h1,h2,h4⟩:=hv
  exact ⟨vs,h1,by rw [h2,agX],aea hS hk d cs _ h h4⟩
 | 0,.sl b off n c f,v,h,hv=>by
  unfold iT at h
  unfold fE
  simp only [VR] at hv ⊢
  obtain ⟨g,o,cap,ty,n',s,hg,rfl,h1,h2,_⟩:=hv
  obtain ⟨r,hr,hB⟩:=v7 hS hk hg
  rw [hr] at h ⊢
  exact ⟨g,o+off,cap,rfl,.inr ⟨b,o,hg⟩,h1,h2,lC hB.one _,alA hB (of_decide_eq_true h)⟩
 | d+1,.sl b off n c f,v,h,hv=>by
  unfold iT at h
  unfold fE
  simp only [VR] at hv ⊢
  obtain ⟨g,o,cap,ty,n',s,hg,rfl,h1,h2,_⟩:=hv
  obtain ⟨r,hr,hB⟩:=v7 hS hk hg
  rw [hr] at h ⊢
  by_cases hf:bP P r.1 = .flat
  ·rw [if_pos hf]
   exact ⟨g,o+off,cap,rfl,.inr ⟨b,o,hg⟩,h1,h2,lC hB.one _,alA hB hf⟩
  ·rw [if_neg hf]
   rw [decide_eq_false hf,Bool.false_or] at h
   refine ⟨g,o+off,cap,rfl,.inr ⟨b,o,hg⟩,h1,h2,lC (agY d _ hB.one) _, ?_⟩
   have h3:=lQ (aea hS hk d r.2 _ h hB.cellsAt) off
   exact iH h3 fun j _=>by rw [ay0]
 | d,.ptr _ _,v,h,hv=>by unfold iT at h;cases h
 | d,.clo _ _,v,h,hv=>by unfold iT at h;cases h
 termination_by d av=>(d,ayT av)
theorem aea (hS:SR P w I ρ (dT P aF.empty rows)) (hk:∀ b x,ρ b=some x→b < rows.length):∀ (d:Nat) (cs:List AV) (get:Nat→Option Value),j7 P rows d cs=true→bC P w I ρ cs get→bC P w (fun g=>I g∨aaU ρ g) cZ (iD P rows d cs) get
 | d,[],get,_,hv=>by unfold iD;simp only [bC]
 | d,c::cs,get,h,hv=>by
  unfold j7 at h
  simp only [Bool.and_eq_true] at h
  unfold iD
  simp only [bC] at hv ⊢
  obtain ⟨⟨v,h1,h2⟩,h3⟩:=hv
  exact ⟨⟨v,h1,alB hS hk d c v h.1 h2⟩,aea hS hk d cs _ h.2 h3⟩
 termination_by d cs=>(d,ayT cs)
end
theorem uB {f:FuncId} {args:List AV} {r:fF} (d:Nat) (h:aR P f args r) (A:iT P r.rows d r.v=true):aR P f args ⟨fE P r.rows d r.v,[]⟩:=⟨h.1,fun w I vs z p t=>(h.2 w I vs z p t).mono fun D w'=>by
 rintro ⟨v,u,ρ',rfl,y,q,e⟩;have j:∀ g,¬ Wr cZ aF.empty g:=by
  rintro g (⟨b,k,o,c,_⟩ | c)
  ·simp [aF.empty] at c
  ·exact q9 c
 have s:∀ b x,ρ' b=some x→b < r.rows.length:=fun b x h=>by
  have:=e.lo b rfl (by rw [h];simp);rw [zL] at this;simp [aF.empty] at this;exact this
 have m:∀ b x,ρ' b=some x→∃ k,(dT P aF.empty r.rows).at_ b=some k∧k.wr=true:=fun b x h=>by
  have i:=s b x h;exact ⟨dS P 0 r.rows[b],by rw [aaE,if_pos (by simp [aF.empty];exact i)];simp [aF.empty,azj i],rfl⟩
 have l:∀ g,aaU ρ' g→w.heap.size≤g:=by
  rintro g ⟨b,o,i⟩;obtain ⟨k,c,n⟩:=m b _ i;rcases e.own g (.inl ⟨b,k,o,c,n,i⟩) with h | h
  ·exact absurd h (j g)
  ·exact h
 refine ⟨v,(fun g=>u g∨aaU ρ' g),cZ,rfl,alB q s d r.v v A y,⟨fun b k g o h=>by simp [dT,gO,aF.empty] at h,fun b B k k' g o C h=>by simp [dT,gO,aF.empty] at h,fun g a => ?_,jH.none⟩,⟨e.os,e.tape,e.output,e.size,e.same,e.shape,fun g a => .inl (e.imm g a),fun g a => ?_,fun _ _ h=>h,fun b c n=>absurd c n,fun g a => ?_,ay7 _⟩⟩
 ·rcases a with a | ⟨b,o,i⟩
  ·exact q.lt g a
  ·obtain ⟨k,c,n⟩:=m b _ i;exact q.ltb c i
 ·rcases a with a | a
  ·exact e.back g a
  ·exact .inr (.inr (l g a))
 ·rcases a with ⟨b,k,o,c,_⟩ | a
  ·simp [dT,gO,aF.empty] at c
  ·exact (q9 a).elim⟩
end
def bD (n:Nat) (cells:List AV):AV:=if n=0 then aN else .tree n n cells false
theorem dY (n:Nat) (cells:List AV):aZ (bD n cells) n cells:=by
 unfold bD;split
 ·rename_i h;exact ⟨.inl ⟨rfl,h⟩⟩
 ·exact ⟨.inr (.inr ⟨n,false,rfl,ay7 _⟩)⟩
theorem aaV {k n:Nat} {cells:List AV}:shift k (bD n cells)=bD n cells:=by
 unfold bD;split <;> simp [shift,aN]
theorem alC {P:Program} {t:TypeId} {n:Nat} {cells:List AV} (h:(bZ P t).isSome=true):lenE P t (bD n cells)=some (.val (.int .i64 (n:Nat))):=(dY n cells).len' h
theorem alD {P:Program} {t:TypeId} {n k:Nat} {cells:List AV} (h:(bZ P t).isSome=true):nL P t k (bD n cells)=(bZ P t).bind fun el=>(cE P el).bind fun sz=>if k < n then some (.tptr (k*sz) cells) else none:=(dY n cells).addr' h
theorem aaW {n:Nat} {cells:List AV}:plain (bD n cells)=true:=(dY n cells).plain
theorem alE {P:Program} {m:aF} {t:TypeId} {n:Nat} {cells:List AV}:slOk P m t (bD n cells)=true:=(dY n cells).slOk
theorem alF {P:Program} {d c:Bool} {m:aF} {t:TypeId} {n:Nat} {cells:List AV} {lo hi mx:Option AV}:sliceX P d c m t (bD n cells) lo hi mx=(dB lo).bind fun lo=>(dB hi).bind fun hi=>(dB mx).bind fun mx=>eX (mH P t lo hi mx (bD n cells)) m:=(dY n cells).sliceX
def sJ:=(⟨@alF,@aaV,@alC,@alD,@alE⟩:_∧_∧_∧_∧_)
theorem alG {P:Program} (el:TypeId) (n:Nat) (cells:List AV):fE P (fU el n cells).rows 0 (fU el n cells).v=bD n cells:=by
 unfold fU bD;split <;> (unfold fE;simp [aN])
theorem alH {P:Program} {el:TypeId} (a:bP P el = .flat) (n:Nat) (cells:List AV):iT P (fU el n cells).rows 0 (fU el n cells).v=true:=by
 unfold fU;split <;> (unfold iT;simp [aN,a])
structure x3 (m:aF) (v:AV) (n:Nat) (cells:List AV):Prop where
 form:aZ v n cells∨∃ b off c f k,v = .sl b off n c f∧m.at_ b=some k∧k.kind = .flat∧k.cells.drop off=cells∧n≤c
section
variable {P:Program} {m:aF} {v:AV} {n:Nat} {cells:List AV}
theorem x3.to {m':aF} (h:x3 m v n cells) (j:∀ b k,m.at_ b=some k→∃ wr,m'.at_ b=some ⟨k.cells,k.el,k.kind,wr⟩):x3 m' v n cells:=by
 rcases h.form with h | ⟨b,a,c,f,k,o,l,e,g,d⟩
 ·exact ⟨.inl h⟩
 ·obtain ⟨wr,i⟩:=j b k l;exact ⟨.inr ⟨b,a,c,f,_,o,i,e,g,d⟩⟩
theorem arG (h:x3 m v n cells) (k:Nat):∃ d,lend k m v=some d∧aZ d n cells:=by
 rcases h.form with h | ⟨b,a,c,f,k',rfl,i,g,rfl,e⟩
 ·exact ⟨v,(uW k v h.plain).1,h⟩
 ·refine ⟨.tree n c (k'.cells.drop a) f, ?_,⟨.inr (.inr ⟨c,f,rfl,e⟩)⟩⟩;cases k <;> (unfold lend;simp [i,g])
theorem lend1 {a:AV} (h:x3 m a n cells):∃ b,d9 3 m [a]=some [b]∧aZ b n cells:=by
 obtain ⟨b,d,c⟩:=arG h 3;refine ⟨b, ?_,c⟩;unfold d9;rw [d];unfold d9;rfl
theorem lend2 {a:AV} (c:plain a=true) (h:x3 m v n cells):∃ b,d9 3 m [a,v]=some [a,b]∧aZ b n cells:=by
 obtain ⟨b,e,d⟩:=lend1 h;refine ⟨b, ?_,d⟩;unfold d9;rw [(uW 3 a c).1,e];rfl
theorem x3.len (h:x3 m v n cells) {t:TypeId} (d:(bZ P t).isSome=true):lenE P t v=some (.val (.int .i64 (n:Nat))):=by
 rcases h.form with h | ⟨b,e,c,f,k,rfl,_⟩
 ·exact h.len' d
 ·obtain ⟨el,a⟩:=aAl.1 d;simp [lenE,a,vQ,aC]
end
def cI:AV→Option Nat
 | .sl b _ _ _ _=>some b
 | _=>none
theorem cH {v:AV} {n:Nat} {cs:List AV} (h:aZ v n cs) (k:Nat):shift k v=v:=by
 rcases h.form with ⟨rfl,_⟩ | ⟨_,_,rfl,_⟩ | ⟨_,_,rfl,_⟩ <;> (try unfold aN) <;> (unfold shift;rfl)
theorem cG.keep {kd:fZ} {m m':aF} {el:TypeId} {sz n:Nat} {v:AV} {cells:List AV} (h:cG kd m el sz v n cells) (a:m.next≤m'.next) (e:∀ b k,cI v=some b→m.at_ b=some k→m'.at_ b=some k):cG kd m' el sz v n cells:=by
 refine ⟨?_,h.len⟩;rcases h.form with a | ⟨b,rfl,d,f,c⟩
 ·exact .inl a
 ·exact .inr ⟨b,rfl,e b _ rfl d,by omega,c⟩
theorem cG.put_kind {kd:fZ} {m:aF} {el:TypeId} {sz n:Nat} {v:AV} {cells:List AV} (h:cG kd m el sz v n cells) {j:Nat} {k:eR} {x:Option eR} (a:m.at_ j=some k) (f:k.kind≠kd):cG kd (m.put j x) el sz v n cells:=by
 refine ⟨?_,h.len⟩;rcases h.form with g | ⟨b,rfl,c,e,d⟩
 ·exact .inl g
 ·refine .inr ⟨b,rfl, ?_,e,d⟩;rw [aO,if_neg ?_]
  ·exact c
  ·rintro rfl;rw [c] at a;cases a;exact f rfl
theorem cG.ne_kind {kd:fZ} {m:aF} {el:TypeId} {sz n:Nat} {v:AV} {cells:List AV} (h:cG kd m el sz v n cells) {j:Nat} {k:eR} (c:m.at_ j=some k) (e:k.kind≠kd):cI v≠some j:=by
 intro a;rcases h.form with ⟨rfl,_⟩ | ⟨b,rfl,d,_⟩
 ·cases a
 ·injection a with a;subst a;rw [d] at c;cases c;exact e rfl
theorem cG.sl {kd:fZ} {m:aF} {el:TypeId} {sz n:Nat} {v:AV} {cells:List AV} (h:cG kd m el sz v n cells) (e:0 < n):∃ b,v = .sl b 0 n n false∧m.at_ b=some ⟨cells,el,kd,true⟩∧b < m.next:=by
 rcases h.form with ⟨_,f,_⟩ | ⟨b,d,c,a,_⟩
 ·omega
 ·exact ⟨b,d,c,a⟩
theorem cG.put_ne {kd:fZ} {m:aF} {el:TypeId} {sz n:Nat} {v:AV} {cells:List AV} (h:cG kd m el sz v n cells) {j:Nat} {x:Option eR} (a:cI v≠some j):cG kd (m.put j x) el sz v n cells:=by
 refine h.keep (ay7 _) fun b k c d => ?_
 rw [aO,if_neg (by rintro rfl;exact a c)];exact d
theorem cG.one {kd:fZ} {m:aF} {el:TypeId} {sz n:Nat} {v:AV} {cells:List AV} (h:cG kd m el sz v n cells):d5 v=true:=by
 rcases h.form with ⟨rfl,_⟩ | ⟨b,rfl,_⟩ <;> rfl
theorem cG.ok {kd:fZ} {m:aF} {el:TypeId} {sz n:Nat} {v:AV} {cells:List AV} (h:cG kd m el sz v n cells):g8 v=true:=by
 rcases h.form with ⟨rfl,_⟩ | ⟨b,rfl,_⟩ <;> rfl
theorem cG.cells {kd:fZ} {m:aF} {el:TypeId} {sz n:Nat} {v:AV} {cells:List AV} (h:cG kd m el sz v n cells):v.cells=[v]:=by
 rcases h.form with ⟨rfl,_⟩ | ⟨b,rfl,_⟩ <;> rfl
theorem uY {P:Program} {kd:fZ} {el:TypeId} {m:aF} {v x:AV} {K:bR→Prop} {sz y n cnt:Nat} {zl:List Value} {cells new:List AV} (c:bP P el=kd) (t:cG kd m el sz v n cells) (o:cE P el=some sz) (p:lB P el=some y) (i:gN P el=some zl) (e:zl.length=sz) (d:f9 P el sz m x=some (new,cnt)) (r:new.length=cnt*sz) (s:(n+cnt)*y≤140737488355328) (q:n+cnt≤140737488355328)
 (g:∀ l m',cG kd m' el sz l (n+cnt) (cells++new)→m.next≤m'.next→(∀ j k,m.at_ j=some k→j < m.next→cI v≠some j→m'.at_ j=some k)→(∀ j,cI l=some j→j=m.next∨cI v=some j)→m'.mm=m.mm→K ⟨l,m',none⟩):eO (gA P el m v x) K:=by
 have a:=t.len;rcases t.form with ⟨rfl,rfl,rfl⟩ | ⟨b,rfl,C,w,z⟩
 ·by_cases u:cnt=0
  ·subst u;have A:new=[]:=List.eq_nil_of_length_eq_zero (by omega);subst A;have:gA P el m aN x=some ⟨aN,m,none⟩:=by simp [gA,o,p,i,d,eE,aN,c,e,bL]
   rw [this];exact g _ _ fC (ay7 _) (fun _ _ h _ _=>h) (fun _ h => .inr h) rfl
  ·have:gA P el m aN x=some ⟨.sl m.next 0 (0+cnt) (0+cnt) false,m.push ⟨new,el,kd,true⟩,none⟩:=by
    simp only [gA,o,p,i,d,eE,aN,c,aAh,s,q,e,and_self,if_true,if_neg u];simp [bL]
   rw [this];exact g _ _ ⟨.inr ⟨m.next,rfl,by rw [aT,if_pos rfl];rfl,by rw [bM];omega,by omega⟩,by simp [r]⟩ (by rw [bM];omega) (fun j k h B _=>by rw [aT,if_neg (by omega)];exact h) (fun j h => .inl (by injection h with h;exact h.symm)) rfl
 ·have:gA P el m (.sl b 0 n n false) x=some ⟨.sl m.next 0 (n+cnt) (n+cnt) false,(m.put b none).push ⟨cells++new,el,kd,true⟩,none⟩:=by
   simp only [gA,o,p,i,d,eE,C,c,aAh,s,q,e,and_self,if_true];simp [bL,a,vS]
  rw [this];refine g _ _ ⟨.inr ⟨m.next,rfl,by rw [aT,bX,if_pos rfl],by rw [bM,bX];omega,by omega⟩,by simp [a,r,Nat.add_mul]⟩ (by rw [bM,bX];omega) (fun j k h B f => ?_) (fun j h => .inl (by injection h with h;exact h.symm)) rfl;rw [aT,bX,if_neg (by omega),aO,if_neg (by rintro rfl;exact f rfl)];exact h
theorem x4 {P:Program} {kd:fZ} {el:TypeId} {m:aF} {v x:AV} {K:bR→Prop} {sz y n cnt:Nat} {zl:List Value} {cells new:List AV} (f:bP P el=kd) (r:cG kd m el sz v n cells) (s:cE P el=some sz) (t:lB P el=some y) (l:gN P el=some zl) (h:zl.length=sz) (g:f9 P el sz m x=some (new,cnt)) (p:new.length=cnt*sz) (q:(n+cnt)*y≤140737488355328) (o:n+cnt≤140737488355328)
 (i:∀ e m',cG kd m' el sz e (n+cnt) (cells++new)→m.next≤m'.next→(∀ j k,m.at_ j=some k→j < m.next→cI v≠some j→m'.at_ j=some k)→(∀ j,cI e=some j→j=m.next∨cI v=some j)→K ⟨e,m',none⟩):eO (gA P el m v x) K:=uY f r s t l h g p q o fun e m' a b c d _=>i e m' a b c d
theorem ag0 {P:Program} {kd:fZ} {el:TypeId} {m:aF} {x:AV} {sz y cnt:Nat} {zl:List Value} {new:List AV} (a:bP P el=kd) (h:cE P el=some sz) (g:lB P el=some y) (e:gN P el=some zl) (c:zl.length=sz) (b:f9 P el sz m x=some (new,cnt)) (i:cnt*y≤140737488355328) (d:cnt≤140737488355328) (f:0 < cnt) :
 gA P el m (.tree 0 0 [] true) x=some ⟨.sl m.next 0 cnt cnt false,m.push ⟨new,el,kd,true⟩,none⟩:=by
 simp only [gA,h,g,e,b,eE,a,aAh];simp [bL,c,i,d,aAX f]
theorem cG.other {kd d:fZ} {m m':aF} {el el':TypeId} {sz e n p:Nat} {v g:AV} {cells a:List AV} (h:cG kd m el sz v n cells) (o:cG d m el' e g p a) (q:kd≠d) (s:m.next≤m'.next) (c:∀ j k,m.at_ j=some k→j < m.next→cI g≠some j→m'.at_ j=some k):cG kd m' el sz v n cells:=by
 refine ⟨?_,h.len⟩;rcases h.form with r | ⟨b,rfl,f,l,i⟩
 ·exact .inl r
 ·exact .inr ⟨b,rfl,c b _ f l (o.ne_kind f q),by omega,i⟩
def zS (P:Program) (c:AV):Prop:=∀ (m:aF) (k:Nat) (a:List (Nat×Nat)) (rows:List (TypeId×List AV)),canon P m k a rows c=some (c,a,rows)
theorem aeb {P:Program} (v:Value):zS P (.val v):=fun m k a rows=>by cases k <;> (unfold canon;rfl)
theorem arH {P:Program} (n c:Nat) (cs:List AV) (f:Bool):zS P (.tree n c cs f):=fun m k a rows=>by cases k <;> (unfold canon;rfl)
theorem arI {P:Program} (n:Nat) (cs:List AV):zS P (bD n cs):=by
 unfold bD;split
 ·exact aeb _
 ·exact arH _ _ _ _
theorem aec {P:Program} (m:aF) (k:Nat) (a:List (Nat×Nat)) (rows:List (TypeId×List AV)):∀ (cs:List AV),(∀ c∈cs,zS P c)→gP P m k a rows cs=some (cs,a,rows)
 | [],_=>by cases k <;> (unfold gP;rfl)
 | c::cs,h=>by
  have e:=h c (by simp) m k a rows;have d:=aec m k a rows cs fun x b=>h x (by simp [b])
  cases k <;> (unfold gP;simp [e,d])
theorem arJ {P:Program} {m:aF} {el:TypeId} {sz n:Nat} {v:AV} {cells:List AV} (a:bP P el = .var) (h:cG .var m el sz v n cells) (hs:∀ c∈cells,zS P c):∃ d,canon P m 3 [] [] v=some ((fU el n cells).v,d,(fU el n cells).rows):=by
 rcases h.form with ⟨rfl,rfl,rfl⟩ | ⟨b,rfl,g,e,f⟩
 ·exact ⟨[],by unfold aN canon;rfl⟩
 ·refine ⟨[(b,0)], ?_⟩;have i:=aec m 2 [] [] cells hs;unfold canon;simp [g,fU,aAX f,a,i]
theorem arK {P:Program} {m:aF} {t el el':TypeId} {sz n:Nat} {x:Value} {v:AV} {cells:List AV} {z:List Value} (h:Own m el' sz v n cells) (o:tO x=true) (e:bZ P t=some el) (d:cE P el=some 2) (a:gN P el=some z) (i:z.length=2):∃ c,tZ P false true m t 1 [(0,.agg [.val x,v])]=some ⟨.tree 1 1 [.val x,bD n cells] true,c,none⟩∧c.next=m.next∧∀ j,cI v≠some j→c.at_ j=m.at_ j:=by
 match z,i with
 | [z1,z2],_ =>
 rcases h.form with ⟨rfl,rfl,rfl⟩ | ⟨b,rfl,l,f,k⟩
 ·refine ⟨m, ?_,rfl,fun _ _=>rfl⟩;have:gF P m t 1 [(0,.agg [.val x,aN])]=some ⟨.tree 1 1 [.val x,aN] true,m,none⟩:=by
   simp [gF,e,d,a,jF,aAT,iR,g8,cP,AV.cells,j5,i7,bL,aN]
  rw [agR (by rw [this];rfl),this];rfl
 ·refine ⟨m.put b (some ⟨cells,el',.flat,false⟩), ?_,rfl,fun j g => ?_⟩
  ·have:gF P m t 1 [(0,.agg [.val x,.sl b 0 n n false])]=none:=by
    simp [gF,e,d,a,jF,aAT,iR,g8,cP,AV.cells,j5,i7]
   rw [ak7 this];simp [xU,e,d,a,jF,aAT,iR,g8,cP,AV.cells,fzs,fz,l,bL,bD,aAX k]
  ·rw [aO,if_neg (by rintro rfl;exact g rfl)]
theorem cG.setM {kd:fZ} {m:aF} {el:TypeId} {sz n:Nat} {v:AV} {cells:List AV} (h:cG kd m el sz v n cells) (mm:Maps):cG kd (m.setM mm) el sz v n cells:=⟨h.form,h.len⟩
theorem arL {P:Program} {m:aF} {t el:TypeId} {a:Value} {x:AV} {z:List Value} (d:bP P el = .var) (i:tO a=true) (h:d5 x=true) (e:x.cells=[x]) (g:bZ P t=some el) (f:cE P el=some 2) (b:gN P el=some z) (c:z.length=2):p6 P m t 1 [(0,.agg [.val a,x])]=some ⟨.sl m.next 0 1 1 true,m.push ⟨[.val a,x],el,.var,true⟩,none⟩:=by
 match z,c with
 | [z1,z2],_ =>
  simp [p6,d,g,f,b,jF,aAT,iR,g8,cP,AV.cells,bL]
section
variable {P:Program} {t:TypeId} {k off b:Nat} {cs:List AV}
theorem alI (h:bZ P t=none):nL P t k (.tptr off cs)=(o6 P t).bind fun a=>(cE P a.2).bind fun sz=>if k < a.1 then some (.tptr (off+k*sz) cs) else none:=by simp [nL,h]
theorem alJ (h:bZ P t=none):nL P t k (.ptr b off)=(o6 P t).bind fun a=>(cE P a.2).bind fun sz=>if k < a.1 then some (.ptr b (off+k*sz)) else none:=by simp [nL,h]
theorem iW {n c:Nat} {f:Bool} (h:(bZ P t).isSome=true):nL P t k (.sl b off n c f)=(bZ P t).bind fun el=>(cE P el).bind fun sz=>if k < n then some (.ptr b (off+k*sz)) else none:=by
 obtain ⟨el,a⟩:=aAl.1 h;simp [nL,a]
theorem alK:aav P t k (.agg cs)=(o6 P t).bind fun a=>(cE P a.2).bind fun sz=>if k < a.1 then oJ P a.2 cs (k*sz) else none:=rfl
def bH:=(⟨@alI,@alJ,@alK,@iW⟩:_∧_∧_∧_)
end
mutual
def fzT:Nat→aF→AV→Option AV
 | _,_,.val v=>some (.val v)
 | _,_,.tree n c cs f=>some (.tree n c cs f)
 | _,_,.tptr o cs=>some (.tptr o cs)
 | _,_,.emp c f=>some (.emp c f)
 | k,m,.agg cs=>(oO k m cs).map .agg
 | k,m,.tup cs=>(oO k m cs).map .tup
 | 0,m,.sl b off len c full=>(m.at_ b).bind fun x=>if x.kind = .flat∧x.wr=true then some (.tree len c (x.cells.drop off) full) else none
 | k+1,m,.sl b off len c full=>(m.at_ b).bind fun x=>if x.wr=true then (match x.kind with
  | .flat=>some (.tree len c (x.cells.drop off) full)
  | .var=>(oO k m (x.cells.drop off)).map fun cs => .tree len c cs full
  | .hole=>none) else none
 | _,_,_=>none
 termination_by k _ v=>(k,ayT v)
def oO:Nat→aF→List AV→Option (List AV)
 | _,_,[]=>some []
 | k,m,c::cs=>(fzT k m c).bind fun c'=>(oO k m cs).map (c'::·)
 termination_by k _ v=>(k,ayT v)
end
theorem i8 {k:Nat} {m:aF}:oO k m []=some []:=by cases k <;> (rw [oO])
theorem dM {k:Nat} {m:aF} {c:AV} {cs:List AV}:oO k m (c::cs)=(fzT k m c).bind fun a=>(oO k m cs).map (a::·):=by cases k <;> (rw [oO])
theorem gB {k:Nat} {m:aF} {v:Value}:fzT k m (.val v)=some (.val v):=by cases k <;> (rw [fzT])
theorem zT {k:Nat} {m:aF} {n c:Nat} {cs:List AV} {f:Bool}:fzT k m (.tree n c cs f)=some (.tree n c cs f):=by cases k <;> (rw [fzT])
theorem j8 {k:Nat} {m:aF} {cs:List AV}:fzT k m (.tup cs)=(oO k m cs).map .tup:=by cases k <;> (rw [fzT])
theorem aaX {k:Nat} {m:aF} {cs:List AV}:fzT k m (.agg cs)=(oO k m cs).map .agg:=by cases k <;> (rw [fzT])
theorem uC {k:Nat} {m:aF} {b a len c:Nat} {f:Bool} {cells:List AV} {el:TypeId} (h:m.at_ b=some ⟨cells,el,.flat,true⟩):fzT k m (.sl b a len c f)=some (.tree len c (cells.drop a) f):=by
 cases k <;> (rw [fzT];simp [h])
theorem aed {k:Nat} {m:aF} {b a len c:Nat} {f:Bool} {cells cs:List AV} {el:TypeId} (h:m.at_ b=some ⟨cells,el,.var,true⟩) (d:oO k m (cells.drop a)=some cs):fzT (k+1) m (.sl b a len c f)=some (.tree len c cs f):=by
 rw [fzT];simp [h,d]
theorem acA {k:Nat} {m:aF} {v:AV} {n:Nat} {cs:List AV} (h:aZ v n cs):fzT k m v=some v:=by
 rcases h.form with ⟨rfl,_⟩ | ⟨_,_,rfl,_⟩ | ⟨_,_,rfl,_⟩ <;> (cases k <;> (first | (unfold aN;rw [fzT]) | rw [fzT]))
section
variable {P:Program} {w:World} {I:Nat→Prop} {ρ:cB} {m:aF}
def aee (I:Nat→Prop) (ρ:cB) (m:aF) (g:Nat):Prop:=I g∨∃ b k o,m.at_ b=some k∧k.wr=true∧ρ b=some (g,o)
theorem aef:iI w w I (aee I ρ m):=⟨fun _ h => .inl h,fun _ _=>rfl,fun _ _ h=>h⟩
mutual
theorem arM:∀ (k:Nat) (av av':AV),fzT k m av=some av'→d5 av'=d5 av
 | k,.val v,av',hl=>by rw [gB] at hl;cases hl;rfl
 | k,.tree _ _ _ _,av',hl=>by rw [zT] at hl;cases hl;rfl
 | k,.tptr _ _,av',hl=>by unfold fzT at hl;simp at hl;rw [←hl]
 | k,.emp _ _,av',hl=>by unfold fzT at hl;simp at hl;rw [←hl]
 | k,.agg cs,av',hl=>by rw [aaX] at hl;obtain ⟨cs',hc,rfl⟩:=ayR hl;rfl
 | k,.tup cs,av',hl=>by rw [j8] at hl;obtain ⟨cs',hc,rfl⟩:=ayR hl;rfl
 | 0,.sl b off len c full,av',hl=>by
  rw [fzT] at hl
  obtain ⟨x,hx,hl⟩:=ayQ hl
  split at hl
  ·cases hl;rfl
  ·cases hl
 | k+1,.sl b off len c full,av',hl=>by
  rw [fzT] at hl
  obtain ⟨x,hx,hl⟩:=ayQ hl
  split at hl
  ·split at hl
   ·cases hl;rfl
   ·obtain ⟨cs',hc,rfl⟩:=ayR hl;rfl
   ·cases hl
  ·cases hl
 | k,.ptr _ _,av',hl=>by cases k <;> (unfold fzT at hl;cases hl)
 | k,.clo _ _,av',hl=>by cases k <;> (unfold fzT at hl;cases hl)
end
theorem aeg:∀ (k:Nat) (cs a:List AV),oO k m cs=some a→a.length=cs.length∧(eF cs→eF a)
 | k,[],a,b=>by rw [i8] at b;cases b;exact ⟨rfl,fun h=>h⟩
 | k,c::cs,a,b=>by
  rw [dM] at b;obtain ⟨n,i,b⟩:=ayQ b;obtain ⟨d,f,rfl⟩:=ayR b;obtain ⟨l,j⟩:=aeg k cs d f;refine ⟨by simp [l],fun h x e => ?_⟩;rcases List.mem_cons.1 e with rfl | e
  ·rw [arM k c _ i];exact h c (by simp)
  ·exact j (fun y g=>h y (by simp [g])) x e
mutual
theorem alL (hS:SR P w I ρ m):∀ (k:Nat) (av av':AV) (v:Value),fzT k m av=some av'→VR P w I ρ av v→VR P w (aee I ρ m) cZ av' v
 | k,.val x,av',v,hl,hv=>by rw [gB] at hl;cases hl;simpa only [VR] using hv
 | k,.tree a b c d,av',v,hl,hv=>by
  rw [zT] at hl;cases hl
  exact p9 aef (fun _ _ h=>h) _ _ (zH _ _ rfl hv)
 | k,.tptr a b,av',v,hl,hv=>by
  unfold fzT at hl;simp at hl;subst hl
  exact p9 aef (fun _ _ h=>h) _ _ (zH _ _ rfl hv)
 | k,.emp _ _,av',v,hl,hv=>by unfold fzT at hl;simp at hl;subst hl;simpa only [VR] using hv
 | k,.agg cs,av',v,hl,hv=>by
  rw [aaX] at hl
  obtain ⟨cs',hc,rfl⟩:=ayR hl
  simp only [VR] at hv ⊢
  obtain ⟨vs,h1,h2,h3,h4⟩:=hv
  obtain ⟨l1,l2⟩:=aeg k cs cs' hc
  exact ⟨vs,h1,by rw [h2,l1],l2 h3,aeh hS k cs cs' _ hc h4⟩
 | k,.tup cs,av',v,hl,hv=>by
  rw [j8] at hl
  obtain ⟨cs',hc,rfl⟩:=ayR hl
  simp only [VR] at hv ⊢
  obtain ⟨vs,h1,h2,h4⟩:=hv
  obtain ⟨l1,l2⟩:=aeg k cs cs' hc
  exact ⟨vs,h1,by rw [h2,l1],aeh hS k cs cs' _ hc h4⟩
 | 0,.sl b off len c full,av',v,hl,hv=>by
  rw [fzT] at hl
  obtain ⟨x,hx,hl⟩:=ayQ hl
  split at hl
  ·rename_i hk
   cases hl
   simp only [VR] at hv ⊢
   obtain ⟨g,o,cap,ty,n,s,hg,rfl,hlc,hf,_⟩:=hv
   have hB:=hS.blk b x g o hx hg
   refine ⟨g,o+off,cap,rfl,.inr ⟨b,x,o,hx,hk.2,hg⟩,hlc,hf,lC hB.one _, ?_⟩
   exact iH (lQ (eL aef (fun _ _ h=>h) _ _ (hB.flatAt hk.1)) off) fun j _=>by rw [ay0]
  ·cases hl
 | k+1,.sl b off len c full,av',v,hl,hv=>by
  rw [fzT] at hl
  obtain ⟨x,hx,hl⟩:=ayQ hl
  simp only [VR] at hv
  obtain ⟨g,o,cap,ty,n,s,hg,rfl,hlc,hf,_⟩:=hv
  have hB:=hS.blk b x g o hx hg
  split at hl
  ·rename_i hwr
   split at hl
   ·rename_i hk
    cases hl
    simp only [VR]
    refine ⟨g,o+off,cap,rfl,.inr ⟨b,x,o,hx,hwr,hg⟩,hlc,hf,lC hB.one _, ?_⟩
    exact iH (lQ (eL aef (fun _ _ h=>h) _ _ (hB.flatAt hk)) off) fun j _=>by rw [ay0]
   ·obtain ⟨cs',hc,rfl⟩:=ayR hl
    simp only [VR]
    obtain ⟨l1,l2⟩:=aeg k _ cs' hc
    refine ⟨g,o+off,cap,rfl,.inr ⟨b,x,o,hx,hwr,hg⟩,hlc,hf,l2 (lC hB.one _), ?_⟩
    exact iH (aeh hS k _ cs' _ hc (lQ hB.cellsAt off)) fun j _=>by rw [ay0]
   ·cases hl
  ·cases hl
 | k,.ptr _ _,av',v,hl,hv=>by cases k <;> (unfold fzT at hl;cases hl)
 | k,.clo _ _,av',v,hl,hv=>by cases k <;> (unfold fzT at hl;cases hl)
 termination_by k av=>(k,ayT av)
theorem aeh (hS:SR P w I ρ m):∀ (k:Nat) (cs cs':List AV) (get:Nat→Option Value),oO k m cs=some cs'→bC P w I ρ cs get→bC P w (aee I ρ m) cZ cs' get
 | k,[],cs',get,hl,hv=>by rw [i8] at hl;cases hl;simp only [bC]
 | k,c::cs,cs',get,hl,hv=>by
  rw [dM] at hl
  obtain ⟨c',hc,hl⟩:=ayQ hl
  obtain ⟨cs'',hcs,rfl⟩:=ayR hl
  simp only [bC] at hv ⊢
  obtain ⟨⟨v,h1,h2⟩,h3⟩:=hv
  exact ⟨⟨v,h1,alL hS k c c' v hc h2⟩,aeh hS k cs cs'' _ hcs h3⟩
 termination_by k cs=>(k,ayT cs)
end
theorem d6 {f:FuncId} {args:List AV} {r:AV} (h:fH P f args aF.empty fun v m=>∃ k,fzT k m v=some r):aR P f args ⟨r,[]⟩:=⟨h.1,fun w I vs u j p=>(h.2 w I cZ vs ⟨fun b k g o h=>by simp [aF.empty] at h,fun b x k k' g o y h=>by simp [aF.empty] at h,u,jH.none⟩ j p (fun _ _=>rfl)).mono fun B w'=>by
 rintro ⟨v,A,m',q,ρ',rfl,⟨k,z⟩,s,l,c,_⟩;have e:∀ g,¬ Wr cZ aF.empty g:=by
  rintro g (⟨b,k,o,d,_⟩ | d)
  ·simp [aF.empty] at d
  ·exact q9 d
 have i:∀ g,(∃ b k o,m'.at_ b=some k∧k.wr=true∧ρ' b=some (g,o))→w.heap.size≤g:=by
  intro g a;rcases c.own g (.inl a) with h | h
  ·exact absurd h (e g)
  ·exact h
 refine ⟨v,aee q ρ' m',cZ,rfl,alL l k A r v z s,⟨fun b k g o h=>by simp [dT,gO,aF.empty] at h,fun b x k k' g o y h=>by simp [dT,gO,aF.empty] at h,fun g a => ?_,jH.none⟩,⟨c.os,c.tape,c.output,c.size,c.same,c.shape,fun g a => .inl (c.imm g a),fun g a => ?_,fun _ _ h=>h,fun b d n=>absurd d n,fun g a => ?_,ay7 _⟩⟩
 ·rcases a with a | ⟨b,k,o,d,n,t⟩
  ·exact l.lt g a
  ·exact l.ltb d t
 ·rcases a with a | a
  ·exact c.back g a
  ·exact .inr (.inr (i g a))
 ·rcases a with ⟨b,k,o,d,_⟩ | a
  ·simp [dT,gO,aF.empty] at d
  ·exact (q9 a).elim⟩
theorem sK {f:FuncId} {args:List AV} {m:aF} {Q Q':AV→aF→Prop} (h:fH P f args m Q) (e:∀ r m',Q r m'→Q' r m'):fH P f args m Q':=⟨h.1,fun w I ρ vs a b c d=>(h.2 w I ρ vs a b c d).mono fun g w' ⟨v,r,m',I',ρ',e1,e2,e3⟩=>⟨v,r,m',I',ρ',e1,e _ _ e2,e3⟩⟩
theorem nR {f:FuncId} {args:List AV} {Q:AV→aF→Prop} {K:bR→Prop} (h:fH P f args m Q) (a:∀ r m',Q r m'→K ⟨r,m',none⟩):nO P false f args m K := .inr (.inl ⟨rfl,sK h a⟩)
theorem rC {f:FuncId} {args:List AV} {r:AV} {m':aF} {d:Bool} {K:bR→Prop} (h:fH P f args m fun v b=>v=r∧b=m') (a:K ⟨r,m',none⟩):nO P d f args m K := .inr (.inr (.inl ⟨r,m',h,a⟩))
end
section
variable {P:Program}
theorem arN {r:Option bR} {K a:bR→Prop} (b:∀ o,K o→a o) (h:eO r K):eO r a:=by
 unfold eO at h ⊢;split at h
 ·exact b _ h
 ·exact h
theorem arO {d:Bool} {f:FuncId} {args:List AV} {m:aF} {K i:bR→Prop} (e:∀ o,K o→i o) (h:nO P d f args m K):nO P d f args m i:=by
 rcases h with ⟨a,r,c,b,g,j⟩ | ⟨l,h⟩ | ⟨r,m',c,b⟩ | ⟨r,c,b⟩ | ⟨a,k,r,c,b,g⟩
 ·exact .inl ⟨a,r,c,b,g,e _ j⟩
 ·exact .inr (.inl ⟨l,sK h fun r m' h=>e _ h⟩)
 ·exact .inr (.inr (.inl ⟨r,m',c,e _ b⟩))
 ·exact .inr (.inr (.inr (.inl ⟨r,c,e _ b⟩)))
 ·exact .inr (.inr (.inr (.inr ⟨a,k,r,c,b,e _ g⟩)))
theorem arP {f:FuncId} {args:List AV} {m:aF} {K a:bR→Prop} (j:∀ o,K o→a o) (h:zM P f args m K):zM P f args m a:=by
 obtain ⟨r,i,g,c,d,b,e⟩:=h;exact ⟨r,i,g,c,d,b,j _ e⟩
theorem arQ {d c:Bool} {m:aF} {args:List AV} {K b:bR→Prop} (e:∀ o,K o→b o) {x:AV} (h:nP P d c m args K x):nP P d c m args b x:=by
 cases x with
 | clo g a =>
  unfold nP at h ⊢;simp only at h ⊢;split at h
  ·exact arP e h
  ·exact arO e h
 | _=>exact h.elim
theorem arR {m:aF} {K a:bR→Prop} (c:∀ o,K o→a o) (h:aaK m K):aaK m a:=fun g b=>c _ (h g b)
theorem arS {m:aF} {t:TypeId} {x:AV} {K a:bR→Prop} (f:∀ o,K o→a o) (h:aaL P m t x K):aaL P m t x a:=by
 obtain ⟨c,g,d,b⟩:=h;exact ⟨c,g,d,fun r e=>f _ (b r e)⟩
theorem arT {m:aF} {x:AV} {K c:bR→Prop} (d:∀ o,K o→c o) (h:aaM m x K):aaM m x c:=by
 obtain ⟨i,k,g,f⟩:=h;exact ⟨i,k,fun h=>d _ (g h),fun j e a b=>d _ (f j e a b)⟩
theorem arU {d once:Bool} {e:bB} {m:aF} {ty:TypeId} {K b:bR→Prop} (a:∀ o,K o→b o) {op:Op} (h:cC P d once e m ty K op):cC P d once e m ty b op:=by
 unfold cC at h ⊢;split at h
 all_goals first
  | exact arN a h
  | exact arQ a h
  | exact h.elim
  | exact ⟨h.1,arR a h.2⟩
  | exact ⟨h.1,arS a h.2⟩
  | exact ⟨h.1,arT a h.2⟩
theorem ag1 {once:Nat→Bool} {d:Bool} {a:Array Oper} {Q Q':bB→aF→Prop} (c:∀ e m,Q e m→Q' e m):∀ (l:List Oper) (e:bB) (m:aF),iL P once d a Q l e m→iL P once d a Q' l e m
 | [],e,m,h=>c e m h
 | o::rest,e,m,h=>by
  rw [ajX] at h ⊢;split at h
  ·rename_i b;rw [if_pos b];exact arU (fun out f=>⟨f.1,ag1 c rest _ _ f.2⟩) h
  ·rename_i b;rw [if_neg b];exact ag1 c rest _ _ h
theorem aei {K a:bB→aF→Prop} {Q Q':Ex→bB→aF→Prop} (c:∀ e m,K e m→a e m) (b:∀ x e m,Q x e m→Q' x e m):∀ x e m,qB K Q x e m→qB a Q' x e m:=by
 intro x e m h;cases x with
 | normal=>exact c e m h
 | exit i=>exact b _ e m h
 | ret=>exact b _ e m h
theorem aej {id:Nat} {Q Q':Ex→bB→aF→Prop} (a:∀ x e m,Q x e m→Q' x e m):∀ x e m,o8 id Q x e m→o8 id Q' x e m:=by
 intro x e m h;cases x with
 | normal=>exact a _ e m h
 | exit i =>
  simp only [o8] at h ⊢;split at h
  ·rename_i hi;rw [if_pos hi];exact a _ e m h
  ·rename_i hi;rw [if_neg hi];exact a _ e m h
 | ret=>exact a _ e m h
theorem alM {once:Nat→Bool} {n:Nat}:∀ (c:Code) (Q Q':Ex→bB→aF→Prop) (e:bB) (m:aF),(∀ x e m,Q x e m→Q' x e m)→eB P once n c Q e m→eB P once n c Q' e m:=by
 intro c
 induction c with
 | skip=>exact fun Q Q' e m g h=>g _ e m h
 | label l=>exact fun Q Q' e m g h=>g _ e m h
 | region id t d=>exact fun Q Q' e m g h=>ag1 (g .normal) _ e m h
 | seq x y j i=>exact fun Q Q' e m g h=>j _ _ e m (aei (fun e m h=>i _ _ e m g h) g) h
 | cond c x y j i =>
  intro Q Q' e m g h;simp only [eB] at h ⊢;unfold aaP at h ⊢;split at h
  ·exact ⟨fun a=>j _ _ e m g (h.1 a),fun a=>i _ _ e m g (h.2 a)⟩
  ·exact h
 | block id b o=>exact fun Q Q' e m g h=>o _ _ e m (aej g) h
 | loop b o =>
  intro Q Q' e m g h;obtain ⟨J,k,q,r⟩:=h;exact ⟨J,k,q,fun n e m p=>o _ _ e m (aei (fun _ _ h=>h) g) (r n e m p)⟩
 | exit id=>exact fun Q Q' e m g h=>g _ e m h
 | ret=>exact fun Q Q' e m g h=>g _ e m h
 | scope b o=>exact fun Q Q' e m g h=>o _ _ e m g h
 | goto l=>exact fun Q Q' e m g h=>h.elim
 | refuse s=>exact fun Q Q' e m g h=>h.elim
 | rangeFunc f ps x y=>exact fun Q Q' e m g h=>h.elim
theorem x5 {once:Nat→Bool} {n id:Nat} {b:Code} {K:bB→aF→Prop} {Q:Ex→bB→aF→Prop} {e:bB} {m:aF} (R:bB→aF→Prop) (a:∀ e m,R e m→K e m) (c:zN (eB P once n b) (o8 id (qB R Q)) e m):zN (eB P once n b) (o8 id (qB K Q)) e m :=
 alM (.loop b) _ _ e m (aej (aei a fun _ _ _ h=>h)) c
end
end Go.Tw
namespace Go.Tw
open Go
def zam:=(⟨@bH,@za⟩:_∧_)
end Go.Tw
