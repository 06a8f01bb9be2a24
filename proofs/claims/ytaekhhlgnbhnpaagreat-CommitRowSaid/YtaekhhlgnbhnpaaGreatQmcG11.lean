import Derived.Test.YtaekhhlgnbhnpaaGreatQmcG10
import Derived.Lib.Overlaps
set_option linter.defProp false
set_option linter.unusedVariables false
set_option linter.unusedSimpArgs false
open List renaming getElem?_eq_getElem→azm,range_succ→aAW
open Nat renaming le_refl→aza,add_assoc→ay3,ne_of_gt→aA0
open Option renaming isSome_iff_exists→aAo,bind_some→aAk,map_eq_some_iff→ay1
open SizeOf renaming sizeOf→ayW
namespace Go.Tw
open Go
structure abS (P:Program) (m:aF) (v:AV) (m':aF) (v':AV):Prop where
 next:m.next≤m'.next
 to:∀ (w:World) (I:Nat→Prop) (ρ:cA) (x:Value),SR P w I ρ m→VR P w I ρ v x→(∀ b,m.next≤b→ρ b=none)→∃ ρ',SR P w I ρ' m'∧VR P w I ρ' v' x∧cM w I ρ m w I ρ' m'∧∀ b,m'.next≤b→ρ' b=none
section
variable {P:Program} {m m' m'':aF} {v v' v'':AV}
theorem abS.refl (m:aF) (v:AV):abS P m v m v:=⟨aza _,fun w I ρ x c b a=>⟨ρ,c,b,cM.refl _ _ _ _,a⟩⟩
theorem abS.trans (h:abS P m v m' v') (a:abS P m' v' m'' v''):abS P m v m'' v'':=⟨Nat.le_trans h.next a.next,fun w I ρ x g n b=>by
 obtain ⟨l,k,p,o,f⟩:=h.to w I ρ x g n b;obtain ⟨d,c,i,j,e⟩:=a.to w I l x k p f;exact ⟨d,c,i,o.trans j,e⟩⟩
end
mutual
def fZ (P:Program) (rows:List (TypeId×List AV)):Nat→AV→AV
 | 0,.sl b off n c f => .tree n c ((rows.getD b (0,[])).2.drop off) f
 | d+1,.sl b off n c f => .tree n c ((if bK P (rows.getD b (0,[])).1 = .flat then (rows.getD b (0,[])).2 else iP P rows d (rows.getD b (0,[])).2).drop off) f
 | d,.agg cs => .agg (iP P rows d cs)
 | d,.tup cs => .tup (iP P rows d cs)
 | _,.val v => .val v
 | _,.tree a b c d => .tree a b c d
 | _,.tptr a b => .tptr a b
 | _,.emp a b => .emp a b
 | _,.ptr a b => .ptr a b
 | _,.clo f cs => .clo f cs
 termination_by d v=>(d,ayW v)
def iP (P:Program) (rows:List (TypeId×List AV)):Nat→List AV→List AV
 | _,[]=>[]
 | d,c::cs=>fZ P rows d c::iP P rows d cs
 termination_by d v=>(d,ayW v)
end
mutual
def jH (P:Program) (rows:List (TypeId×List AV)):Nat→AV→Bool
 | _,.val _=>true
 | _,.tree .. => true
 | _,.tptr .. => true
 | _,.emp .. => true
 | 0,.sl b _ _ _ _=>decide (bK P (rows.getD b (0,[])).1 = .flat)
 | d+1,.sl b _ _ _ _=>decide (bK P (rows.getD b (0,[])).1 = .flat) || kV P rows d (rows.getD b (0,[])).2
 | d,.agg cs=>kV P rows d cs
 | d,.tup cs=>kV P rows d cs
 | _,_=>false
 termination_by d v=>(d,ayW v)
def kV (P:Program) (rows:List (TypeId×List AV)):Nat→List AV→Bool
 | _,[]=>true
 | d,c::cs=>jH P rows d c && kV P rows d cs
 termination_by d v=>(d,ayW v)
end
section
variable {P:Program} {w:World} {I:Nat→Prop} {ρ:cA} {rows:List (TypeId×List AV)}
theorem ag7 (d:Nat):∀ cs:List AV,(iP P rows d cs).length=cs.length
 | []=>by unfold iP;rfl
 | c::cs=>by unfold iP;simp [ag7 d cs]
theorem ash (d:Nat) (v:AV):dL (fZ P rows d v)=dL v:=by
 cases v <;> (cases d <;> (unfold fZ;rfl))
theorem ag8 (d:Nat):∀ (cs:List AV),dY cs→dY (iP P rows d cs)
 | [],h=>by unfold iP;exact h
 | c::cs,h=>fun x a=>by
  unfold iP at a;rcases List.mem_cons.1 a with rfl | a
  ·rw [ash];exact h c (by simp)
  ·exact ag8 d cs (fun y b=>h y (by simp [b])) x a
def abT (ρ:cA) (g:Nat):Prop:=∃ b o,ρ b=some (g,o)
theorem qR (f:SR P w I ρ (eB P aF.empty rows)) (h:∀ b x,ρ b=some x→b < rows.length) {b g o:Nat} (d:ρ b=some (g,o)):∃ r,rows.getD b (0,[])=r∧BR P w I ρ ⟨r.2,r.1,bK P r.1,true⟩ g o:=by
 have a:=h b _ d;have c:(eB P aF.empty rows).at_ b=some (dE P 0 rows[b]):=by
  rw [abw,if_pos (by simp [aF.empty];exact a)];simp [aF.empty,azm a]
 have e:=f.blk b _ g o c d;rw [agC] at e;exact ⟨rows[b],by simp [List.getD_eq_getElem?_getD,azm a],e⟩
theorem ag9:iL w w I (fun g=>I g∨abT ρ g):=⟨fun _ h => .inl h,fun _ _=>rfl,fun _ _ h=>h⟩
theorem al1 {r:TypeId×List AV} {g o a:Nat} (c:BR P w I ρ ⟨r.2,r.1,bK P r.1,true⟩ g o) (b:bK P r.1 = .flat):bB P w (fun g=>I g∨abT ρ g) dA (r.2.drop a) (fun j=>w.cell? ⟨g,o+a+j,none⟩):=by
 have d:=lS (BR.flatAt c b) a;exact iK (eN ag9 (fun _ _ h=>h) _ _ d) fun j _=>by rw [ay3]
mutual
theorem al2 (hS:SR P w I ρ (eB P aF.empty rows)) (hk:∀ b x,ρ b=some x→b < rows.length):∀ (d:Nat) (av:AV) (v:Value),jH P rows d av=true→VR P w I ρ av v→VR P w (fun g=>I g∨abT ρ g) dA (fZ P rows d av) v
 | d,.val x,v,_,hv=>by unfold fZ;simpa only [VR] using hv
 | d,.tree n c cs f,v,_,hv=>by
  rw [show fZ P rows d (.tree n c cs f) = .tree n c cs f by cases d <;> (unfold fZ;rfl)]
  exact rI ag9 (fun _ _ h=>h) _ _ (aaI (.tree n c cs f) v rfl hv)
 | d,.tptr o cs,v,_,hv=>by
  rw [show fZ P rows d (.tptr o cs) = .tptr o cs by cases d <;> (unfold fZ;rfl)]
  exact rI ag9 (fun _ _ h=>h) _ _ (aaI (.tptr o cs) v rfl hv)
 | d,.emp _ _,v,_,hv=>by unfold fZ;simpa only [VR] using hv
 | d,.agg cs,v,h,hv=>by
  unfold jH at h
  unfold fZ
  simp only [VR] at hv ⊢
  obtain ⟨vs,h1,h2,h3,h4⟩:=hv
  exact ⟨vs,h1,by rw [h2,ag7],ag8 d cs h3,aeu hS hk d cs _ h h4⟩
 | d,.tup cs,v,h,hv=>by
  unfold jH at h
  unfold fZ
  simp only [VR] at hv ⊢
  obtain ⟨vs,h1,h2,h4⟩:=hv
  exact ⟨vs,h1,by rw [h2,ag7],aeu hS hk d cs _ h h4⟩
 | 0,.sl b off n c f,v,h,hv=>by
  unfold jH at h
  unfold fZ
  simp only [VR] at hv ⊢
  obtain ⟨g,o,cap,ty,n',s,hg,rfl,h1,h2,_⟩:=hv
  obtain ⟨r,hr,hB⟩:=qR hS hk hg
  rw [hr] at h ⊢
  exact ⟨g,o+off,cap,rfl,.inr ⟨b,o,hg⟩,h1,h2,lH hB.one _,al1 hB (of_decide_eq_true h)⟩
 | d+1,.sl b off n c f,v,h,hv=>by
  unfold jH at h
  unfold fZ
  simp only [VR] at hv ⊢
  obtain ⟨g,o,cap,ty,n',s,hg,rfl,h1,h2,_⟩:=hv
  obtain ⟨r,hr,hB⟩:=qR hS hk hg
  rw [hr] at h ⊢
  by_cases hf:bK P r.1 = .flat
  ·rw [if_pos hf]
   exact ⟨g,o+off,cap,rfl,.inr ⟨b,o,hg⟩,h1,h2,lH hB.one _,al1 hB hf⟩
  ·rw [if_neg hf]
   rw [decide_eq_false hf,Bool.false_or] at h
   refine ⟨g,o+off,cap,rfl,.inr ⟨b,o,hg⟩,h1,h2,lH (ag8 d _ hB.one) _, ?_⟩
   have h3:=lS (aeu hS hk d r.2 _ h hB.cellsAt) off
   exact iK h3 fun j _=>by rw [ay3]
 | d,.ptr _ _,v,h,hv=>by unfold jH at h;cases h
 | d,.clo _ _,v,h,hv=>by unfold jH at h;cases h
 termination_by d av=>(d,ayW av)
theorem aeu (hS:SR P w I ρ (eB P aF.empty rows)) (hk:∀ b x,ρ b=some x→b < rows.length):∀ (d:Nat) (cs:List AV) (get:Nat→Option Value),kV P rows d cs=true→bB P w I ρ cs get→bB P w (fun g=>I g∨abT ρ g) dA (iP P rows d cs) get
 | d,[],get,_,hv=>by unfold iP;simp only [bB]
 | d,c::cs,get,h,hv=>by
  unfold kV at h
  simp only [Bool.and_eq_true] at h
  unfold iP
  simp only [bB] at hv ⊢
  obtain ⟨⟨v,h1,h2⟩,h3⟩:=hv
  exact ⟨⟨v,h1,al2 hS hk d c v h.1 h2⟩,aeu hS hk d cs _ h.2 h3⟩
 termination_by d cs=>(d,ayW cs)
end
theorem aaP {f:FuncId} {args:List AV} {r:fA} (d:Nat) (h:aQ P f args r) (y:jH P r.rows d r.v=true):aQ P f args ⟨fZ P r.rows d r.v,[]⟩:=⟨h.1,fun w I vs t p A=>(h.2 w I vs t p A).mono fun D w'=>by
 rintro ⟨v,z,ρ',rfl,u,q,e⟩;have j:∀ g,¬ Wr dA aF.empty g:=by
  rintro g (⟨b,k,o,c,_⟩ | c)
  ·simp [aF.empty] at c
  ·exact zH c
 have s:∀ b x,ρ' b=some x→b < r.rows.length:=fun b x h=>by
  have:=e.lo b rfl (by rw [h];simp);rw [aaL] at this;simp [aF.empty] at this;exact this
 have l:∀ b x,ρ' b=some x→∃ k,(eB P aF.empty r.rows).at_ b=some k∧k.wr=true:=fun b x h=>by
  have i:=s b x h;exact ⟨dE P 0 r.rows[b],by rw [abw,if_pos (by simp [aF.empty];exact i)];simp [aF.empty,azm i],rfl⟩
 have m:∀ g,abT ρ' g→w.heap.size≤g:=by
  rintro g ⟨b,o,i⟩;obtain ⟨k,c,n⟩:=l b _ i;rcases e.own g (.inl ⟨b,k,o,c,n,i⟩) with h | h
  ·exact absurd h (j g)
  ·exact h
 refine ⟨v,(fun g=>z g∨abT ρ' g),dA,rfl,al2 q s d r.v v y u,⟨fun b k g o h=>by simp [eB,gN,aF.empty] at h,fun b B k k' g o C h=>by simp [eB,gN,aF.empty] at h,fun g a => ?_,kG.none⟩,⟨e.os,e.tape,e.output,e.size,e.same,e.shape,fun g a => .inl (e.imm g a),fun g a => ?_,fun _ _ h=>h,fun b c n=>absurd c n,fun g a => ?_,aza _⟩⟩
 ·rcases a with a | ⟨b,o,i⟩
  ·exact q.lt g a
  ·obtain ⟨k,c,n⟩:=l b _ i;exact q.ltb c i
 ·rcases a with a | a
  ·exact e.back g a
  ·exact .inr (.inr (m g a))
 ·rcases a with ⟨b,k,o,c,_⟩ | a
  ·simp [eB,gN,aF.empty] at c
  ·exact (zH a).elim⟩
end
def bE (n:Nat) (cells:List AV):AV:=if n=0 then aW else .tree n n cells false
theorem eQ (n:Nat) (cells:List AV):aT (bE n cells) n cells:=by
 unfold bE;split
 ·rename_i h;exact ⟨.inl ⟨rfl,h⟩⟩
 ·exact ⟨.inr (.inr ⟨n,false,rfl,aza _⟩)⟩
theorem aha {k n:Nat} {cells:List AV}:shift k (bE n cells)=bE n cells:=by
 unfold bE;split <;> simp [shift,aW]
theorem al3 {P:Program} {t:TypeId} {n:Nat} {cells:List AV} (h:(bO P t).isSome=true):lenE P t (bE n cells)=some (.val (.int .i64 (n:Nat))):=(eQ n cells).len' h
theorem al4 {P:Program} {t:TypeId} {n k:Nat} {cells:List AV} (h:(bO P t).isSome=true):oJ P t k (bE n cells)=(bO P t).bind fun el=>(bX P el).bind fun sz=>if k < n then some (.tptr (k*sz) cells) else none:=(eQ n cells).addr' h
theorem yE {n:Nat} {cells:List AV}:plain (bE n cells)=true:=(eQ n cells).plain
theorem al5 {P:Program} {m:aF} {t:TypeId} {n:Nat} {cells:List AV}:slOk P m t (bE n cells)=true:=(eQ n cells).slOk
theorem al6 {P:Program} {d c:Bool} {m:aF} {t:TypeId} {n:Nat} {cells:List AV} {lo hi mx:Option AV}:sliceX P d c m t (bE n cells) lo hi mx=(dD lo).bind fun lo=>(dD hi).bind fun hi=>(dD mx).bind fun mx=>eV (kT P t lo hi mx (bE n cells)) m:=(eQ n cells).sliceX
def qS:=(⟨@al6,@aha,@al3,@al4,@al5⟩:_∧_∧_∧_∧_)
theorem asi {P:Program} (el:TypeId) (n:Nat) (cells:List AV):fZ P (jC el n cells).rows 0 (jC el n cells).v=bE n cells:=by
 unfold jC bE;split <;> (unfold fZ;simp [aW])
theorem asj {P:Program} {el:TypeId} (a:bK P el = .flat) (n:Nat) (cells:List AV):jH P (jC el n cells).rows 0 (jC el n cells).v=true:=by
 unfold jC;split <;> (unfold jH;simp [aW,a])
structure zT (m:aF) (v:AV) (n:Nat) (cells:List AV):Prop where
 form:aT v n cells∨∃ b off c f k,v = .sl b off n c f∧m.at_ b=some k∧k.kind = .flat∧k.cells.drop off=cells∧n≤c
section
variable {P:Program} {m:aF} {v:AV} {n:Nat} {cells:List AV}
theorem zT.to {m':aF} (h:zT m v n cells) (e:∀ b k,m.at_ b=some k→∃ wr,m'.at_ b=some ⟨k.cells,k.el,k.kind,wr⟩):zT m' v n cells:=by
 rcases h.form with h | ⟨b,a,c,f,k,j,i,g,d,o⟩
 ·exact ⟨.inl h⟩
 ·obtain ⟨wr,l⟩:=e b k i;exact ⟨.inr ⟨b,a,c,f,_,j,l,g,d,o⟩⟩
theorem ask (h:zT m v n cells) (k:Nat):∃ d,lend k m v=some d∧aT d n cells:=by
 rcases h.form with h | ⟨b,a,c,f,k',rfl,g,e,rfl,i⟩
 ·exact ⟨v,(yC k v h.plain).1,h⟩
 ·refine ⟨.tree n c (k'.cells.drop a) f, ?_,⟨.inr (.inr ⟨c,f,rfl,i⟩)⟩⟩;cases k <;> (unfold lend;simp [g,e])
theorem lend1 {a:AV} (h:zT m a n cells):∃ b,dN 3 m [a]=some [b]∧aT b n cells:=by
 obtain ⟨b,d,c⟩:=ask h 3;refine ⟨b, ?_,c⟩;unfold dN;rw [d];unfold dN;rfl
theorem lend2 {a:AV} (c:plain a=true) (h:zT m v n cells):∃ b,dN 3 m [a,v]=some [a,b]∧aT b n cells:=by
 obtain ⟨b,e,d⟩:=lend1 h;refine ⟨b, ?_,d⟩;unfold dN;rw [(yC 3 a c).1,e];rfl
theorem zT.len (h:zT m v n cells) {t:TypeId} (d:(bO P t).isSome=true):lenE P t v=some (.val (.int .i64 (n:Nat))):=by
 rcases h.form with h | ⟨b,e,c,f,k,rfl,_⟩
 ·exact h.len' d
 ·obtain ⟨el,a⟩:=aAo.1 d;simp [lenE,a,sN,aB]
end
def cG:AV→Option Nat
 | .sl b _ _ _ _=>some b
 | _=>none
theorem dB {v:AV} {n:Nat} {cs:List AV} (h:aT v n cs) (k:Nat):shift k v=v:=by
 rcases h.form with ⟨rfl,_⟩ | ⟨_,_,rfl,_⟩ | ⟨_,_,rfl,_⟩ <;> (try unfold aW) <;> (unfold shift;rfl)
theorem bY.keep {kd:gJ} {m m':aF} {el:TypeId} {sz n:Nat} {v:AV} {cells:List AV} (h:bY kd m el sz v n cells) (a:m.next≤m'.next) (d:∀ b k,cG v=some b→m.at_ b=some k→m'.at_ b=some k):bY kd m' el sz v n cells:=by
 refine ⟨?_,h.len⟩;rcases h.form with a | ⟨b,rfl,c,f,e⟩
 ·exact .inl a
 ·exact .inr ⟨b,rfl,d b _ rfl c,by omega,e⟩
theorem bY.put_kind {kd:gJ} {m:aF} {el:TypeId} {sz n:Nat} {v:AV} {cells:List AV} (h:bY kd m el sz v n cells) {j:Nat} {k:eZ} {x:Option eZ} (a:m.at_ j=some k) (g:k.kind≠kd):bY kd (m.put j x) el sz v n cells:=by
 refine ⟨?_,h.len⟩;rcases h.form with e | ⟨b,rfl,c,d,f⟩
 ·exact .inl e
 ·refine .inr ⟨b,rfl, ?_,d,f⟩;rw [cI,if_neg ?_]
  ·exact c
  ·rintro rfl;rw [c] at a;cases a;exact g rfl
theorem bY.ne_kind {kd:gJ} {m:aF} {el:TypeId} {sz n:Nat} {v:AV} {cells:List AV} (h:bY kd m el sz v n cells) {j:Nat} {k:eZ} (c:m.at_ j=some k) (e:k.kind≠kd):cG v≠some j:=by
 intro a;rcases h.form with ⟨rfl,_⟩ | ⟨b,rfl,d,_⟩
 ·cases a
 ·injection a with a;subst a;rw [d] at c;cases c;exact e rfl
theorem bY.sl {kd:gJ} {m:aF} {el:TypeId} {sz n:Nat} {v:AV} {cells:List AV} (h:bY kd m el sz v n cells) (f:0 < n):∃ b,v = .sl b 0 n n false∧m.at_ b=some ⟨cells,el,kd,true⟩∧b < m.next:=by
 rcases h.form with ⟨_,e,_⟩ | ⟨b,d,c,a,_⟩
 ·omega
 ·exact ⟨b,d,c,a⟩
theorem bY.put_ne {kd:gJ} {m:aF} {el:TypeId} {sz n:Nat} {v:AV} {cells:List AV} (h:bY kd m el sz v n cells) {j:Nat} {x:Option eZ} (a:cG v≠some j):bY kd (m.put j x) el sz v n cells:=by
 refine h.keep (aza _) fun b k c d => ?_
 rw [cI,if_neg (by rintro rfl;exact a c)];exact d
theorem bY.one {kd:gJ} {m:aF} {el:TypeId} {sz n:Nat} {v:AV} {cells:List AV} (h:bY kd m el sz v n cells):dL v=true:=by
 rcases h.form with ⟨rfl,_⟩ | ⟨b,rfl,_⟩ <;> rfl
theorem bY.ok {kd:gJ} {m:aF} {el:TypeId} {sz n:Nat} {v:AV} {cells:List AV} (h:bY kd m el sz v n cells):gD v=true:=by
 rcases h.form with ⟨rfl,_⟩ | ⟨b,rfl,_⟩ <;> rfl
theorem bY.cells {kd:gJ} {m:aF} {el:TypeId} {sz n:Nat} {v:AV} {cells:List AV} (h:bY kd m el sz v n cells):v.cells=[v]:=by
 rcases h.form with ⟨rfl,_⟩ | ⟨b,rfl,_⟩ <;> rfl
theorem vN {P:Program} {kd:gJ} {el:TypeId} {m:aF} {v x:AV} {K:bL→Prop} {sz y n a:Nat} {zl:List Value} {cells new:List AV} (d:bK P el=kd) (s:bY kd m el sz v n cells) (e:bX P el=some sz) (i:jN P el=some y) (l:gF P el=some zl) (p:zl.length=sz) (g:eM P el sz m x=some (new,a)) (q:new.length=a*sz) (r:(n+a)*y≤140737488355328) (u:n+a≤140737488355328)
 (f:∀ v' m',bY kd m' el sz v' (n+a) (cells++new)→m.next≤m'.next→(∀ j k,m.at_ j=some k→j < m.next→cG v≠some j→m'.at_ j=some k)→(∀ j,cG v'=some j→j=m.next∨cG v=some j)→m'.mm=m.mm→K ⟨v',m',none⟩):eO (fR P el m v x) K:=by
 have c:=s.len;rcases s.form with ⟨rfl,rfl,rfl⟩ | ⟨b,rfl,A,B,z⟩
 ·by_cases t:a=0
  ·subst t;have C:new=[]:=List.eq_nil_of_length_eq_zero (by omega);subst C;have:fR P el m aW x=some ⟨aW,m,none⟩:=by simp [fR,e,i,l,g,dR,aW,d,p,bI]
   rw [this];exact f _ _ gK (aza _) (fun _ _ h _ _=>h) (fun _ h => .inr h) rfl
  ·have:fR P el m aW x=some ⟨.sl m.next 0 (0+a) (0+a) false,m.push ⟨new,el,kd,true⟩,none⟩:=by
    simp only [fR,e,i,l,g,dR,aW,d,aAk,r,u,p,and_self,if_true,if_neg t];simp [bI]
   rw [this];exact f _ _ ⟨.inr ⟨m.next,rfl,by rw [cF,if_pos rfl];rfl,by rw [cQ];omega,by omega⟩,by simp [q]⟩ (by rw [cQ];omega) (fun j k h w _=>by rw [cF,if_neg (by omega)];exact h) (fun j h => .inl (by injection h with h;exact h.symm)) rfl
 ·have:fR P el m (.sl b 0 n n false) x=some ⟨.sl m.next 0 (n+a) (n+a) false,(m.put b none).push ⟨cells++new,el,kd,true⟩,none⟩:=by
   simp only [fR,e,i,l,g,dR,A,d,aAk,r,u,p,and_self,if_true];simp [bI,c,xT]
  rw [this];refine f _ _ ⟨.inr ⟨m.next,rfl,by rw [cF,fC,if_pos rfl],by rw [cQ,fC];omega,by omega⟩,by simp [c,q,Nat.add_mul]⟩ (by rw [cQ,fC];omega) (fun j k h w o => ?_) (fun j h => .inl (by injection h with h;exact h.symm)) rfl;rw [cF,fC,if_neg (by omega),cI,if_neg (by rintro rfl;exact o rfl)];exact h
theorem zU {P:Program} {kd:gJ} {el:TypeId} {m:aF} {v x:AV} {K:bL→Prop} {sz y n e:Nat} {zl:List Value} {cells new:List AV} (f:bK P el=kd) (q:bY kd m el sz v n cells) (g:bX P el=some sz) (p:jN P el=some y) (r:gF P el=some zl) (s:zl.length=sz) (l:eM P el sz m x=some (new,e)) (i:new.length=e*sz) (o:(n+e)*y≤140737488355328) (t:n+e≤140737488355328)
 (h:∀ v' m',bY kd m' el sz v' (n+e) (cells++new)→m.next≤m'.next→(∀ j k,m.at_ j=some k→j < m.next→cG v≠some j→m'.at_ j=some k)→(∀ j,cG v'=some j→j=m.next∨cG v=some j)→K ⟨v',m',none⟩):eO (fR P el m v x) K:=vN f q g p r s l i o t fun v' m' a b c d _=>h v' m' a b c d
theorem ahb {P:Program} {kd:gJ} {el:TypeId} {m:aF} {x:AV} {sz y a:Nat} {zl:List Value} {new:List AV} (b:bK P el=kd) (h:bX P el=some sz) (f:jN P el=some y) (e:gF P el=some zl) (d:zl.length=sz) (j:eM P el sz m x=some (new,a)) (c:a*y≤140737488355328) (g:a≤140737488355328) (i:0 < a) :
 fR P el m (.tree 0 0 [] true) x=some ⟨.sl m.next 0 a a false,m.push ⟨new,el,kd,true⟩,none⟩:=by
 simp only [fR,h,f,e,j,dR,b,aAk];simp [bI,d,c,g,aA0 i]
theorem bY.other {kd d:gJ} {m m':aF} {el el':TypeId} {sz e n o:Nat} {v v':AV} {cells a:List AV} (h:bY kd m el sz v n cells) (l:bY d m el' e v' o a) (q:kd≠d) (r:m.next≤m'.next) (c:∀ j k,m.at_ j=some k→j < m.next→cG v'≠some j→m'.at_ j=some k):bY kd m' el sz v n cells:=by
 refine ⟨?_,h.len⟩;rcases h.form with g | ⟨b,rfl,f,p,i⟩
 ·exact .inl g
 ·exact .inr ⟨b,rfl,c b _ f p (l.ne_kind f q),by omega,i⟩
def zV (P:Program) (c:AV):Prop:=∀ (m:aF) (k:Nat) (a:List (Nat×Nat)) (rows:List (TypeId×List AV)),canon P m k a rows c=some (c,a,rows)
theorem aev {P:Program} (v:Value):zV P (.val v):=fun m k a rows=>by cases k <;> (unfold canon;rfl)
theorem al7 {P:Program} (n c:Nat) (cs:List AV) (f:Bool):zV P (.tree n c cs f):=fun m k a rows=>by cases k <;> (unfold canon;rfl)
theorem asl {P:Program} (n:Nat) (cs:List AV):zV P (bE n cs):=by
 unfold bE;split
 ·exact aev _
 ·exact al7 _ _ _ _
theorem aew {P:Program} (m:aF) (k:Nat) (a:List (Nat×Nat)) (rows:List (TypeId×List AV)):∀ (cs:List AV),(∀ c∈cs,zV P c)→fN P m k a rows cs=some (cs,a,rows)
 | [],_=>by cases k <;> (unfold fN;rfl)
 | c::cs,h=>by
  have e:=h c (by simp) m k a rows;have d:=aew m k a rows cs fun x b=>h x (by simp [b])
  cases k <;> (unfold fN;simp [e,d])
theorem al8 {P:Program} {m:aF} {el:TypeId} {sz n:Nat} {v:AV} {cells:List AV} (a:bK P el = .var) (h:bY .var m el sz v n cells) (hs:∀ c∈cells,zV P c):∃ d,canon P m 3 [] [] v=some ((jC el n cells).v,d,(jC el n cells).rows):=by
 rcases h.form with ⟨rfl,rfl,rfl⟩ | ⟨b,rfl,g,e,i⟩
 ·exact ⟨[],by unfold aW canon;rfl⟩
 ·refine ⟨[(b,0)], ?_⟩;have f:=aew m 2 [] [] cells hs;unfold canon;simp [g,jC,aA0 i,a,f]
theorem asm {P:Program} {m:aF} {t el el':TypeId} {sz n:Nat} {x:Value} {v:AV} {cells:List AV} {z:List Value} (h:Own m el' sz v n cells) (o:vA x=true) (d:bO P t=some el) (c:bX P el=some 2) (a:gF P el=some z) (f:z.length=2):∃ e,vI P false true m t 1 [(0,.agg [.val x,v])]=some ⟨.tree 1 1 [.val x,bE n cells] true,e,none⟩∧e.next=m.next∧∀ j,cG v≠some j→e.at_ j=m.at_ j:=by
 match z,f with
 | [z1,z2],_ =>
 rcases h.form with ⟨rfl,rfl,rfl⟩ | ⟨b,rfl,k,i,l⟩
 ·refine ⟨m, ?_,rfl,fun _ _=>rfl⟩;have:fY P m t 1 [(0,.agg [.val x,aW])]=some ⟨.tree 1 1 [.val x,aW] true,m,none⟩:=by
   simp [fY,d,c,a,iJ,aAW,hU,gD,cH,AV.cells,kF,iI,bI,aW]
  rw [ag2 (by rw [this];rfl),this];rfl
 ·refine ⟨m.put b (some ⟨cells,el',.flat,false⟩), ?_,rfl,fun j g => ?_⟩
  ·have:fY P m t 1 [(0,.agg [.val x,.sl b 0 n n false])]=none:=by
    simp [fY,d,c,a,iJ,aAW,hU,gD,cH,AV.cells,kF,iI]
   rw [alw this];simp [zR,d,c,a,iJ,aAW,hU,gD,cH,AV.cells,fzs,fz,k,bI,bE,aA0 l]
  ·rw [cI,if_neg (by rintro rfl;exact g rfl)]
theorem bY.setM {kd:gJ} {m:aF} {el:TypeId} {sz n:Nat} {v:AV} {cells:List AV} (h:bY kd m el sz v n cells) (mm:Maps):bY kd (m.setM mm) el sz v n cells:=⟨h.form,h.len⟩
theorem asn {P:Program} {m:aF} {t el:TypeId} {a:Value} {x:AV} {z:List Value} (g:bK P el = .var) (i:vA a=true) (h:dL x=true) (f:x.cells=[x]) (e:bO P t=some el) (d:bX P el=some 2) (c:gF P el=some z) (b:z.length=2):pR P m t 1 [(0,.agg [.val a,x])]=some ⟨.sl m.next 0 1 1 true,m.push ⟨[.val a,x],el,.var,true⟩,none⟩:=by
 match z,b with
 | [z1,z2],_ =>
  simp [pR,g,e,d,c,iJ,aAW,hU,gD,cH,AV.cells,bI]
section
variable {P:Program} {t:TypeId} {k off b:Nat} {cs:List AV}
theorem al9 (h:bO P t=none):oJ P t k (.tptr off cs)=(qK P t).bind fun a=>(bX P a.2).bind fun sz=>if k < a.1 then some (.tptr (off+k*sz) cs) else none:=by simp [oJ,h]
theorem ama (h:bO P t=none):oJ P t k (.ptr b off)=(qK P t).bind fun a=>(bX P a.2).bind fun sz=>if k < a.1 then some (.ptr b (off+k*sz)) else none:=by simp [oJ,h]
theorem aex {n c:Nat} {f:Bool} (h:(bO P t).isSome=true):oJ P t k (.sl b off n c f)=(bO P t).bind fun el=>(bX P el).bind fun sz=>if k < n then some (.ptr b (off+k*sz)) else none:=by
 obtain ⟨el,a⟩:=aAo.1 h;simp [oJ,a]
theorem amb:abm P t k (.agg cs)=(qK P t).bind fun a=>(bX P a.2).bind fun sz=>if k < a.1 then qM P a.2 cs (k*sz) else none:=rfl
def bH:=(⟨@al9,@ama,@amb,@aex⟩:_∧_∧_∧_)
end
mutual
def fzT:Nat→aF→AV→Option AV
 | _,_,.val v=>some (.val v)
 | _,_,.tree n c cs f=>some (.tree n c cs f)
 | _,_,.tptr o cs=>some (.tptr o cs)
 | _,_,.emp c f=>some (.emp c f)
 | k,m,.agg cs=>(nQ k m cs).map .agg
 | k,m,.tup cs=>(nQ k m cs).map .tup
 | 0,m,.sl b off len c full=>(m.at_ b).bind fun x=>if x.kind = .flat∧x.wr=true then some (.tree len c (x.cells.drop off) full) else none
 | k+1,m,.sl b off len c full=>(m.at_ b).bind fun x=>if x.wr=true then (match x.kind with
  | .flat=>some (.tree len c (x.cells.drop off) full)
  | .var=>(nQ k m (x.cells.drop off)).map fun cs => .tree len c cs full
  | .hole=>none) else none
 | _,_,_=>none
 termination_by k _ v=>(k,ayW v)
def nQ:Nat→aF→List AV→Option (List AV)
 | _,_,[]=>some []
 | k,m,c::cs=>(fzT k m c).bind fun c'=>(nQ k m cs).map (c'::·)
 termination_by k _ v=>(k,ayW v)
end
theorem jI {k:Nat} {m:aF}:nQ k m []=some []:=by cases k <;> (rw [nQ])
theorem eC {k:Nat} {m:aF} {c:AV} {cs:List AV}:nQ k m (c::cs)=(fzT k m c).bind fun a=>(nQ k m cs).map (a::·):=by cases k <;> (rw [nQ])
theorem gU {k:Nat} {m:aF} {v:Value}:fzT k m (.val v)=some (.val v):=by cases k <;> (rw [fzT])
theorem abU {k:Nat} {m:aF} {n c:Nat} {cs:List AV} {f:Bool}:fzT k m (.tree n c cs f)=some (.tree n c cs f):=by cases k <;> (rw [fzT])
theorem kH {k:Nat} {m:aF} {cs:List AV}:fzT k m (.tup cs)=(nQ k m cs).map .tup:=by cases k <;> (rw [fzT])
theorem abV {k:Nat} {m:aF} {cs:List AV}:fzT k m (.agg cs)=(nQ k m cs).map .agg:=by cases k <;> (rw [fzT])
theorem wW {k:Nat} {m:aF} {b a len c:Nat} {f:Bool} {cells:List AV} {el:TypeId} (h:m.at_ b=some ⟨cells,el,.flat,true⟩):fzT k m (.sl b a len c f)=some (.tree len c (cells.drop a) f):=by
 cases k <;> (rw [fzT];simp [h])
theorem aey {k:Nat} {m:aF} {b a len c:Nat} {f:Bool} {cells cs:List AV} {el:TypeId} (h:m.at_ b=some ⟨cells,el,.var,true⟩) (d:nQ k m (cells.drop a)=some cs):fzT (k+1) m (.sl b a len c f)=some (.tree len c cs f):=by
 rw [fzT];simp [h,d]
theorem ada {k:Nat} {m:aF} {v:AV} {n:Nat} {cs:List AV} (h:aT v n cs):fzT k m v=some v:=by
 rcases h.form with ⟨rfl,_⟩ | ⟨_,_,rfl,_⟩ | ⟨_,_,rfl,_⟩ <;> (cases k <;> (first | (unfold aW;rw [fzT]) | rw [fzT]))
section
variable {P:Program} {w:World} {I:Nat→Prop} {ρ:cA} {m:aF}
def aez (I:Nat→Prop) (ρ:cA) (m:aF) (g:Nat):Prop:=I g∨∃ b k o,m.at_ b=some k∧k.wr=true∧ρ b=some (g,o)
theorem aeA:iL w w I (aez I ρ m):=⟨fun _ h => .inl h,fun _ _=>rfl,fun _ _ h=>h⟩
mutual
theorem aso:∀ (k:Nat) (av av':AV),fzT k m av=some av'→dL av'=dL av
 | k,.val v,av',hl=>by rw [gU] at hl;cases hl;rfl
 | k,.tree _ _ _ _,av',hl=>by rw [abU] at hl;cases hl;rfl
 | k,.tptr _ _,av',hl=>by unfold fzT at hl;simp at hl;rw [←hl]
 | k,.emp _ _,av',hl=>by unfold fzT at hl;simp at hl;rw [←hl]
 | k,.agg cs,av',hl=>by rw [abV] at hl;obtain ⟨cs',hc,rfl⟩:=ayT hl;rfl
 | k,.tup cs,av',hl=>by rw [kH] at hl;obtain ⟨cs',hc,rfl⟩:=ayT hl;rfl
 | 0,.sl b off len c full,av',hl=>by
  rw [fzT] at hl
  obtain ⟨x,hx,hl⟩:=ayS hl
  split at hl
  ·cases hl;rfl
  ·cases hl
 | k+1,.sl b off len c full,av',hl=>by
  rw [fzT] at hl
  obtain ⟨x,hx,hl⟩:=ayS hl
  split at hl
  ·split at hl
   ·cases hl;rfl
   ·obtain ⟨cs',hc,rfl⟩:=ayT hl;rfl
   ·cases hl
  ·cases hl
 | k,.ptr _ _,av',hl=>by cases k <;> (unfold fzT at hl;cases hl)
 | k,.clo _ _,av',hl=>by cases k <;> (unfold fzT at hl;cases hl)
end
theorem aeB:∀ (k:Nat) (cs a:List AV),nQ k m cs=some a→a.length=cs.length∧(dY cs→dY a)
 | k,[],a,b=>by rw [jI] at b;cases b;exact ⟨rfl,fun h=>h⟩
 | k,c::cs,a,b=>by
  rw [eC] at b;obtain ⟨n,l,b⟩:=ayS b;obtain ⟨d,f,rfl⟩:=ayT b;obtain ⟨j,i⟩:=aeB k cs d f;refine ⟨by simp [j],fun h x e => ?_⟩;rcases List.mem_cons.1 e with rfl | e
  ·rw [aso k c _ l];exact h c (by simp)
  ·exact i (fun y g=>h y (by simp [g])) x e
mutual
theorem amc (hS:SR P w I ρ m):∀ (k:Nat) (av av':AV) (v:Value),fzT k m av=some av'→VR P w I ρ av v→VR P w (aez I ρ m) dA av' v
 | k,.val x,av',v,hl,hv=>by rw [gU] at hl;cases hl;simpa only [VR] using hv
 | k,.tree a b c d,av',v,hl,hv=>by
  rw [abU] at hl;cases hl
  exact rI aeA (fun _ _ h=>h) _ _ (aaI _ _ rfl hv)
 | k,.tptr a b,av',v,hl,hv=>by
  unfold fzT at hl;simp at hl;subst hl
  exact rI aeA (fun _ _ h=>h) _ _ (aaI _ _ rfl hv)
 | k,.emp _ _,av',v,hl,hv=>by unfold fzT at hl;simp at hl;subst hl;simpa only [VR] using hv
 | k,.agg cs,av',v,hl,hv=>by
  rw [abV] at hl
  obtain ⟨cs',hc,rfl⟩:=ayT hl
  simp only [VR] at hv ⊢
  obtain ⟨vs,h1,h2,h3,h4⟩:=hv
  obtain ⟨l1,l2⟩:=aeB k cs cs' hc
  exact ⟨vs,h1,by rw [h2,l1],l2 h3,aeC hS k cs cs' _ hc h4⟩
 | k,.tup cs,av',v,hl,hv=>by
  rw [kH] at hl
  obtain ⟨cs',hc,rfl⟩:=ayT hl
  simp only [VR] at hv ⊢
  obtain ⟨vs,h1,h2,h4⟩:=hv
  obtain ⟨l1,l2⟩:=aeB k cs cs' hc
  exact ⟨vs,h1,by rw [h2,l1],aeC hS k cs cs' _ hc h4⟩
 | 0,.sl b off len c full,av',v,hl,hv=>by
  rw [fzT] at hl
  obtain ⟨x,hx,hl⟩:=ayS hl
  split at hl
  ·rename_i hk
   cases hl
   simp only [VR] at hv ⊢
   obtain ⟨g,o,cap,ty,n,s,hg,rfl,hlc,hf,_⟩:=hv
   have hB:=hS.blk b x g o hx hg
   refine ⟨g,o+off,cap,rfl,.inr ⟨b,x,o,hx,hk.2,hg⟩,hlc,hf,lH hB.one _, ?_⟩
   exact iK (lS (eN aeA (fun _ _ h=>h) _ _ (hB.flatAt hk.1)) off) fun j _=>by rw [ay3]
  ·cases hl
 | k+1,.sl b off len c full,av',v,hl,hv=>by
  rw [fzT] at hl
  obtain ⟨x,hx,hl⟩:=ayS hl
  simp only [VR] at hv
  obtain ⟨g,o,cap,ty,n,s,hg,rfl,hlc,hf,_⟩:=hv
  have hB:=hS.blk b x g o hx hg
  split at hl
  ·rename_i hwr
   split at hl
   ·rename_i hk
    cases hl
    simp only [VR]
    refine ⟨g,o+off,cap,rfl,.inr ⟨b,x,o,hx,hwr,hg⟩,hlc,hf,lH hB.one _, ?_⟩
    exact iK (lS (eN aeA (fun _ _ h=>h) _ _ (hB.flatAt hk)) off) fun j _=>by rw [ay3]
   ·obtain ⟨cs',hc,rfl⟩:=ayT hl
    simp only [VR]
    obtain ⟨l1,l2⟩:=aeB k _ cs' hc
    refine ⟨g,o+off,cap,rfl,.inr ⟨b,x,o,hx,hwr,hg⟩,hlc,hf,l2 (lH hB.one _), ?_⟩
    exact iK (aeC hS k _ cs' _ hc (lS hB.cellsAt off)) fun j _=>by rw [ay3]
   ·cases hl
  ·cases hl
 | k,.ptr _ _,av',v,hl,hv=>by cases k <;> (unfold fzT at hl;cases hl)
 | k,.clo _ _,av',v,hl,hv=>by cases k <;> (unfold fzT at hl;cases hl)
 termination_by k av=>(k,ayW av)
theorem aeC (hS:SR P w I ρ m):∀ (k:Nat) (cs cs':List AV) (get:Nat→Option Value),nQ k m cs=some cs'→bB P w I ρ cs get→bB P w (aez I ρ m) dA cs' get
 | k,[],cs',get,hl,hv=>by rw [jI] at hl;cases hl;simp only [bB]
 | k,c::cs,cs',get,hl,hv=>by
  rw [eC] at hl
  obtain ⟨c',hc,hl⟩:=ayS hl
  obtain ⟨cs'',hcs,rfl⟩:=ayT hl
  simp only [bB] at hv ⊢
  obtain ⟨⟨v,h1,h2⟩,h3⟩:=hv
  exact ⟨⟨v,h1,amc hS k c c' v hc h2⟩,aeC hS k cs cs'' _ hcs h3⟩
 termination_by k cs=>(k,ayW cs)
end
theorem gA {f:FuncId} {args:List AV} {r:AV} (h:dV P f args aF.empty fun v m=>∃ k,fzT k m v=some r):aQ P f args ⟨r,[]⟩:=⟨h.1,fun w I vs q j z=>(h.2 w I dA vs ⟨fun b k g o h=>by simp [aF.empty] at h,fun b x k k' g o y h=>by simp [aF.empty] at h,q,kG.none⟩ j z (fun _ _=>rfl)).mono fun B w'=>by
 rintro ⟨v,p,m',u,ρ',rfl,⟨k,A⟩,s,l,d,_⟩;have e:∀ g,¬ Wr dA aF.empty g:=by
  rintro g (⟨b,k,o,c,_⟩ | c)
  ·simp [aF.empty] at c
  ·exact zH c
 have i:∀ g,(∃ b k o,m'.at_ b=some k∧k.wr=true∧ρ' b=some (g,o))→w.heap.size≤g:=by
  intro g a;rcases d.own g (.inl a) with h | h
  ·exact absurd h (e g)
  ·exact h
 refine ⟨v,aez u ρ' m',dA,rfl,amc l k p r v A s,⟨fun b k g o h=>by simp [eB,gN,aF.empty] at h,fun b x k k' g o y h=>by simp [eB,gN,aF.empty] at h,fun g a => ?_,kG.none⟩,⟨d.os,d.tape,d.output,d.size,d.same,d.shape,fun g a => .inl (d.imm g a),fun g a => ?_,fun _ _ h=>h,fun b c n=>absurd c n,fun g a => ?_,aza _⟩⟩
 ·rcases a with a | ⟨b,k,o,c,n,t⟩
  ·exact l.lt g a
  ·exact l.ltb c t
 ·rcases a with a | a
  ·exact d.back g a
  ·exact .inr (.inr (i g a))
 ·rcases a with ⟨b,k,o,c,_⟩ | a
  ·simp [eB,gN,aF.empty] at c
  ·exact (zH a).elim⟩
theorem mW {f:FuncId} {args:List AV} {m:aF} {Q Q':AV→aF→Prop} (h:dV P f args m Q) (e:∀ r m',Q r m'→Q' r m'):dV P f args m Q':=⟨h.1,fun w I ρ vs a b c d=>(h.2 w I ρ vs a b c d).mono fun g w' ⟨v,r,m',I',ρ',e1,e2,e3⟩=>⟨v,r,m',I',ρ',e1,e _ _ e2,e3⟩⟩
theorem jD {f:FuncId} {args:List AV} {Q:AV→aF→Prop} {K:bL→Prop} (h:dV P f args m Q) (a:∀ r m',Q r m'→K ⟨r,m',none⟩):mU P false f args m K := .inr (.inl ⟨rfl,mW h a⟩)
theorem nR {f:FuncId} {args:List AV} {r:AV} {m':aF} {d:Bool} {K:bL→Prop} (h:dV P f args m fun v a=>v=r∧a=m') (b:K ⟨r,m',none⟩):mU P d f args m K := .inr (.inr (.inl ⟨r,m',h,b⟩))
end
section
variable {P:Program}
theorem asp {r:Option bL} {K a:bL→Prop} (b:∀ o,K o→a o) (h:eO r K):eO r a:=by
 unfold eO at h ⊢;split at h
 ·exact b _ h
 ·exact h
theorem asq {d:Bool} {f:FuncId} {args:List AV} {m:aF} {K i:bL→Prop} (e:∀ o,K o→i o) (h:mU P d f args m K):mU P d f args m i:=by
 rcases h with ⟨a,r,c,b,g,j⟩ | ⟨l,h⟩ | ⟨r,m',c,b⟩ | ⟨r,c,b⟩ | ⟨a,k,r,c,b,g⟩
 ·exact .inl ⟨a,r,c,b,g,e _ j⟩
 ·exact .inr (.inl ⟨l,mW h fun r m' h=>e _ h⟩)
 ·exact .inr (.inr (.inl ⟨r,m',c,e _ b⟩))
 ·exact .inr (.inr (.inr (.inl ⟨r,c,e _ b⟩)))
 ·exact .inr (.inr (.inr (.inr ⟨a,k,r,c,b,e _ g⟩)))
theorem asr {f:FuncId} {args:List AV} {m:aF} {K a:bL→Prop} (c:∀ o,K o→a o) (h:aaM P f args m K):aaM P f args m a:=by
 obtain ⟨r,g,e,d,b,j,i⟩:=h;exact ⟨r,g,e,d,b,j,c _ i⟩
theorem ass {d c:Bool} {m:aF} {args:List AV} {K b:bL→Prop} (a:∀ o,K o→b o) {x:AV} (h:oM P d c m args K x):oM P d c m args b x:=by
 cases x with
 | clo g e =>
  unfold oM at h ⊢;simp only at h ⊢;split at h
  ·exact asr a h
  ·exact asq a h
 | _=>exact h.elim
theorem ast {m:aF} {K a:bL→Prop} (c:∀ o,K o→a o) (h:abC m K):abC m a:=fun g b=>c _ (h g b)
theorem asu {m:aF} {t:TypeId} {x:AV} {K a:bL→Prop} (g:∀ o,K o→a o) (h:abD P m t x K):abD P m t x a:=by
 obtain ⟨d,e,c,b⟩:=h;exact ⟨d,e,c,fun r f=>g _ (b r f)⟩
theorem asv {m:aF} {x:AV} {K d:bL→Prop} (c:∀ o,K o→d o) (h:abE m x K):abE m x d:=by
 obtain ⟨i,k,g,f⟩:=h;exact ⟨i,k,fun h=>c _ (g h),fun j e a b=>c _ (f j e a b)⟩
theorem asw {d a:Bool} {e:bC} {m:aF} {ty:TypeId} {K c:bL→Prop} (b:∀ o,K o→c o) {op:Op} (h:bZ P d a e m ty K op):bZ P d a e m ty c op:=by
 unfold bZ at h ⊢;split at h
 all_goals first
  | exact asp b h
  | exact ass b h
  | exact h.elim
  | exact ⟨h.1,ast b h.2⟩
  | exact ⟨h.1,asu b h.2⟩
  | exact ⟨h.1,asv b h.2⟩
theorem ahc {a:Nat→Bool} {d:Bool} {b:Array Oper} {Q Q':bC→aF→Prop} (f:∀ e m,Q e m→Q' e m):∀ (l:List Oper) (e:bC) (m:aF),iO P a d b Q l e m→iO P a d b Q' l e m
 | [],e,m,h=>f e m h
 | o::rest,e,m,h=>by
  rw [akj] at h ⊢;split at h
  ·rename_i c;rw [if_pos c];exact asw (fun out g=>⟨g.1,ahc f rest _ _ g.2⟩) h
  ·rename_i c;rw [if_neg c];exact ahc f rest _ _ h
theorem aeD {K a:bC→aF→Prop} {Q Q':Ex→bC→aF→Prop} (c:∀ e m,K e m→a e m) (b:∀ x e m,Q x e m→Q' x e m):∀ x e m,sW K Q x e m→sW a Q' x e m:=by
 intro x e m h;cases x with
 | normal=>exact c e m h
 | exit i=>exact b _ e m h
 | ret=>exact b _ e m h
theorem aeE {id:Nat} {Q Q':Ex→bC→aF→Prop} (a:∀ x e m,Q x e m→Q' x e m):∀ x e m,qP id Q x e m→qP id Q' x e m:=by
 intro x e m h;cases x with
 | normal=>exact a _ e m h
 | exit i =>
  simp only [qP] at h ⊢;split at h
  ·rename_i hi;rw [if_pos hi];exact a _ e m h
  ·rename_i hi;rw [if_neg hi];exact a _ e m h
 | ret=>exact a _ e m h
theorem amd {i:Nat→Bool} {n:Nat}:∀ (c:Code) (Q Q':Ex→bC→aF→Prop) (e:bC) (m:aF),(∀ x e m,Q x e m→Q' x e m)→eP P i n c Q e m→eP P i n c Q' e m:=by
 intro c
 induction c with
 | skip=>exact fun Q Q' e m g h=>g _ e m h
 | label l=>exact fun Q Q' e m g h=>g _ e m h
 | region id u d=>exact fun Q Q' e m g h=>ahc (g .normal) _ e m h
 | seq x y j o=>exact fun Q Q' e m g h=>j _ _ e m (aeD (fun e m h=>o _ _ e m g h) g) h
 | cond c x y j o =>
  intro Q Q' e m g h;simp only [eP] at h ⊢;unfold abH at h ⊢;split at h
  ·exact ⟨fun a=>j _ _ e m g (h.1 a),fun a=>o _ _ e m g (h.2 a)⟩
  ·exact h
 | block id b p=>exact fun Q Q' e m g h=>p _ _ e m (aeE g) h
 | loop b p =>
  intro Q Q' e m g h;obtain ⟨J,k,t,r⟩:=h;exact ⟨J,k,t,fun n e m q=>p _ _ e m (aeD (fun _ _ h=>h) g) (r n e m q)⟩
 | exit id=>exact fun Q Q' e m g h=>g _ e m h
 | ret=>exact fun Q Q' e m g h=>g _ e m h
 | scope b p=>exact fun Q Q' e m g h=>p _ _ e m g h
 | goto l=>exact fun Q Q' e m g h=>h.elim
 | refuse s=>exact fun Q Q' e m g h=>h.elim
 | rangeFunc f ps x y=>exact fun Q Q' e m g h=>h.elim
theorem zW {a:Nat→Bool} {n id:Nat} {b:Code} {K:bC→aF→Prop} {Q:Ex→bC→aF→Prop} {e:bC} {m:aF} (R:bC→aF→Prop) (c:∀ e m,R e m→K e m) (d:aaN (eP P a n b) (qP id (sW R Q)) e m):aaN (eP P a n b) (qP id (sW K Q)) e m :=
 amd (.loop b) _ _ e m (aeE (aeD c fun _ _ _ h=>h)) d
end
end Go.Tw
namespace Go.Tw
open Go
def zaj:=(⟨@bH,@za⟩:_∧_)
end Go.Tw
