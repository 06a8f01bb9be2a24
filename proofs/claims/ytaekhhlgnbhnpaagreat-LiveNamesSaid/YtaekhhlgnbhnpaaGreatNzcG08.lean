import Derived.Test.YtaekhhlgnbhnpaaGreatNzcG07
import Derived.Scope
set_option linter.defProp false
set_option linter.unusedVariables false
set_option linter.unusedSimpArgs false
open Bool renaming and_eq_true→aAn,and_true→aAF,false_eq_true→azx,and_self→aAu
open Go.Result renaming andThen_ok→azw
open List renaming getElem?_eq_getElem→azj,length_cons→aAC,length_nil→aAD,drop_succ_cons→aAH,getElem?_cons_zero→aAI,getElem?_cons_succ→aAJ
open Option renaming getD_none→aAA,getD_some→aAB,map_eq_some_iff→ayY,isSome_iff_exists→aAl,bind_some→aAh,isSome_some→aAG,map_some→az3
open Option.some renaming injEq→ayX
open Pure renaming pure→aAE
namespace Go.Tw
open Go
def eB (P:Program) (once:Nat→Bool) (n:Nat):Code→(Ex→bB→aF→Prop)→bB→aF→Prop
 | .skip,Q,e,m=>Q .normal e m
 | .label _,Q,e,m=>Q .normal e m
 | .region _ ops d,Q,e,m=>iL P once d ops (Q .normal) ops.toList e m
 | .seq a b,Q,e,m=>eB P once n a (qB (eB P once n b Q) Q) e m
 | .cond c a b,Q,e,m=>aaP (eB P once n a Q e m) (eB P once n b Q e m) (opd e c)
 | .block id b,Q,e,m=>eB P once n b (o8 id Q) e m
 | .loop b,Q,e,m=>zN (eB P once n b) Q e m
 | .exit id,Q,e,m=>Q (.exit id) e m
 | .ret,Q,e,m=>Q .ret e m
 | .scope b,Q,e,m=>eB P once n b Q e m
 | _,_,_,_=>False
def lE (n:Nat):Code→Bool
 | .region _ c d=>aaQ n c && (!d || agC c)
 | .seq a b=>lE n a && lE n b
 | .cond _ a b=>lE n a && lE n b
 | .block _ b=>lE n b
 | .loop b=>lE n b
 | .scope b=>lE n b
 | _=>true
section
variable {P:Program} {w0:World} {I0:Nat→Prop} {ρ0:cB} {m0:aF} {n:Nat} {D:List Deferred}
def agI (P:Program) (w0:World) (I0:Nat→Prop) (ρ0:cB) (m0:aF) (n:Nat) (D:List Deferred) (Q:Ex→bB→aF→Prop):Exit→Act→World→Prop
 | .normal,a,w=>∃ e m I ρ,Q .normal e m∧lR P w0 I0 ρ0 m0 n D e m a w I ρ
 | .exit id,a,w=>∃ e m I ρ,Q (.exit id) e m∧lR P w0 I0 ρ0 m0 n D e m a w I ρ
 | .ret,a,w=>∃ e m I ρ,Q .ret e m∧lR P w0 I0 ρ0 m0 n D e m a w I ρ
 | _,_,_=>False
theorem adZ (N:P.follows .mixedOrders=true) {once:Nat→Bool}:∀ (c:Code) (Q:Ex→bB→aF→Prop) (e:bB) (m:aF) (a:Act) (w:World) (I:Nat→Prop) (ρ:cB),lE n c=true→eB P once n c Q e m→lR P w0 I0 ρ0 m0 n D e m a w I ρ→c.wp P (agI P w0 I0 ρ0 m0 n D Q) a w:=by
 intro c
 induction c with
 | skip=>exact fun Q e m a w I ρ _ h i=>wp_skip ⟨e,m,I,ρ,h,i⟩
 | label l=>exact fun Q e m a w I ρ _ h i=>wp_label ⟨e,m,I,ρ,h,i⟩
 | region id K d =>
  intro Q e m a w I ρ g G i;simp only [eB] at G;simp only [lE,aAn,Bool.or_eq_true,Bool.not_eq_true'] at g;obtain ⟨o,q⟩:=g;cases d with
  | false =>
   refine wp_region ?_;have:=agB (w0:=w0) (I0:=I0) (ρ0:=ρ0) (m0:=m0) o (Q:=Q .normal) (Q':=agI P w0 I0 ρ0 m0 n D Q) (fun e m a w I ρ j i=>⟨e,m,I,ρ,j,i⟩) K.toList 0 e m a w I ρ rfl G i;rw [List.range_eq_range'];simpa using this
  | true=>exact aru N o (q.resolve_left (by simp)) (Q:=Q .normal) (Q':=agI P w0 I0 ρ0 m0 n D Q) (fun e m a w I ρ j i=>⟨e,m,I,ρ,j,i⟩) G i
 | seq x y v r =>
  intro Q e m a w I ρ g h i;simp only [eB] at h;simp only [lE,aAn] at g;refine wp_seq (wp_mono (v _ e m a w I ρ g.1 h i) ?_);intro u E w' j;cases u with
  | normal =>
   obtain ⟨e',m',A,ρ',o,q⟩:=j;exact r Q e' m' E w' A ρ' g.2 o q
  | exit id=>exact j
  | ret=>exact j
  | goto l=>exact j
  | panic c=>exact j
  | outgrown=>exact j
 | cond c x y v r =>
  intro Q e m a w I ρ g h i;simp only [eB] at h;simp only [lE,aAn] at g;have L:=d7 i.er c;unfold aaP at h;split at h
  ·rename_i t B;rw [B] at L;simp only [VR] at L;exact wp_cond_split L (fun B=>v Q e m a w I ρ g.1 (h.1 B) i) (fun B=>r Q e m a w I ρ g.2 (h.2 B) i)
  ·exact h.elim
 | block id b C =>
  intro Q e m a w I ρ g h i;simp only [eB] at h;simp only [lE] at g;refine wp_block (wp_mono (C _ e m a w I ρ g h i) ?_);intro u E w' j;cases u with
  | exit M =>
   obtain ⟨e',m',A,ρ',o,q⟩:=j;simp only [o8] at o;simp only [Exit.inBlock];split at o
   ·rename_i z;rw [if_pos z];exact ⟨e',m',A,ρ',o,q⟩
   ·rename_i z;rw [if_neg z];exact ⟨e',m',A,ρ',o,q⟩
  | normal=>exact j
  | ret=>exact j
  | goto l=>exact j
  | panic c=>exact j
  | outgrown=>exact j
 | loop b C =>
  intro Q e m a w I ρ g h i;simp only [eB] at h;simp only [lE] at g;obtain ⟨J,k,H,p⟩:=h;refine wp_loop_ghost (fun k a w=>∃ e m I ρ,J k e m∧lR P w0 I0 ρ0 m0 n D e m a w I ρ) k ⟨e,m,I,ρ,H,i⟩ ?_;rintro k a w ⟨e,m,I,ρ,H,i⟩;refine wp_mono (C _ e m a w I ρ g (p k e m H) i) ?_;intro u E w' j;cases u with
  | normal =>
   obtain ⟨e',m',A,ρ',⟨k',F,o⟩,q⟩:=j;exact ⟨k',F,e',m',A,ρ',o,q⟩
  | exit id=>exact j
  | ret=>exact j
  | goto l=>exact j
  | panic c=>exact j
  | outgrown=>exact j
 | exit id=>exact fun Q e m a w I ρ _ h i=>wp_exit ⟨e,m,I,ρ,h,i⟩
 | ret=>exact fun Q e m a w I ρ _ h i=>wp_ret ⟨e,m,I,ρ,h,i⟩
 | rangeFunc f ps x y=>exact fun Q e m a w I ρ _ h i=>h.elim
 | scope b C =>
  intro Q e m a w I ρ g h i;simp only [eB] at h;simp only [lE] at g;refine wp_scope_straight (wp_mono (C _ e m a w I ρ g h i) ?_);intro u E w' j;cases u with
  | normal=>exact j
  | exit id=>exact j
  | ret=>exact j
  | goto l=>exact j.elim
  | panic c=>exact j.elim
  | outgrown=>exact j.elim
 | goto l=>exact fun Q e m a w I ρ _ h i=>h.elim
 | refuse s=>exact fun Q e m a w I ρ _ h i=>h.elim
theorem agJ {w:World} {I:Nat→Prop} {ρ:cB} {m:aF} {args:List AV} {vs:Array Value} (c:SR P w I ρ m) (g:vs.size=args.length) (i:bC P w I ρ args (fun j=>vs[j]?)) (a:∀ b,m.next≤b→ρ b=none) (e:args.length≤n) :
 lR P w I ρ m n [] (jY args) m { tmps:=vs++Array.replicate (n - vs.size) undef,defers:=[] } w I ρ where
 er:=by
  intro t;simp only [jY];rw [Array.getD_eq_getD_getElem?,List.getD_eq_getElem?_getD];rcases Nat.lt_or_ge t args.length with h | h
  ·obtain ⟨v,k,f⟩:=gQ i (azj h);rw [Array.getElem?_append_left (by omega),k,azj h];exact f
  ·rw [List.getElem?_eq_none h];rcases Nat.lt_or_ge t n with d | d
   ·rw [Array.getElem?_append_right (by omega),Array.getElem?_replicate,if_pos (by omega)];simp only [aAA,aAB,eN,undef,VR]
   ·rw [Array.getElem?_eq_none (by simp;omega)];simp only [aAA,eN,undef,VR]
 sr:=c
 free:=a
 step:=cL.refl _ _ _ _
 size:=by simp;omega
 defers:=rfl
def acy (tmps:Array Value):ResultVar→Sem Value
 | .tmp t=>pure (tmps.getD t undef)
 | .cell a t=>do loadVar t (←asAddr (tmps.getD a undef))
theorem ajU {w:World} {I:Nat→Prop} {ρ:cB} {e:bB} {m:aF} {a:Act} (q:SR P w I ρ m) (n:ER P w I ρ e a):∀ (l:List ResultVar) (c:List AV),uT P e m l=some c →
 ∃ vs:List Value,(l.mapM (acy a.tmps)).run P w = .ok vs w∧vs.length=c.length∧bC P w I ρ c (fun j=>vs[j]?)
 | [],c,h=>by
  simp only [uT,ayX] at h;subst h;exact ⟨[],by simp,rfl,by simp only [bC]⟩
 | r::l,c,h=>by
  simp only [uT] at h;obtain ⟨C,b,h⟩:=ayQ h;obtain ⟨i,z,rfl⟩:=ayR h;obtain ⟨vs,x,u,s⟩:=ajU q n l i z;cases r with
  | tmp t =>
   simp only [xN,ayX] at b;subst b;refine ⟨a.tmps.getD t undef::vs,by simp [List.mapM_cons,acy,x],by simp [u], ?_⟩;simp only [bC];exact ⟨⟨_,rfl,n t⟩,s⟩
  | cell p t =>
   simp only [xN] at b;obtain ⟨v,k,y⟩:=aiZ q b (n p);refine ⟨v::vs, ?_,by simp [u], ?_⟩
   ·have A:(do loadVar t (←asAddr (a.tmps.getD p undef)):Sem Value).run P w = .ok v w:=by
     have d:=n p;unfold lO at b;split at b
     ·rename_i f;rw [f] at d;simp only [VR] at d;obtain ⟨g,o,_,d⟩:=d;rw [d] at k ⊢;simpa [Instr.loadAt,Instr.sureAddr,asAddr] using k
     ·rename_i f;rw [f] at d;simp only [VR] at d;obtain ⟨g,o,d,_⟩:=d;rw [d] at k ⊢;simpa [Instr.loadAt,Instr.sureAddr,asAddr] using k
     ·cases b
    have B:(acy a.tmps (.cell p t)).run P w = .ok v w:=A;simp only [List.mapM_cons,Sem.run_bind,Sem.run_pure,B,azw,x]
   ·simp only [bC];exact ⟨⟨v,rfl,y⟩,s⟩
theorem agK {w:World} {I:Nat→Prop} {ρ:cB} {e:bB} {m:aF} {a:Act} (p:SR P w I ρ m) (r:ER P w I ρ e a) {b:Func} {n:AV} (h:oK P b.results.toList e m=some n):∃ v,(results b a.tmps).run P w = .ok v w∧VR P w I ρ n v:=by
 unfold oK at h;obtain ⟨j,g,h⟩:=ayR h;obtain ⟨vs,t,i,c⟩:=ajU p r b.results.toList j g;have f:results b a.tmps=(do
  let vs ←b.results.mapM (acy a.tmps)
  pure (if h:vs.size=1 then vs[0] else .tuple vs)):=rfl
 have d:(b.results.mapM (acy a.tmps)).run P w = .ok vs.toArray w:=by
  rw [Array.mapM_eq_mapM_toList,Sem.run_map,t];rfl
 rw [f];simp only [Sem.run_bind,d,azw,Sem.run_pure];refine ⟨_,rfl, ?_⟩;split at h
 ·rename_i x;subst h;simp only [aAC,aAD] at i
  match vs,i,c with
  | [v],_,c =>
   simp only [bC] at c;obtain ⟨⟨u,l,o⟩,_⟩:=c;simp at l;subst l;simpa using o
 ·rename_i k;subst h;have s:vs.length≠1:=by
   intro h;rw [i] at h;obtain ⟨x,q⟩:=List.length_eq_one_iff.1 h;exact k x q
  rw [dif_neg (by simpa using s)];simp only [VR];exact ⟨vs.toArray,rfl,by simpa using i,by simpa using c⟩
def xV (P:Program) (a:List ResultVar) (K:AV→aF→Prop):Ex→bB→aF→Prop
 | .exit _,_,_=>False
 | _,e,m=>match oK P a e m with
  | some v=>K v m
  | none=>False
theorem arv (hm : P.follows .mixedOrders = true) {f : FuncId} {fn : Func} {c : Code} (hf : P.funcs[f]? = some fn) (hb : fn.body = some c) (hn : fn.name ≠ "runtime.NumGoroutine") (once : Nat → Bool) {args : List AV} {r : fF} (hle : args.length ≤ fn.ntmps) (hok : lE fn.ntmps c = true)
   (h : eB P once fn.ntmps c (xV P fn.results.toList fun v m => jG P m v = some r) (jY args) aF.empty) : aR P f args r := by
 refine ⟨by simp [sF, hf, hb, hn], fun w I vs hI hsz hv => ?_⟩
 have hS : SR P w I cZ aF.empty := ⟨fun b k g o h => by simp [aF.empty] at h, fun b b' k k' g o o' h => by simp [aF.empty] at h, hI, jH.none⟩
 have hR := agJ (n := fn.ntmps) hS hsz hv (fun _ _ => rfl) hle
 refine calls_of_wp hf hb (wp_mono (adZ hm c _ _ _ _ w I cZ hok h hR) ?_)
 intro ex a w' hq
 have fin : ∀ e m I' ρ', (match oK P fn.results.toList e m with | some v => jG P m v = some r | none => False) → lR P w I cZ aF.empty fn.ntmps [] e m a w' I' ρ' →
     a.defers = [] ∧ ∃ v, (results fn a.tmps).run P w' = .ok v w' ∧ ∃ v' I' ρ', Ending.returned v = .returned v' ∧ VR P w' I' ρ' r.v v' ∧ SR P w' I' ρ' (dT P aF.empty r.rows) ∧ cL w I cZ aF.empty w' I' ρ' (dT P aF.empty r.rows) := by
   intro e m I' ρ' h1 h2
   split at h1
   · rename_i av hav
     obtain ⟨v, h3, h4⟩ := agK h2.sr h2.er hav
     obtain ⟨ρ'', h5, h6, h7⟩ := ajr h2.sr h2.step h4 h1
     exact ⟨h2.defers, v, h3, v, I', ρ'', rfl, h5, h6, h7⟩
   · exact h1.elim
 cases ex with
 | normal => obtain ⟨e, m, I', ρ', h1, h2⟩ := hq; exact fin e m I' ρ' h1 h2
 | ret => obtain ⟨e, m, I', ρ', h1, h2⟩ := hq; exact fin e m I' ρ' h1 h2
 | exit id => obtain ⟨e, m, I', ρ', h1, h2⟩ := hq; exact h1.elim
 | goto l => exact hq.elim
 | panic c => exact hq.elim
 | outgrown => exact hq.elim
theorem ajV (F:P.follows .mixedOrders=true) {g:Func} {c:Code} (once:Nat→Bool) {args:List AV} {m:aF} {Q:AV→aF→Prop} (s:args.length≤g.ntmps) (q:lE g.ntmps c=true)
 (h:eB P once g.ntmps c (xV P g.results.toList Q) (jY args) m) {w:World} {I:Nat→Prop} {ρ:cB} {vs:Array Value} (C:SR P w I ρ m) (t:vs.size=args.length) (A:bC P w I ρ args (fun j=>vs[j]?)) (k:∀ b,m.next≤b→ρ b=none) :
 c.wp P (bodyPost P g fun E w'=>∃ v r m' d ρ',E = .returned v∧Q r m'∧VR P w' d ρ' r v∧SR P w' d ρ' m'∧cL w I ρ m w' d ρ' m'∧∀ b,m'.next≤b→ρ' b=none) { tmps:=vs++Array.replicate (g.ntmps - vs.size) undef,defers:=[] } w:=by
 refine wp_mono (adZ F c _ _ _ _ w I ρ q h (agJ (n:=g.ntmps) C t A k s)) ?_;intro z a w' o;have p:∀ e m' d ρ',(match oK P g.results.toList e m' with | some v=>Q v m' | none=>False)→lR P w I ρ m g.ntmps [] e m' a w' d ρ' →
  a.defers=[]∧∃ v,(results g a.tmps).run P w' = .ok v w'∧∃ x r m' d ρ',Ending.returned v = .returned x∧Q r m'∧VR P w' d ρ' r x∧SR P w' d ρ' m'∧cL w I ρ m w' d ρ' m'∧∀ b,m'.next≤b→ρ' b=none:=by
  intro e m' d ρ' i f;split at i
  ·rename_i D u;obtain ⟨v,B,y⟩:=agK f.sr f.er u;exact ⟨f.defers,v,B,v,D,m',d,ρ',rfl,i,y,f.sr,f.step,f.free⟩
  ·exact i.elim
 cases z with
 | normal=>obtain ⟨e,m,d,ρ',i,f⟩:=o;exact p e m d ρ' i f
 | ret=>obtain ⟨e,m,d,ρ',i,f⟩:=o;exact p e m d ρ' i f
 | exit id=>obtain ⟨e,m,d,ρ',i,f⟩:=o;exact i.elim
 | goto l=>exact o.elim
 | panic c=>exact o.elim
 | outgrown=>exact o.elim
theorem arw (hm : P.follows .mixedOrders = true) {f : FuncId} {fn : Func} {c : Code} (hf : P.funcs[f]? = some fn) (hb : fn.body = some c) (hn : fn.name ≠ "runtime.NumGoroutine") (once : Nat → Bool) {args : List AV} {m : aF} {Q : AV → aF → Prop} (hle : args.length ≤ fn.ntmps) (hok : lE fn.ntmps c = true)
   (h : eB P once fn.ntmps c (xV P fn.results.toList Q) (jY args) m) : fH P f args m Q :=
 ⟨by simp [sF, hf, hb, hn], fun w I ρ vs hS hsz hv hfree => calls_of_wp hf hb (ajV hm once hle hok h hS hsz hv hfree)⟩
end
def aaR (P:Program) (t:TypeId):Option IntKind:=match P.underlying t with | some (.int k)=>some k | _=>none
def nQ (P:Program) (once:Nat→Bool) (d:Bool) (b:Array Oper) (Q:bB→aF→Prop) (a:List Oper) (e:bB) (m:aF) (dst:Option Nat) (out:bR):Prop :=
 (d=true→drawn once b (a.length+1) m out)∧iL P once d b Q a ((t6 e out.wb).put dst out.v) out.m
section
variable {P:Program} {once:Nat→Bool} {d:Bool} {n:Nat} {ops:Array Oper} {Q:bB→aF→Prop} {e:bB} {m:aF} {K:bR→Prop} {R:Ex→bB→aF→Prop}
theorem ajW:iL P once d ops Q [] e m=Q e m:=rfl
theorem ajX {o:Oper} {a:List Oper}:iL P once d ops Q (o::a) e m=if q8 ops e o then cC P d (once (o.dst.getD 0)) e m o.type (nQ P once d ops Q a e m o.dst) o.op else iL P once d ops Q a (e.put o.dst eN) m:=rfl
theorem ajY {a:List Oper} {dst:Option Nat} {op:Op} {ty:TypeId} {pos:String} {after:Array Edge}:iL P once d ops Q (⟨dst,op,ty,pos,after,none⟩::a) e m=cC P d (once (dst.getD 0)) e m ty (nQ P once d ops Q a e m dst) op:=rfl
def xW:List Oper→Nat→Option Nat
 | [],_=>none
 | o::_,0=>o.dst
 | _::l,n+1=>xW l n
theorem ajZ {dst:Option Nat} {op:Op} {ty:TypeId} {pos:String} {after:Array Edge} {g:Option (Nat×Bool)} {l:List Oper}:xW (⟨dst,op,ty,pos,after,g⟩::l) 0=dst:=rfl
theorem aj0 {o:Oper} {l:List Oper} {n:Nat}:xW (o::l) (n+1)=xW l n:=rfl
theorem aj1:∀ (l:List Oper) (j:Nat),xW l j=(l[j]?).bind (·.dst)
 | [],_=>rfl
 | o::_,0=>rfl
 | _::l,n+1=>by rw [xW,aj1 l n];rfl
def agL (e:bB):Option Nat→AV
 | some d=>e d
 | none=>eN
theorem aj2 {j:Nat}:agL e (some j)=e j:=rfl
def agM (a:Bool) (A B:Prop):AV→Prop
 | .val (.bool b)=>match b == a with
  | true=>A
  | false=>B
 | _=>B
theorem arx {o:Oper} {j:Nat} {a:Bool} (h:o.guard=some (j,a)):q8 ops e o=match agL e (xW ops.toList j) with
 | .val (.bool b)=>b == a
 | _=>false:=by
 rw [aj1,Array.getElem?_toList];unfold q8;rw [h];simp only;cases (ops[j]?).bind (·.dst) <;> rfl
theorem ary {a:Bool} {A B:Prop} (x:AV) {c:Bool} (h:c=match x with | .val (.bool b)=>b == a | _=>false):(if c=true then A else B)=agM a A B x:=by
 subst h;unfold agM;split
 ·rename_i b;have:∀ c:Bool,(if c=true then A else B)=(match c with | true=>A | false=>B):=by intro c;cases c <;> simp
  exact this _
 ·simp
def o9 (P:Program) (once:Nat→Bool) (d:Bool) (c:Array Oper) (Q:bB→aF→Prop) (a:List Oper) (dst:Option Nat) (op:Op) (ty:TypeId) (e:bB) (m:aF) (b:Bool) (x:AV):Prop :=
 agM b (cC P d (once (dst.getD 0)) e m ty (nQ P once d c Q a e m dst) op) (iL P once d c Q a (e.put dst eN) m) x
section
variable {rest:List Oper} {dst:Option Nat} {op:Op} {ty:TypeId} {want:Bool} {pos:String} {after:Array Edge} {j:Nat}
theorem aj3:iL P once d ops Q (⟨dst,op,ty,pos,after,some (j,want)⟩::rest) e m=o9 P once d ops Q rest dst op ty e m want (agL e (xW ops.toList j)):=by
 rw [ajX];exact ary _ (arx rfl)
theorem aj4:o9 P once d ops Q rest dst op ty e m true (.val (.bool true))=cC P d (once (dst.getD 0)) e m ty (nQ P once d ops Q rest e m dst) op:=rfl
theorem aj5:o9 P once d ops Q rest dst op ty e m false (.val (.bool false))=cC P d (once (dst.getD 0)) e m ty (nQ P once d ops Q rest e m dst) op:=rfl
theorem aj6:o9 P once d ops Q rest dst op ty e m true (.val (.bool false))=iL P once d ops Q rest (e.put dst eN) m:=rfl
theorem aj7:o9 P once d ops Q rest dst op ty e m false (.val (.bool true))=iL P once d ops Q rest (e.put dst eN) m:=rfl
theorem aj8:o9 P once d ops Q rest dst op ty e m want eN=iL P once d ops Q rest (e.put dst eN) m:=rfl
theorem cS {t:Bool} (b:t=true→o9 P once d ops Q rest dst op ty e m want (.val (.bool true))) (a:t=false→o9 P once d ops Q rest dst op ty e m want (.val (.bool false))):o9 P once d ops Q rest dst op ty e m want (.val (.bool t)):=by
 cases t with
 | true=>exact b rfl
 | false=>exact a rfl
end
section
variable {rest:List Oper} {dst:Option Nat} {op:Op} {ty:TypeId} {want:Bool} {p:Prop} [Decidable p]
theorem cU (b:p→o9 P once d ops Q rest dst op ty e m want (.val (.bool true))) (a:¬p→o9 P once d ops Q rest dst op ty e m want (.val (.bool false))):o9 P once d ops Q rest dst op ty e m want (.val (.bool (decide p))) :=
 cS (fun h=>b (of_decide_eq_true h)) (fun h=>a (of_decide_eq_false h))
theorem cV (b:p→o9 P once d ops Q rest dst op ty e m want (.val (.bool false))) (a:¬p→o9 P once d ops Q rest dst op ty e m want (.val (.bool true))):o9 P once d ops Q rest dst op ty e m want (.val (.bool (!decide p))) :=
 cS (fun h=>a (by simpa using h)) (fun h=>b (by simpa using h))
end
def qC (P:Program) (once:Nat→Bool) (n:Nat) (a b:Code) (R:Ex→bB→aF→Prop) (e:bB) (m:aF) (x:AV):Prop:=aaP (eB P once n a R e m) (eB P once n b R e m) x
section
variable {a b:Code}
theorem aj9 {c:Operand}:eB P once n (.cond c a b) R e m=qC P once n a b R e m (opd e c):=rfl
theorem cM {t:Bool} (d:t=true→qC P once n a b R e m (.val (.bool true))) (c:t=false→qC P once n a b R e m (.val (.bool false))):qC P once n a b R e m (.val (.bool t)):=by
 cases t with
 | true=>exact d rfl
 | false=>exact c rfl
theorem cO {p:Prop} [Decidable p] (d:p→qC P once n a b R e m (.val (.bool true))) (c:¬p→qC P once n a b R e m (.val (.bool false))):qC P once n a b R e m (.val (.bool (decide p))) :=
 cM (fun h=>d (of_decide_eq_true h)) (fun h=>c (of_decide_eq_false h))
theorem cQ {p:Prop} [Decidable p] (d:p→qC P once n a b R e m (.val (.bool false))) (c:¬p→qC P once n a b R e m (.val (.bool true))):qC P once n a b R e m (.val (.bool (!decide p))) :=
 cM (fun h=>c (by simpa using h)) (fun h=>d (by simpa using h))
theorem iS:qC P once n a b R e m (.val (.bool true))=eB P once n a R e m:=by simp [qC,aaP]
theorem fO:qC P once n a b R e m (.val (.bool false))=eB P once n b R e m:=by simp [qC,aaP]
end
theorem uV {x y:AV}:ab9 x y (.val (.bool true))=some x:=rfl
theorem uA {x y:AV}:ab9 x y (.val (.bool false))=some y:=rfl
theorem aka {m':aF} {a:List Oper} {dst:Nat} {v:AV}:nQ P once false ops Q a e m (some dst) ⟨v,m',none⟩=iL P once false ops Q a (e.set dst v) m':=by simp [nQ,t6,bB.put]
theorem akb {m':aF} {a:List Oper} {v:AV}:nQ P once false ops Q a e m none ⟨v,m',none⟩=iL P once false ops Q a e m':=by simp [nQ,t6,bB.put]
theorem akc {a:List Oper} {dst:Option Nat} {v x:AV} {m':aF} {t:Nat}:nQ P once false ops Q a e m dst ⟨v,m',some (t,x)⟩=iL P once false ops Q a ((e.set t x).put dst v) m':=by simp [nQ,t6]
theorem akd {a:List Oper} {dst:Nat} {v:AV}:nQ P once true ops Q a e m (some dst) ⟨v,m,none⟩=iL P once true ops Q a (e.set dst v) m:=by simp [nQ,t6,bB.put,drawn]
theorem ake {a:List Oper} {v:AV}:nQ P once true ops Q a e m none ⟨v,m,none⟩=iL P once true ops Q a e m:=by simp [nQ,t6,bB.put,drawn]
theorem dE {a:List Oper} {dst:Option Nat} {v:AV} {m':aF} (b:adU once ops (ops.size - (a.length+1))=true) (h:iL P once true ops Q a (e.put dst v) m'):nQ P once true ops Q a e m dst ⟨v,m',none⟩:=⟨fun _=>⟨rfl,.inl b⟩,h⟩
theorem oN {a:List Oper} {dst:Option Nat} {v:AV} {x:eR} (b:vX once ops (ops.size - (a.length+1))=true) (h:iL P once true ops Q a (e.put dst v) (m.push x)):nQ P once true ops Q a e m dst ⟨v,m.push x,none⟩:=⟨fun _=>⟨rfl,.inr (.inr ⟨b,x,rfl⟩)⟩,h⟩
theorem akf {o:bR}:eO (some o) K=K o:=rfl
theorem akg {v:AV}:eO (eX (some v) m) K=K ⟨v,m,none⟩:=rfl
theorem akh {v:AV}:eO (bL v m) K=K ⟨v,m,none⟩:=rfl
theorem agN {t:Nat} {v:AV}:e.put (some t) v=e.set t v:=rfl
theorem aki {v:AV}:e.put none v=e:=rfl
theorem akj {t j:Nat} {v:AV}:(e.set t v) j=if j=t then v else e j:=rfl
theorem akk {K:bB→aF→Prop}:qB K R .normal e m=K e m:=rfl
theorem akl {K:bB→aF→Prop}:qB K R .ret e m=R .ret e m:=rfl
theorem akm {K:bB→aF→Prop} {id:Nat}:qB K R (.exit id) e m=R (.exit id) e m:=rfl
theorem akn {id:Nat}:o8 id R .normal e m=R .normal e m:=rfl
theorem ako {id:Nat}:o8 id R .ret e m=R .ret e m:=rfl
theorem akp {id a:Nat}:o8 id R (.exit a) e m=if a=id then R .normal e m else R (.exit a) e m:=rfl
theorem akq {a:List ResultVar} {K:AV→aF→Prop}:xV P a K .ret e m=match oK P a e m with | some v=>K v m | none=>False:=rfl
theorem akr {a:List ResultVar} {K:AV→aF→Prop}:xV P a K .normal e m=match oK P a e m with | some v=>K v m | none=>False:=rfl
theorem aks {t:Tmp}:oK P [.tmp t] e m=some (e t):=rfl
theorem akt {t u:Tmp}:oK P [.tmp t,.tmp u] e m=some (.tup [e t,e u]):=rfl
theorem aku {t u x:Tmp}:oK P [.tmp t,.tmp u,.tmp x] e m=some (.tup [e t,e u,e x]):=rfl
theorem akv {t:Nat}:opd e (.tmp t)=e t:=rfl
theorem akw {a:AV} {l:List AV}:jY (a::l) 0=a:=rfl
theorem akx {a:AV} {l:List AV} {n:Nat}:jY (a::l) (n+1)=jY l n:=rfl
theorem aky {n:Nat}:jY [] n=eN:=rfl
theorem akz {v:Value}:opd e (.const v) = .val v:=rfl
theorem akA {f:FuncId}:opd e (.func f) = .clo f []:=rfl
@[congr] theorem outW_congr {r g:Option bR} (h:r=g):eO r K=eO g K:=by rw [h]
@[congr] theorem makeW_congr {m m':aF} (h:m=m'):aaK m K=aaK m' K:=by rw [h]
@[congr] theorem rangeW_congr {x a:AV} {t:TypeId} (h:x=a):aaL P m t x K=aaL P m t a K:=by rw [h]
@[congr] theorem nextW_congr {x a:AV} (h:x=a):aaM m x K=aaM m a K:=by rw [h]
@[congr] theorem calleeW_congr {c f:Bool} {args:List AV} {x a:AV} (i:c=f) (h:x=a):nP P d c m args K x=nP P d f m args K a:=by rw [h,i]
theorem akB {id:Nat} {b:Array Oper} {d:Bool}:eB P once n (.region id b d) R e m=iL P once d b (R .normal) b.toList e m:=rfl
theorem akC {a b:Code}:eB P once n (.seq a b) R e m=eB P once n a (qB (eB P once n b R) R) e m:=rfl
theorem akD {id:Nat} {b:Code}:eB P once n (.block id b) R e m=eB P once n b (o8 id R) e m:=rfl
theorem bS {b:Code}:eB P once n (.loop b) R e m=zN (eB P once n b) R e m:=rfl
theorem akE {id:Nat}:eB P once n (.exit id) R e m=R (.exit id) e m:=rfl
theorem akF:eB P once n .ret R e m=R .ret e m:=rfl
theorem akG {b:Code}:eB P once n (.scope b) R e m=eB P once n b R e m:=rfl
theorem akH {l:Nat}:eB P once n (.label l) R e m=R .normal e m:=rfl
theorem akI:eB P once n .skip R e m=R .normal e m:=rfl
theorem akJ {once:Bool} {ty:TypeId} {x:Operand}:cC P d once e m ty K (.move x)=K ⟨opd e x,m,none⟩:=rfl
theorem akK {once:Bool} {ty:TypeId} {x:Operand}:cC P d once e m ty K (.assign x)=K ⟨opd e x,m,none⟩:=rfl
end
theorem pre:(type_of% @ajW)∧(type_of% @ajY)∧(type_of% @aj3)∧(type_of% @aka)∧(type_of% @akb)∧(type_of% @akd)∧(type_of% @ake)∧(type_of% @akc)∧(type_of% @akg)∧(type_of% @akh)∧(type_of% @akf)∧(type_of% @akk)∧(type_of% @akl)∧(type_of% @akm)∧(type_of% @akn)∧(type_of% @ako)∧(type_of% @akp)∧(type_of% @akq)∧(type_of% @akr)∧(type_of% @aks)∧(type_of% @akt)∧(type_of% @aku)∧(type_of% @akv)∧(type_of% @akz)∧(type_of% @akA)∧(type_of% @akj)∧(type_of% @agN)∧(type_of% @akw)∧(type_of% @akx)∧(type_of% @aky)∧(type_of% @aki)∧(type_of% @ajZ)∧(type_of% @aj0)∧(type_of% @aj2)∧(type_of% @aj4)∧(type_of% @aj6)∧(type_of% @aj7)∧(type_of% @aj5)∧(type_of% @aj8)∧(type_of% @iS)∧(type_of% @fO)∧(type_of% @uV)∧(type_of% @uA)∧(type_of% @akG)∧(type_of% @akH)∧(type_of% @akB)∧(type_of% @akC)∧(type_of% @aj9)∧(type_of% @akD)∧(type_of% @akE)∧(type_of% @akF)∧(type_of% @akI)∧(type_of% @akJ)∧(type_of% @akK) :=
 ⟨@ajW,@ajY,@aj3,@aka,@akb,@akd,@ake,@akc,@akg,@akh,@akf,@akk,@akl,@akm,@akn,@ako,@akp,@akq,@akr,@aks,@akt,@aku,@akv,@akz,@akA,@akj,@agN,@akw,@akx,@aky,@aki,@ajZ,@aj0,@aj2,@aj4,@aj6,@aj7,@aj5,@aj8,@iS,@fO,@uV,@uA,@akG,@akH,@akB,@akC,@aj9,@akD,@akE,@akF,@akI,@akJ,@akK⟩
section
variable {P:Program} {t:TypeId} {x y:Operand} {k:IntKind} {a b:Int}
theorem qD (op:BinOp):dR P op t x y (.val (.int k a)) (.val (.int k b))=((cF P (binOp op t (.int k a) (.int k b))).map .val):=by
 simp [dR,pZ,eqGuard_at_int]
theorem akL:dR P .lss t x y (.val (.int k a)) (.val (.int k b))=some (.val (.bool (decide (a < b)))):=by
 simp [qD,binOp,Op.intCmp,cF,aAE]
theorem akM:dR P .leq t x y (.val (.int k a)) (.val (.int k b))=some (.val (.bool (decide (a≤b)))):=by
 simp [qD,binOp,Op.intCmp,cF,aAE]
theorem akN:dR P .gtr t x y (.val (.int k a)) (.val (.int k b))=some (.val (.bool (decide (b < a)))):=by
 simp [qD,binOp,Op.intCmp,cF,aAE]
theorem akO:dR P .geq t x y (.val (.int k a)) (.val (.int k b))=some (.val (.bool (decide (b≤a)))):=by
 simp [qD,binOp,Op.intCmp,cF,aAE]
theorem akP:dR P .eql t x y (.val (.int k a)) (.val (.int k b))=some (.val (.bool (decide (a=b)))):=by
 have:(a == b)=decide (a=b):=by by_cases h:a=b <;> simp [h]
 simp [qD,binOp,Op.intCmp,cF,aAE,this]
theorem akQ:dR P .neq t x y (.val (.int k a)) (.val (.int k b))=some (.val (.bool (!decide (a=b)))):=by
 have:(a != b) = !decide (a=b):=by by_cases h:a=b <;> simp [h]
 simp [qD,binOp,Op.intCmp,cF,aAE,this]
theorem akR:dR P .add t x y (.val (.int k a)) (.val (.int k b))=some (.val (.int k (k.wrap (a+b)))):=by
 simp [qD,binOp,Op.intArith,cF,aAE]
theorem akS:dR P .sub t x y (.val (.int k a)) (.val (.int k b))=some (.val (.int k (k.wrap (a - b)))):=by
 simp [qD,binOp,Op.intArith,cF,aAE]
theorem akT:dR P .mul t x y (.val (.int k a)) (.val (.int k b))=some (.val (.int k (k.wrap (a*b)))):=by
 simp [qD,binOp,Op.intArith,cF,aAE]
theorem akU (c:b≠0):dR P .quo t x y (.val (.int k a)) (.val (.int k b))=some (.val (.int k (k.wrap (a.tdiv b)))):=by
 simp [qD,binOp,Op.intDiv,cF,aAE,c]
theorem ad0 (c:b≠0):dR P .rem t x y (.val (.int k a)) (.val (.int k b))=some (.val (.int k (a.tmod b))):=by
 simp [qD,binOp,Op.intDiv,cF,aAE,c]
theorem akV {c:Bool}:zA P .not (.val (.bool c))=some (.val (.bool !c)):=by
 simp [zA,Op.unary,cF,aAE]
end
mutual
theorem akW:∀ (v:AV),r7 v=true→jX v=true
 | .val _,_=>rfl
 | .agg cs,h=>by simp only [r7] at h;simp only [jX];exact agO cs h
 | .tup cs,h=>by simp only [r7] at h;simp only [jX];exact agO cs h
 | .tree ..,h=>by simp [r7] at h
 | .tptr ..,h=>by simp [r7] at h
 | .emp ..,h=>by simp [r7] at h
 | .sl ..,h=>by simp [r7] at h
 | .ptr ..,h=>by simp [r7] at h
 | .clo ..,h=>by simp [r7] at h
theorem agO:∀ (l:List AV),ady l=true→lP l=true
 | [],_=>rfl
 | c::cs,h=>by
  simp only [ady,aAn] at h
  simp only [lP,aAn]
  exact ⟨akW c h.1,agO cs h.2⟩
end
theorem arz:(∀ v,r7 v=true→jX v=true)∧True:=⟨akW,trivial⟩
section
variable {P:Program} {d:Bool} {m:aF} {K:bR→Prop} {f:FuncId}
theorem akX {c:Bool} {args a:List AV}:nP P false c m args K (.clo f a)=nO P false f (args++a) m K:=by cases c <;> rfl
theorem akY {args a:List AV}:nP P true false m args K (.clo f a)=nO P true f (args++a) m K:=rfl
theorem akZ {args a:List AV}:nP P true true m args K (.clo f a)=zM P f (args++a) m K:=rfl
mutual
def plain:AV→Bool
 | .val _ | .tree .. | .tptr .. | .emp .. => true
 | .agg cs=>c9 cs
 | .clo _ cs=>c9 cs
 | _=>false
def c9:List AV→Bool
 | []=>true
 | c::cs=>plain c && c9 cs
end
mutual
theorem uW:∀ (k:Nat) (v:AV),plain v=true→lend k m v=some v∧i7 v=false
 | k,.val v,h=>by unfold lend;simp [i7]
 | k,.tree _ _ _ _,h=>by unfold lend;simp [i7]
 | k,.tptr _ _,h=>by unfold lend;simp [i7]
 | k,.emp _ _,h=>by unfold lend;simp [i7]
 | k,.agg cs,h=>by
  simp only [plain] at h
  unfold lend
  simp [i7,(qE k cs h).1,(qE k cs h).2]
 | k,.clo f cs,h=>by
  simp only [plain] at h
  unfold lend
  simp [i7,(qE k cs h).1,(qE k cs h).2]
 | k,.tup _,h=>by simp [plain] at h
 | k,.sl _ _ _ _ _,h=>by simp [plain] at h
 | k,.ptr _ _,h=>by simp [plain] at h
theorem qE:∀ (k:Nat) (v:List AV),c9 v=true→d9 k m v=some v∧j5 v=false
 | k,[],h=>by unfold d9;simp [j5]
 | k,c::cs,h=>by
  simp only [c9,aAn] at h
  unfold d9
  simp [j5,uW k c h.1,qE k cs h.2]
end
theorem aH {args:List AV} {r:fF} (h:aR P f args r) (a:c9 args=true) (b:K ⟨shift m.next r.v,dT P m r.rows,none⟩):nO P d f args m K :=
 .inl ⟨args,r,(qE 3 args a).1,h,.inl (qE (m:=m) 3 args a).2,b⟩
theorem aG {args:List AV} {v:AV} (h:aR P f args ⟨v,[]⟩) (a:c9 args=true) (hs:∀ k,shift k v=v) (b:K ⟨v,m,none⟩):zM P f args m K :=
 ⟨_,h,rfl,fun k m=>(qE k args a).1,(qE (m:=m) 3 args a).2,hs,b⟩
theorem xX {args a:List AV} {r:fF} (h:aR P f a r) (e:d9 3 m args=some a) (hs:r7 r.v=true) (b:r.rows=[]) (c:K ⟨shift m.next r.v,m,none⟩):nO P d f args m K :=
 .inl ⟨a,r,e,h,.inr (by
  simp only [fF.apart,b,List.all_nil,aAF];exact (arz.1 r.v hs)),by rw [b];exact c⟩
theorem ad1 {args a:List AV} {r:fF} (h:aR P f a r) (c:d9 3 m args=some a) (hs:r.apart=true) (b:K ⟨shift m.next r.v,dT P m r.rows,none⟩):nO P d f args m K :=
 .inl ⟨a,r,c,h,.inr hs,b⟩
theorem zO {args a:List AV} {r:fF} {b:aF} (h:aR P f a r) (e:fzs m args=some (a,b)) (c:K ⟨shift b.next r.v,dT P b r.rows,none⟩):nO P d f args m K :=
 .inr (.inr (.inr (.inr ⟨a,b,r,e,h,c⟩)))
end
theorem xY {a b:Bool} (h:a=true↔b=true):(some ⟨.val (.bool a),[]⟩:Option fF)=some ⟨aV b,[]⟩:=by
 have:a=b:=by cases a <;> cases b <;> simp_all
 rw [this];rfl
theorem min2 {P:Program} {m:aF} {ts:Array TypeId} {ty:TypeId} {k:IntKind} {a b:Int}:r6 P m ts ty [.val (.int k a),.val (.int k b)] .min=some ⟨.val (.int k (min a b)),m,none⟩:=by
 have:(if b < a then b else a)=min a b:=by omega
 simp [r6,pY,i6,Builtin.min_,Builtin.min2,cF,eX,Bind.bind,Sem.bind,aAE,this]
theorem max2 {P:Program} {m:aF} {ts:Array TypeId} {ty:TypeId} {k:IntKind} {a b:Int}:r6 P m ts ty [.val (.int k a),.val (.int k b)] .max=some ⟨.val (.int k (max a b)),m,none⟩:=by
 have:(if b > a then b else a)=max a b:=by omega
 simp [r6,pY,i6,Builtin.max_,Builtin.max2,cF,eX,Bind.bind,Sem.bind,aAE,this]
theorem ak0 {P:Program} {c:Bool} {m:aF} {t:TypeId} {x:AV}:tY P false c m t x=lO P m t x:=rfl
theorem ak1 {P:Program} {m:aF} {t:TypeId} {x:AV}:tY P true false m t x=lO P m t x:=rfl
theorem ak2 {P:Program} {m:aF} {t:TypeId} {a:Nat} {cells:List AV}:tY P true true m t (.tptr a cells)=oJ P t cells a:=rfl
theorem arA {P:Program} {m:aF} {src dst:TypeId} {s:ByteArray} (h:(bZ P dst).isSome=true) (c:(bZ P dst).all (rX P)=true) (d:oH P src=true) (b:(bZ P dst).bind (cE P)=some 1):mL P true m src dst (.val (.string s))=some ⟨.tree s.size s.size (fT s) false,m,none⟩:=by
 obtain ⟨el,a⟩:=aAl.1 h;rw [a] at c b;simp only [Option.all_some,aAh] at c b;simp [mL,a,c,d,b,bL]
theorem arB {P:Program} {m:aF} {src dst:TypeId} {x:AV}:mL P false m src dst x=mJ P m src dst x:=by unfold mL;rfl
theorem aaS {P:Program} {c:Bool} {m:aF} {src dst:TypeId} {x:AV} (h:bZ P dst=none):mL P c m src dst x=mJ P m src dst x:=by unfold mL;rw [h];cases c <;> rfl
theorem ak3 {P:Program} {d:Bool} {m:aF} {src dst:TypeId} {x:AV}:mM P d false m src dst x=mJ P m src dst x:=arB
theorem agP {P:Program} {d c:Bool} {m:aF} {src dst:TypeId} {v:Value}:mM P d c m src dst (.val v)=mL P c m src dst (.val v):=by cases c <;> cases d <;> rfl
theorem ak4 {P:Program} {c:Bool} {m:aF} {src dst:TypeId} {x:AV} (h:bZ P dst=none):mM P false c m src dst x=mJ P m src dst x:=by
 have:mM P false c m src dst x=mL P c m src dst x:=by cases c <;> rfl
 rw [this,aaS h]
theorem agQ {P:Program} {d c:Bool} {m:aF} {src dst:TypeId} {v:Value} (h:bZ P dst=none):mM P d c m src dst (.val v)=mJ P m src dst (.val v):=by rw [agP,aaS h]
theorem ad2 {P:Program} {d c:Bool} {m:aF} {src dst:TypeId} {n cap:Nat} {cs:List AV} {b:Bool} (h:bZ P dst=none):mM P d c m src dst (.tree n cap cs b)=mJ P m src dst (.tree n cap cs b):=by
 have:mM P d c m src dst (.tree n cap cs b)=mL P c m src dst (.tree n cap cs b):=by cases c <;> cases d <;> rfl
 rw [this,aaS h]
theorem ad3 {P:Program} {d:Bool} {m:aF} {src dst:TypeId} {s:ByteArray} (h:(bZ P dst).isSome=true) (c:(bZ P dst).all (rX P)=true) (b:oH P src=true) (a:(bZ P dst).bind (cE P)=some 1):mM P d true m src dst (.val (.string s))=some ⟨.tree s.size s.size (fT s) false,m,none⟩:=by rw [agP,arA h c b a]
theorem ak5 {P:Program} {d:Bool} {m:aF} {t:TypeId} {len:Nat} {parts:List (Nat×AV)}:tZ P d false m t len parts=p6 P m t len parts:=rfl
theorem ak6 {P:Program} {m:aF} {t:TypeId} {len:Nat} {parts:List (Nat×AV)}:tZ P true true m t len parts=gF P m t len parts:=rfl
theorem agR {P:Program} {m:aF} {t:TypeId} {len:Nat} {parts:List (Nat×AV)} (h:(gF P m t len parts).isSome=true):tZ P false true m t len parts=gF P m t len parts:=by
 obtain ⟨o,a⟩:=aAl.1 h;simp only [tZ,a,adT]
theorem ak7 {P:Program} {m:aF} {t:TypeId} {len:Nat} {parts:List (Nat×AV)} (h:gF P m t len parts=none):tZ P false true m t len parts=xU P m t len parts:=by
 simp only [tZ,h,adT]
theorem ak8 {P:Program} {c:Bool} {m:aF} {t:TypeId} {x:AV} {lo hi mx:Option AV}:sliceX P false c m t x lo hi mx=if slOk P m t x then (dB lo).bind fun lo=>(dB hi).bind fun hi=>(dB mx).bind fun mx=>eX (mH P t lo hi mx x) m else none:=by cases c <;> rfl
theorem ak9 {P:Program} {m:aF} {t:TypeId} {x:AV} {lo hi mx:Option AV}:sliceX P true false m t x lo hi mx=if slOk P m t x then (dB lo).bind fun lo=>(dB hi).bind fun hi=>(dB mx).bind fun mx=>eX (mH P t lo hi mx x) m else none:=rfl
theorem ala {P:Program} {m:aF} {t:TypeId} {n c:Nat} {cs:List AV} {f:Bool} {lo hi mx:Option AV}:sliceX P true true m t (.tree n c cs f) lo hi mx=(dB lo).bind fun lo=>(dB hi).bind fun hi=>(dB mx).bind fun mx=>eX (mH P t lo hi mx (.tree n c cs f)) m:=rfl
theorem alb {P:Program} {m:aF} {t:TypeId} {v:Value} {lo hi mx:Option AV}:sliceX P true true m t (.val v) lo hi mx=(dB lo).bind fun lo=>(dB hi).bind fun hi=>(dB mx).bind fun mx=>eX (mH P t lo hi mx (.val v)) m:=rfl
theorem alc {P:Program} {m:aF} {t:TypeId} {n:Nat} {cs:List AV} {lo hi mx:Option AV}:sliceX P true true m t (.tptr n cs) lo hi mx=(dB lo).bind fun lo=>(dB hi).bind fun hi=>(dB mx).bind fun mx=>eX (mH P t lo hi mx (.tptr n cs)) m:=rfl
structure Hid (p:Prop):Prop where
 out:p
theorem post:(type_of% @ak8)∧(type_of% @ak9)∧(type_of% @ala)∧(type_of% @alb)∧(type_of% @alc)∧(type_of% @ak0)∧(type_of% @ak1)∧(type_of% @ak2)∧(type_of% @ak3)∧(type_of% @ak4)∧(type_of% @agQ)∧(type_of% @ad2)∧(type_of% @ad3)∧(type_of% @ak5)∧(type_of% @ak6)∧(type_of% @agR)∧(type_of% @min2)∧(type_of% @max2)∧(type_of% @akX)∧(type_of% @akY)∧(type_of% @akZ)∧(type_of% @akL)∧(type_of% @akM)∧(type_of% @akN)∧(type_of% @akO)∧(type_of% @akP)∧(type_of% @akQ)∧(type_of% @akR)∧(type_of% @akS)∧(type_of% @akT)∧(type_of% @akV) :=
 ⟨@ak8,@ak9,@ala,@alb,@alc,@ak0,@ak1,@ak2,@ak3,@ak4,@agQ,@ad2,@ad3,@ak5,@ak6,@agR,@min2,@max2,@akX,@akY,@akZ,@akL,@akM,@akN,@akO,@akP,@akQ,@akR,@akS,@akT,@akV⟩
theorem sb:(type_of% @aAG.{0})∧(type_of% @ne_eq.{1})∧(type_of% @not_false_eq_true)∧(type_of% @aAC.{0})∧(type_of% @aAD.{0})∧(type_of% @List.map_cons.{0,0})∧(type_of% @List.map_nil.{0,0})∧(type_of% @List.append_nil.{0})∧(type_of% @List.cons_append.{0})∧(type_of% @List.nil_append.{0})∧(type_of% @List.take_succ_cons.{0})∧(type_of% @List.take_zero.{0})∧(type_of% @aAH.{0})∧(type_of% @List.drop_zero.{0})∧(type_of% @Nat.zero_add)∧(type_of% @Nat.add_zero)∧(type_of% @Nat.zero_le)∧(type_of% @Nat.le_refl)∧(type_of% @decide_true)∧(type_of% @decide_false)∧(type_of% @Bool.not_true)∧(type_of% @Bool.not_false)∧(type_of% @if_true.{1})∧(type_of% @if_false.{1})∧(type_of% @azx)∧(type_of% @true_and)∧(type_of% @and_true)∧(type_of% @aAh.{0,0})∧(type_of% @az3.{0,0})∧(type_of% @aAI.{0})∧(type_of% @aAJ.{0})∧(type_of% @and_self) :=
 ⟨@aAG.{0},@ne_eq.{1},@not_false_eq_true,@aAC.{0},@aAD.{0},@List.map_cons.{0,0},@List.map_nil.{0,0},@List.append_nil.{0},@List.cons_append.{0},@List.nil_append.{0},@List.take_succ_cons.{0},@List.take_zero.{0},@aAH.{0},@List.drop_zero.{0},@Nat.zero_add,@Nat.add_zero,@Nat.zero_le,@Nat.le_refl,@decide_true,@decide_false,@Bool.not_true,@Bool.not_false,@if_true.{1},@if_false.{1},@azx,@true_and,@and_true,@aAh.{0,0},@az3.{0,0},@aAI.{0},@aAJ.{0},@and_self⟩
def sq:=(⟨@cC.eq_1,@cC.eq_2,@cC.eq_3,@cC.eq_4,@cC.eq_5,@cC.eq_6,@cC.eq_7,@cC.eq_8,@cC.eq_9,@cC.eq_10,@cC.eq_11,@cC.eq_12,@cC.eq_13,@cC.eq_14,@dG.eq_1,@dG.eq_2,@dG.eq_3,@dG.eq_4,@dG.eq_5,@dG.eq_6,@dG.eq_7,@dG.eq_8,@dG.eq_9,@dG.eq_10,@dG.eq_11,@dG.eq_12,@dG.eq_13,@dG.eq_14,@dG.eq_15,@dG.eq_16,@dG.eq_17,@dG.eq_18,@dG.eq_19,@dG.eq_20,@dG.eq_21,@dG.eq_22,@aC.eq_1,@aaw.eq_1,@lO.eq_1,@lO.eq_2,@lO.eq_3,@oJ.eq_1,@aca.eq_1,@zB.eq_1,@zB.eq_2,@tP.eq_1,@tP.eq_2,@tP.eq_3,@tP.eq_4,@vR.eq_1,@vR.eq_2,@oK.eq_1,@uT.eq_1,@uT.eq_2,@xN.eq_1,@xN.eq_2,@ab8.eq_1,@iR.eq_1,@iR.eq_2,@cP.eq_1,@AV.cells.eq_1,@AV.cells.eq_2,@g8.eq_1,@g8.eq_2,@d5.eq_1,@d5.eq_2,@d5.eq_3,@d5.eq_4,@d5.eq_5,@d5.eq_6,@fzs.eq_1,@fzs.eq_2,@fz.eq_1,@fz.eq_2,@fz.eq_3,@fz.eq_4,@fz.eq_5,@fz.eq_6,@fz.eq_7,@fz.eq_8,@xM.eq_1,@xM.eq_2,@jG.eq_1,@canon.eq_1,@canon.eq_2,@canon.eq_3,@canon.eq_4,@canon.eq_5,@canon.eq_6,@canon.eq_7,@canon.eq_8,@canon.eq_9,@canon.eq_10,@gP.eq_1,@gP.eq_2,@shift.eq_1,@shift.eq_2,@shift.eq_3,@shift.eq_4,@shift.eq_5,@shift.eq_6,@shift.eq_7,@shift.eq_8,@shift.eq_9,@iG.eq_1,@iG.eq_2,@dT.eq_1,@gO.eq_1,@gO.eq_2⟩:_∧_∧_∧_∧_∧_∧_∧_∧_∧_∧_∧_∧_∧_∧_∧_∧_∧_∧_∧_∧_∧_∧_∧_∧_∧_∧_∧_∧_∧_∧_∧_∧_∧_∧_∧_∧_∧_∧_∧_∧_∧_∧_∧_∧_∧_∧_∧_∧_∧_∧_∧_∧_∧_∧_∧_∧_∧_∧_∧_∧_∧_∧_∧_∧_∧_∧_∧_∧_∧_∧_∧_∧_∧_∧_∧_∧_∧_∧_∧_∧_∧_∧_∧_∧_∧_∧_∧_∧_∧_∧_∧_∧_∧_∧_∧_∧_∧_∧_∧_∧_∧_∧_∧_∧_∧_∧_∧_∧_)
def sr:=(⟨@aAB.{0},@aAA.{0},@aAF,@Bool.and_false,@Bool.true_and,@Bool.false_and,@aAu,@iS,@fO,@eq_self.{1},@Nat.mul_one,@uV,@uA,@aV.eq_1⟩:_∧_∧_∧_∧_∧_∧_∧_∧_∧_∧_∧_∧_∧_)
def aD:=(⟨@plain.eq_1,@plain.eq_2,@plain.eq_3,@plain.eq_4,@plain.eq_5,@plain.eq_6,@plain.eq_7,@c9.eq_1,@c9.eq_2,@aC.eq_1,@aV.eq_1,@aAF,@aAu⟩:_∧_∧_∧_∧_∧_∧_∧_∧_∧_∧_∧_∧_)
def sx:=(⟨@post,@sb,@akU,@ad0,@sq⟩:_∧_∧_∧_∧_)
end Go.Tw
namespace Go.Tw
open Go
def zaa:=(⟨@sq,@sr⟩:_∧_)
def zah:=(⟨@sr,@sx⟩:_∧_)
end Go.Tw
