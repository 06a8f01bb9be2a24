import Derived.Test.YtaekhhlgnbhnpaaGreatQmcG07
import Derived.Scope
set_option linter.defProp false
set_option linter.unusedVariables false
set_option linter.unusedSimpArgs false
open Bool renaming and_eq_true→aAq,and_true→aAI,false_eq_true→azA,and_self→aAx
open Go.Result renaming andThen_ok→azz
open List renaming getElem?_eq_getElem→azm,length_cons→aAF,length_nil→aAG,drop_succ_cons→aAK,getElem?_cons_zero→aAL,getElem?_cons_succ→aAM
open Option renaming getD_none→aAD,getD_some→aAE,map_eq_some_iff→ay1,isSome_iff_exists→aAo,bind_some→aAk,isSome_some→aAJ,map_some→az6
open Option.some renaming injEq→ay0
open Pure renaming pure→aAH
namespace Go.Tw
open Go
def eP (P:Program) (f:Nat→Bool) (n:Nat):Code→(Ex→bC→aF→Prop)→bC→aF→Prop
 | .skip,Q,e,m=>Q .normal e m
 | .label _,Q,e,m=>Q .normal e m
 | .region _ ops d,Q,e,m=>iO P f d ops (Q .normal) ops.toList e m
 | .seq a b,Q,e,m=>eP P f n a (sW (eP P f n b Q) Q) e m
 | .cond c a b,Q,e,m=>abH (eP P f n a Q e m) (eP P f n b Q e m) (opd e c)
 | .block id b,Q,e,m=>eP P f n b (qP id Q) e m
 | .loop b,Q,e,m=>aaN (eP P f n b) Q e m
 | .exit id,Q,e,m=>Q (.exit id) e m
 | .ret,Q,e,m=>Q .ret e m
 | .scope b,Q,e,m=>eP P f n b Q e m
 | _,_,_,_=>False
def mV (n:Nat):Code→Bool
 | .region _ c d=>abI n c && (!d || agQ c)
 | .seq a b=>mV n a && mV n b
 | .cond _ a b=>mV n a && mV n b
 | .block _ b=>mV n b
 | .loop b=>mV n b
 | .scope b=>mV n b
 | _=>true
section
variable {P:Program} {w0:World} {I0:Nat→Prop} {ρ0:cA} {m0:aF} {n:Nat} {D:List Deferred}
def agV (P:Program) (w0:World) (I0:Nat→Prop) (ρ0:cA) (m0:aF) (n:Nat) (D:List Deferred) (Q:Ex→bC→aF→Prop):Exit→Act→World→Prop
 | .normal,a,w=>∃ e m I ρ,Q .normal e m∧mK P w0 I0 ρ0 m0 n D e m a w I ρ
 | .exit id,a,w=>∃ e m I ρ,Q (.exit id) e m∧mK P w0 I0 ρ0 m0 n D e m a w I ρ
 | .ret,a,w=>∃ e m I ρ,Q .ret e m∧mK P w0 I0 ρ0 m0 n D e m a w I ρ
 | _,_,_=>False
theorem ake (N:P.follows .mixedOrders=true) {C:Nat→Bool}:∀ (c:Code) (Q:Ex→bC→aF→Prop) (e:bC) (m:aF) (a:Act) (w:World) (I:Nat→Prop) (ρ:cA),mV n c=true→eP P C n c Q e m→mK P w0 I0 ρ0 m0 n D e m a w I ρ→c.wp P (agV P w0 I0 ρ0 m0 n D Q) a w:=by
 intro c
 induction c with
 | skip=>exact fun Q e m a w I ρ _ h j=>wp_skip ⟨e,m,I,ρ,h,j⟩
 | label l=>exact fun Q e m a w I ρ _ h j=>wp_label ⟨e,m,I,ρ,h,j⟩
 | region id M d =>
  intro Q e m a w I ρ g H j;simp only [eP] at H;simp only [mV,aAq,Bool.or_eq_true,Bool.not_eq_true'] at g;obtain ⟨o,q⟩:=g;cases d with
  | false =>
   refine wp_region ?_;have:=agP (w0:=w0) (I0:=I0) (ρ0:=ρ0) (m0:=m0) o (Q:=Q .normal) (Q':=agV P w0 I0 ρ0 m0 n D Q) (fun e m a w I ρ i j=>⟨e,m,I,ρ,i,j⟩) M.toList 0 e m a w I ρ rfl H j;rw [List.range_eq_range'];simpa using this
  | true=>exact ar5 N o (q.resolve_left (by simp)) (Q:=Q .normal) (Q':=agV P w0 I0 ρ0 m0 n D Q) (fun e m a w I ρ i j=>⟨e,m,I,ρ,i,j⟩) H j
 | seq x y z u =>
  intro Q e m a w I ρ g h j;simp only [eP] at h;simp only [mV,aAq] at g;refine wp_seq (wp_mono (z _ e m a w I ρ g.1 h j) ?_);intro v F w' i;cases v with
  | normal =>
   obtain ⟨e',m',A,ρ',o,q⟩:=i;exact u Q e' m' F w' A ρ' g.2 o q
  | exit id=>exact i
  | ret=>exact i
  | goto l=>exact i
  | panic c=>exact i
  | outgrown=>exact i
 | cond c x y z u =>
  intro Q e m a w I ρ g h j;simp only [eP] at h;simp only [mV,aAq] at g;have K:=dU j.er c;unfold abH at h;split at h
  ·rename_i t E;rw [E] at K;simp only [VR] at K;exact wp_cond_split K (fun E=>z Q e m a w I ρ g.1 (h.1 E) j) (fun E=>u Q e m a w I ρ g.2 (h.2 E) j)
  ·exact h.elim
 | block id b B =>
  intro Q e m a w I ρ g h j;simp only [eP] at h;simp only [mV] at g;refine wp_block (wp_mono (B _ e m a w I ρ g h j) ?_);intro v F w' i;cases v with
  | exit O =>
   obtain ⟨e',m',A,ρ',o,q⟩:=i;simp only [qP] at o;simp only [Exit.inBlock];split at o
   ·rename_i r;rw [if_pos r];exact ⟨e',m',A,ρ',o,q⟩
   ·rename_i r;rw [if_neg r];exact ⟨e',m',A,ρ',o,q⟩
  | normal=>exact i
  | ret=>exact i
  | goto l=>exact i
  | panic c=>exact i
  | outgrown=>exact i
 | loop b B =>
  intro Q e m a w I ρ g h j;simp only [eP] at h;simp only [mV] at g;obtain ⟨J,k,G,p⟩:=h;refine wp_loop_ghost (fun k a w=>∃ e m I ρ,J k e m∧mK P w0 I0 ρ0 m0 n D e m a w I ρ) k ⟨e,m,I,ρ,G,j⟩ ?_;rintro k a w ⟨e,m,I,ρ,G,j⟩;refine wp_mono (B _ e m a w I ρ g (p k e m G) j) ?_;intro v F w' i;cases v with
  | normal =>
   obtain ⟨e',m',A,ρ',⟨k',L,o⟩,q⟩:=i;exact ⟨k',L,e',m',A,ρ',o,q⟩
  | exit id=>exact i
  | ret=>exact i
  | goto l=>exact i
  | panic c=>exact i
  | outgrown=>exact i
 | exit id=>exact fun Q e m a w I ρ _ h j=>wp_exit ⟨e,m,I,ρ,h,j⟩
 | ret=>exact fun Q e m a w I ρ _ h j=>wp_ret ⟨e,m,I,ρ,h,j⟩
 | rangeFunc f ps x y=>exact fun Q e m a w I ρ _ h j=>h.elim
 | scope b B =>
  intro Q e m a w I ρ g h j;simp only [eP] at h;simp only [mV] at g;refine wp_scope_straight (wp_mono (B _ e m a w I ρ g h j) ?_);intro v F w' i;cases v with
  | normal=>exact i
  | exit id=>exact i
  | ret=>exact i
  | goto l=>exact i.elim
  | panic c=>exact i.elim
  | outgrown=>exact i.elim
 | goto l=>exact fun Q e m a w I ρ _ h j=>h.elim
 | refuse s=>exact fun Q e m a w I ρ _ h j=>h.elim
theorem akf {w:World} {I:Nat→Prop} {ρ:cA} {m:aF} {args:List AV} {vs:Array Value} (i:SR P w I ρ m) (e:vs.size=args.length) (k:bB P w I ρ args (fun j=>vs[j]?)) (a:∀ b,m.next≤b→ρ b=none) (c:args.length≤n) :
 mK P w I ρ m n [] (rH args) m { tmps:=vs++Array.replicate (n - vs.size) undef,defers:=[] } w I ρ where
 er:=by
  intro t;simp only [rH];rw [Array.getD_eq_getD_getElem?,List.getD_eq_getElem?_getD];rcases Nat.lt_or_ge t args.length with h | h
  ·obtain ⟨v,g,f⟩:=gW k (azm h);rw [Array.getElem?_append_left (by omega),g,azm h];exact f
  ·rw [List.getElem?_eq_none h];rcases Nat.lt_or_ge t n with d | d
   ·rw [Array.getElem?_append_right (by omega),Array.getElem?_replicate,if_pos (by omega)];simp only [aAD,aAE,eI,undef,VR]
   ·rw [Array.getElem?_eq_none (by simp;omega)];simp only [aAD,eI,undef,VR]
 sr:=i
 free:=a
 step:=cM.refl _ _ _ _
 size:=by simp;omega
 defers:=rfl
def ac7 (tmps:Array Value):ResultVar→Sem Value
 | .tmp t=>pure (tmps.getD t undef)
 | .cell a t=>do loadVar t (←asAddr (tmps.getD a undef))
theorem akg {w:World} {I:Nat→Prop} {ρ:cA} {e:bC} {m:aF} {a:Act} (x:SR P w I ρ m) (k:ER P w I ρ e a):∀ (n:List ResultVar) (c:List AV),xU P e m n=some c →
 ∃ vs:List Value,(n.mapM (ac7 a.tmps)).run P w = .ok vs w∧vs.length=c.length∧bB P w I ρ c (fun j=>vs[j]?)
 | [],c,h=>by
  simp only [xU,ay0] at h;subst h;exact ⟨[],by simp,rfl,by simp only [bB]⟩
 | r::n,c,h=>by
  simp only [xU] at h;obtain ⟨C,b,h⟩:=ayS h;obtain ⟨i,z,rfl⟩:=ayT h;obtain ⟨vs,u,s,q⟩:=akg x k n i z;cases r with
  | tmp t =>
   simp only [aaE,ay0] at b;subst b;refine ⟨a.tmps.getD t undef::vs,by simp [List.mapM_cons,ac7,u],by simp [s], ?_⟩;simp only [bB];exact ⟨⟨_,rfl,k t⟩,q⟩
  | cell p t =>
   simp only [aaE] at b;obtain ⟨v,l,A⟩:=aji x b (k p);refine ⟨v::vs, ?_,by simp [s], ?_⟩
   ·have B:(do loadVar t (←asAddr (a.tmps.getD p undef)):Sem Value).run P w = .ok v w:=by
     have d:=k p;unfold mH at b;split at b
     ·rename_i f;rw [f] at d;simp only [VR] at d;obtain ⟨g,o,_,d⟩:=d;rw [d] at l ⊢;simpa [Instr.loadAt,Instr.sureAddr,asAddr] using l
     ·rename_i f;rw [f] at d;simp only [VR] at d;obtain ⟨g,o,d,_⟩:=d;rw [d] at l ⊢;simpa [Instr.loadAt,Instr.sureAddr,asAddr] using l
     ·cases b
    have y:(ac7 a.tmps (.cell p t)).run P w = .ok v w:=B;simp only [List.mapM_cons,Sem.run_bind,Sem.run_pure,y,azz,u]
   ·simp only [bB];exact ⟨⟨v,rfl,A⟩,q⟩
theorem akh {w:World} {I:Nat→Prop} {ρ:cA} {e:bC} {m:aF} {a:Act} (s:SR P w I ρ m) (q:ER P w I ρ e a) {b:Func} {n:AV} (h:tV P b.results.toList e m=some n):∃ v,(results b a.tmps).run P w = .ok v w∧VR P w I ρ n v:=by
 unfold tV at h;obtain ⟨k,g,h⟩:=ayT h;obtain ⟨vs,r,i,d⟩:=akg s q b.results.toList k g;have c:results b a.tmps=(do
  let vs ←b.results.mapM (ac7 a.tmps)
  pure (if h:vs.size=1 then vs[0] else .tuple vs)):=rfl
 have f:(b.results.mapM (ac7 a.tmps)).run P w = .ok vs.toArray w:=by
  rw [Array.mapM_eq_mapM_toList,Sem.run_map,r];rfl
 rw [c];simp only [Sem.run_bind,f,azz,Sem.run_pure];refine ⟨_,rfl, ?_⟩;split at h
 ·rename_i x;subst h;simp only [zak] at i
  match vs,i,d with
  | [v],_,d =>
   simp only [bB] at d;obtain ⟨⟨u,l,t⟩,_⟩:=d;simp at l;subst l;simpa using t
 ·rename_i j;subst h;have o:vs.length≠1:=by
   intro h;rw [i] at h;obtain ⟨x,p⟩:=List.length_eq_one_iff.1 h;exact j x p
  rw [dif_neg (by simpa using o)];simp only [VR];exact ⟨vs.toArray,rfl,by simpa using i,by simpa using d⟩
def aaO (P:Program) (a:List ResultVar) (K:AV→aF→Prop):Ex→bC→aF→Prop
 | .exit _,_,_=>False
 | _,e,m=>match tV P a e m with
  | some v=>K v m
  | none=>False
theorem ar6 (hm : P.follows .mixedOrders = true) {f : FuncId} {fn : Func} {c : Code} (hf : P.funcs[f]? = some fn) (hb : fn.body = some c) (hn : fn.name ≠ "runtime.NumGoroutine") (once : Nat → Bool) {args : List AV} {r : fA} (hle : args.length ≤ fn.ntmps) (hok : mV fn.ntmps c = true)
   (h : eP P once fn.ntmps c (aaO P fn.results.toList fun v m => jB P m v = some r) (rH args) aF.empty) : aQ P f args r := by
 refine ⟨by simp [zM, hf, hb, hn], fun w I vs hI hsz hv => ?_⟩
 have hS : SR P w I dA aF.empty := ⟨fun b k g o h => by simp [aF.empty] at h, fun b b' k k' g o o' h => by simp [aF.empty] at h, hI, kG.none⟩
 have hR := akf (n := fn.ntmps) hS hsz hv (fun _ _ => rfl) hle
 refine calls_of_wp hf hb (wp_mono (ake hm c _ _ _ _ w I dA hok h hR) ?_)
 intro ex a w' hq
 have fin : ∀ e m I' ρ', (match tV P fn.results.toList e m with | some v => jB P m v = some r | none => False) → mK P w I dA aF.empty fn.ntmps [] e m a w' I' ρ' →
     a.defers = [] ∧ ∃ v, (results fn a.tmps).run P w' = .ok v w' ∧ ∃ v' I' ρ', Ending.returned v = .returned v' ∧ VR P w' I' ρ' r.v v' ∧ SR P w' I' ρ' (eB P aF.empty r.rows) ∧ cM w I dA aF.empty w' I' ρ' (eB P aF.empty r.rows) := by
   intro e m I' ρ' h1 h2
   split at h1
   · rename_i av hav
     obtain ⟨v, h3, h4⟩ := akh h2.sr h2.er hav
     obtain ⟨ρ'', h5, h6, h7⟩ := ajL h2.sr h2.step h4 h1
     exact ⟨h2.defers, v, h3, v, I', ρ'', rfl, h5, h6, h7⟩
   · exact h1.elim
 cases ex with
 | normal => obtain ⟨e, m, I', ρ', h1, h2⟩ := hq; exact fin e m I' ρ' h1 h2
 | ret => obtain ⟨e, m, I', ρ', h1, h2⟩ := hq; exact fin e m I' ρ' h1 h2
 | exit id => obtain ⟨e, m, I', ρ', h1, h2⟩ := hq; exact h1.elim
 | goto l => exact hq.elim
 | panic c => exact hq.elim
 | outgrown => exact hq.elim
theorem ar7 (y:P.follows .mixedOrders=true) {g:Func} {c:Code} (q:Nat→Bool) {args:List AV} {m:aF} {Q:AV→aF→Prop} (t:args.length≤g.ntmps) (x:mV g.ntmps c=true)
 (h:eP P q g.ntmps c (aaO P g.results.toList Q) (rH args) m) {w:World} {I:Nat→Prop} {ρ:cA} {vs:Array Value} (A:SR P w I ρ m) (s:vs.size=args.length) (F:bB P w I ρ args (fun j=>vs[j]?)) (k:∀ b,m.next≤b→ρ b=none) :
 c.wp P (bodyPost P g fun E w'=>∃ v r m' d ρ',E = .returned v∧Q r m'∧VR P w' d ρ' r v∧SR P w' d ρ' m'∧cM w I ρ m w' d ρ' m'∧∀ b,m'.next≤b→ρ' b=none) { tmps:=vs++Array.replicate (g.ntmps - vs.size) undef,defers:=[] } w:=by
 refine wp_mono (ake y c _ _ _ _ w I ρ x h (akf (n:=g.ntmps) A s F k t)) ?_;intro B a w' o;have p:∀ e m' d ρ',(match tV P g.results.toList e m' with | some v=>Q v m' | none=>False)→mK P w I ρ m g.ntmps [] e m' a w' d ρ' →
  a.defers=[]∧∃ v,(results g a.tmps).run P w' = .ok v w'∧∃ v' r m' d ρ',Ending.returned v = .returned v'∧Q r m'∧VR P w' d ρ' r v'∧SR P w' d ρ' m'∧cM w I ρ m w' d ρ' m'∧∀ b,m'.next≤b→ρ' b=none:=by
  intro e m' d ρ' i f;split at i
  ·rename_i z u;obtain ⟨v,C,D⟩:=akh f.sr f.er u;exact ⟨f.defers,v,C,v,z,m',d,ρ',rfl,i,D,f.sr,f.step,f.free⟩
  ·exact i.elim
 cases B with
 | normal=>obtain ⟨e,m,d,ρ',i,f⟩:=o;exact p e m d ρ' i f
 | ret=>obtain ⟨e,m,d,ρ',i,f⟩:=o;exact p e m d ρ' i f
 | exit id=>obtain ⟨e,m,d,ρ',i,f⟩:=o;exact i.elim
 | goto l=>exact o.elim
 | panic c=>exact o.elim
 | outgrown=>exact o.elim
theorem ar8 (hm : P.follows .mixedOrders = true) {f : FuncId} {fn : Func} {c : Code} (hf : P.funcs[f]? = some fn) (hb : fn.body = some c) (hn : fn.name ≠ "runtime.NumGoroutine") (once : Nat → Bool) {args : List AV} {m : aF} {Q : AV → aF → Prop} (hle : args.length ≤ fn.ntmps) (hok : mV fn.ntmps c = true)
   (h : eP P once fn.ntmps c (aaO P fn.results.toList Q) (rH args) m) : dV P f args m Q :=
 ⟨by simp [zM, hf, hb, hn], fun w I ρ vs hS hsz hv hfree => calls_of_wp hf hb (ar7 hm once hle hok h hS hsz hv hfree)⟩
end
def abN (P:Program) (t:TypeId):Option IntKind:=match P.underlying t with | some (.int k)=>some k | _=>none
def oN (P:Program) (a:Nat→Bool) (d:Bool) (c:Array Oper) (Q:bC→aF→Prop) (b:List Oper) (e:bC) (m:aF) (dst:Option Nat) (out:bL):Prop :=
 (d=true→drawn a c (b.length+1) m out)∧iO P a d c Q b ((wS e out.wb).put dst out.v) out.m
section
variable {P:Program} {once:Nat→Bool} {d:Bool} {n:Nat} {ops:Array Oper} {Q:bC→aF→Prop} {e:bC} {m:aF} {K:bL→Prop} {R:Ex→bC→aF→Prop}
theorem aki:iO P once d ops Q [] e m=Q e m:=rfl
theorem akj {o:Oper} {a:List Oper}:iO P once d ops Q (o::a) e m=if sS ops e o then bZ P d (once (o.dst.getD 0)) e m o.type (oN P once d ops Q a e m o.dst) o.op else iO P once d ops Q a (e.put o.dst eI) m:=rfl
theorem akk {a:List Oper} {dst:Option Nat} {op:Op} {ty:TypeId} {pos:String} {after:Array Edge}:iO P once d ops Q (⟨dst,op,ty,pos,after,none⟩::a) e m=bZ P d (once (dst.getD 0)) e m ty (oN P once d ops Q a e m dst) op:=rfl
def zS:List Oper→Nat→Option Nat
 | [],_=>none
 | o::_,0=>o.dst
 | _::l,n+1=>zS l n
theorem akl {dst:Option Nat} {op:Op} {ty:TypeId} {pos:String} {after:Array Edge} {g:Option (Nat×Bool)} {l:List Oper}:zS (⟨dst,op,ty,pos,after,g⟩::l) 0=dst:=rfl
theorem akm {o:Oper} {l:List Oper} {n:Nat}:zS (o::l) (n+1)=zS l n:=rfl
theorem akn:∀ (l:List Oper) (j:Nat),zS l j=(l[j]?).bind (·.dst)
 | [],_=>rfl
 | o::_,0=>rfl
 | _::l,n+1=>by rw [zS,akn l n];rfl
def agW (e:bC):Option Nat→AV
 | some d=>e d
 | none=>eI
theorem ako {j:Nat}:agW e (some j)=e j:=rfl
def agX (a:Bool) (A B:Prop):AV→Prop
 | .val (.bool b)=>match b == a with
  | true=>A
  | false=>B
 | _=>B
theorem ar9 {o:Oper} {j:Nat} {a:Bool} (h:o.guard=some (j,a)):sS ops e o=match agW e (zS ops.toList j) with
 | .val (.bool b)=>b == a
 | _=>false:=by
 rw [akn,Array.getElem?_toList];unfold sS;rw [h];simp only;cases (ops[j]?).bind (·.dst) <;> rfl
theorem asa {a:Bool} {A B:Prop} (x:AV) {c:Bool} (h:c=match x with | .val (.bool b)=>b == a | _=>false):(if c=true then A else B)=agX a A B x:=by
 subst h;unfold agX;split
 ·rename_i b;have:∀ c:Bool,(if c=true then A else B)=(match c with | true=>A | false=>B):=by intro c;cases c <;> simp
  exact this _
 ·simp
def qQ (P:Program) (a:Nat→Bool) (d:Bool) (f:Array Oper) (Q:bC→aF→Prop) (b:List Oper) (dst:Option Nat) (op:Op) (ty:TypeId) (e:bC) (m:aF) (c:Bool) (x:AV):Prop :=
 agX c (bZ P d (a (dst.getD 0)) e m ty (oN P a d f Q b e m dst) op) (iO P a d f Q b (e.put dst eI) m) x
section
variable {rest:List Oper} {dst:Option Nat} {op:Op} {ty:TypeId} {want:Bool} {pos:String} {after:Array Edge} {j:Nat}
theorem akp:iO P once d ops Q (⟨dst,op,ty,pos,after,some (j,want)⟩::rest) e m=qQ P once d ops Q rest dst op ty e m want (agW e (zS ops.toList j)):=by
 rw [akj];exact asa _ (ar9 rfl)
theorem akq:qQ P once d ops Q rest dst op ty e m true (.val (.bool true))=bZ P d (once (dst.getD 0)) e m ty (oN P once d ops Q rest e m dst) op:=rfl
theorem akr:qQ P once d ops Q rest dst op ty e m false (.val (.bool false))=bZ P d (once (dst.getD 0)) e m ty (oN P once d ops Q rest e m dst) op:=rfl
theorem aks:qQ P once d ops Q rest dst op ty e m true (.val (.bool false))=iO P once d ops Q rest (e.put dst eI) m:=rfl
theorem akt:qQ P once d ops Q rest dst op ty e m false (.val (.bool true))=iO P once d ops Q rest (e.put dst eI) m:=rfl
theorem aku:qQ P once d ops Q rest dst op ty e m want eI=iO P once d ops Q rest (e.put dst eI) m:=rfl
theorem nO {t:Bool} (b:t=true→qQ P once d ops Q rest dst op ty e m want (.val (.bool true))) (a:t=false→qQ P once d ops Q rest dst op ty e m want (.val (.bool false))):qQ P once d ops Q rest dst op ty e m want (.val (.bool t)):=by
 cases t with
 | true=>exact b rfl
 | false=>exact a rfl
end
section
variable {rest:List Oper} {dst:Option Nat} {op:Op} {ty:TypeId} {want:Bool} {p:Prop} [Decidable p]
theorem pW (b:p→qQ P once d ops Q rest dst op ty e m want (.val (.bool true))) (a:¬p→qQ P once d ops Q rest dst op ty e m want (.val (.bool false))):qQ P once d ops Q rest dst op ty e m want (.val (.bool (decide p))) :=
 nO (fun h=>b (of_decide_eq_true h)) (fun h=>a (of_decide_eq_false h))
theorem pX (b:p→qQ P once d ops Q rest dst op ty e m want (.val (.bool false))) (a:¬p→qQ P once d ops Q rest dst op ty e m want (.val (.bool true))):qQ P once d ops Q rest dst op ty e m want (.val (.bool (!decide p))) :=
 nO (fun h=>a (by simpa using h)) (fun h=>b (by simpa using h))
end
def rJ (P:Program) (c:Nat→Bool) (n:Nat) (a b:Code) (R:Ex→bC→aF→Prop) (e:bC) (m:aF) (x:AV):Prop:=abH (eP P c n a R e m) (eP P c n b R e m) x
section
variable {a b:Code}
theorem akv {c:Operand}:eP P once n (.cond c a b) R e m=rJ P once n a b R e m (opd e c):=rfl
theorem lK {t:Bool} (d:t=true→rJ P once n a b R e m (.val (.bool true))) (c:t=false→rJ P once n a b R e m (.val (.bool false))):rJ P once n a b R e m (.val (.bool t)):=by
 cases t with
 | true=>exact d rfl
 | false=>exact c rfl
theorem pY {p:Prop} [Decidable p] (d:p→rJ P once n a b R e m (.val (.bool true))) (c:¬p→rJ P once n a b R e m (.val (.bool false))):rJ P once n a b R e m (.val (.bool (decide p))) :=
 lK (fun h=>d (of_decide_eq_true h)) (fun h=>c (of_decide_eq_false h))
theorem pZ {p:Prop} [Decidable p] (d:p→rJ P once n a b R e m (.val (.bool false))) (c:¬p→rJ P once n a b R e m (.val (.bool true))):rJ P once n a b R e m (.val (.bool (!decide p))) :=
 lK (fun h=>c (by simpa using h)) (fun h=>d (by simpa using h))
theorem jP:rJ P once n a b R e m (.val (.bool true))=eP P once n a R e m:=by simp [rJ,abH]
theorem gH:rJ P once n a b R e m (.val (.bool false))=eP P once n b R e m:=by simp [rJ,abH]
end
theorem wT {x y:AV}:acL x y (.val (.bool true))=some x:=rfl
theorem vL {x y:AV}:acL x y (.val (.bool false))=some y:=rfl
theorem akw {m':aF} {a:List Oper} {dst:Nat} {v:AV}:oN P once false ops Q a e m (some dst) ⟨v,m',none⟩=iO P once false ops Q a (e.set dst v) m':=by simp [oN,wS,bC.put]
theorem akx {m':aF} {a:List Oper} {v:AV}:oN P once false ops Q a e m none ⟨v,m',none⟩=iO P once false ops Q a e m':=by simp [oN,wS,bC.put]
theorem aky {a:List Oper} {dst:Option Nat} {v x:AV} {m':aF} {t:Nat}:oN P once false ops Q a e m dst ⟨v,m',some (t,x)⟩=iO P once false ops Q a ((e.set t x).put dst v) m':=by simp [oN,wS]
theorem akz {a:List Oper} {dst:Nat} {v:AV}:oN P once true ops Q a e m (some dst) ⟨v,m,none⟩=iO P once true ops Q a (e.set dst v) m:=by simp [oN,wS,bC.put,drawn]
theorem akA {a:List Oper} {v:AV}:oN P once true ops Q a e m none ⟨v,m,none⟩=iO P once true ops Q a e m:=by simp [oN,wS,bC.put,drawn]
theorem cX {a:List Oper} {dst:Option Nat} {v:AV} {m':aF} (b:aen once ops (ops.size - (a.length+1))=true) (h:iO P once true ops Q a (e.put dst v) m'):oN P once true ops Q a e m dst ⟨v,m',none⟩:=⟨fun _=>⟨rfl,.inl b⟩,h⟩
theorem oO {a:List Oper} {dst:Option Nat} {v:AV} {x:eZ} (b:xZ once ops (ops.size - (a.length+1))=true) (h:iO P once true ops Q a (e.put dst v) (m.push x)):oN P once true ops Q a e m dst ⟨v,m.push x,none⟩:=⟨fun _=>⟨rfl,.inr (.inr ⟨b,x,rfl⟩)⟩,h⟩
theorem akB {o:bL}:eO (some o) K=K o:=rfl
theorem akC {v:AV}:eO (eV (some v) m) K=K ⟨v,m,none⟩:=rfl
theorem akD {v:AV}:eO (bI v m) K=K ⟨v,m,none⟩:=rfl
theorem akE {t:Nat} {v:AV}:e.put (some t) v=e.set t v:=rfl
theorem akF {v:AV}:e.put none v=e:=rfl
theorem akG {t j:Nat} {v:AV}:(e.set t v) j=if j=t then v else e j:=rfl
theorem akH {K:bC→aF→Prop}:sW K R .normal e m=K e m:=rfl
theorem akI {K:bC→aF→Prop}:sW K R .ret e m=R .ret e m:=rfl
theorem akJ {K:bC→aF→Prop} {id:Nat}:sW K R (.exit id) e m=R (.exit id) e m:=rfl
theorem akK {id:Nat}:qP id R .normal e m=R .normal e m:=rfl
theorem akL {id:Nat}:qP id R .ret e m=R .ret e m:=rfl
theorem akM {id a:Nat}:qP id R (.exit a) e m=if a=id then R .normal e m else R (.exit a) e m:=rfl
theorem akN {a:List ResultVar} {K:AV→aF→Prop}:aaO P a K .ret e m=match tV P a e m with | some v=>K v m | none=>False:=rfl
theorem akO {a:List ResultVar} {K:AV→aF→Prop}:aaO P a K .normal e m=match tV P a e m with | some v=>K v m | none=>False:=rfl
theorem akP {t:Tmp}:tV P [.tmp t] e m=some (e t):=rfl
theorem akQ {t u:Tmp}:tV P [.tmp t,.tmp u] e m=some (.tup [e t,e u]):=rfl
theorem akR {t u x:Tmp}:tV P [.tmp t,.tmp u,.tmp x] e m=some (.tup [e t,e u,e x]):=rfl
theorem akS {t:Nat}:opd e (.tmp t)=e t:=rfl
theorem akT {a:AV} {l:List AV}:rH (a::l) 0=a:=rfl
theorem akU {a:AV} {l:List AV} {n:Nat}:rH (a::l) (n+1)=rH l n:=rfl
theorem akV {n:Nat}:rH [] n=eI:=rfl
theorem akW {v:Value}:opd e (.const v) = .val v:=rfl
theorem akX {f:FuncId}:opd e (.func f) = .clo f []:=rfl
@[congr] theorem outW_congr {r g:Option bL} (h:r=g):eO r K=eO g K:=by rw [h]
@[congr] theorem makeW_congr {m m':aF} (h:m=m'):abC m K=abC m' K:=by rw [h]
@[congr] theorem rangeW_congr {x a:AV} {t:TypeId} (h:x=a):abD P m t x K=abD P m t a K:=by rw [h]
@[congr] theorem nextW_congr {x a:AV} (h:x=a):abE m x K=abE m a K:=by rw [h]
@[congr] theorem calleeW_congr {c f:Bool} {args:List AV} {x a:AV} (i:c=f) (h:x=a):oM P d c m args K x=oM P d f m args K a:=by rw [h,i]
theorem akY {id:Nat} {b:Array Oper} {d:Bool}:eP P once n (.region id b d) R e m=iO P once d b (R .normal) b.toList e m:=rfl
theorem akZ {a b:Code}:eP P once n (.seq a b) R e m=eP P once n a (sW (eP P once n b R) R) e m:=rfl
theorem ak0 {id:Nat} {b:Code}:eP P once n (.block id b) R e m=eP P once n b (qP id R) e m:=rfl
theorem bS {b:Code}:eP P once n (.loop b) R e m=aaN (eP P once n b) R e m:=rfl
theorem ak1 {id:Nat}:eP P once n (.exit id) R e m=R (.exit id) e m:=rfl
theorem ak2:eP P once n .ret R e m=R .ret e m:=rfl
theorem ak3 {b:Code}:eP P once n (.scope b) R e m=eP P once n b R e m:=rfl
theorem ak4 {l:Nat}:eP P once n (.label l) R e m=R .normal e m:=rfl
theorem ak5:eP P once n .skip R e m=R .normal e m:=rfl
theorem ak6 {a:Bool} {ty:TypeId} {x:Operand}:bZ P d a e m ty K (.move x)=K ⟨opd e x,m,none⟩:=rfl
theorem ak7 {a:Bool} {ty:TypeId} {x:Operand}:bZ P d a e m ty K (.assign x)=K ⟨opd e x,m,none⟩:=rfl
end
theorem pre:(type_of% @aki)∧(type_of% @akk)∧(type_of% @akp)∧(type_of% @akw)∧(type_of% @akx)∧(type_of% @akz)∧(type_of% @akA)∧(type_of% @aky)∧(type_of% @akC)∧(type_of% @akD)∧(type_of% @akB)∧(type_of% @akH)∧(type_of% @akI)∧(type_of% @akJ)∧(type_of% @akK)∧(type_of% @akL)∧(type_of% @akM)∧(type_of% @akN)∧(type_of% @akO)∧(type_of% @akP)∧(type_of% @akQ)∧(type_of% @akR)∧(type_of% @akS)∧(type_of% @akW)∧(type_of% @akX)∧(type_of% @akG)∧(type_of% @akE)∧(type_of% @akT)∧(type_of% @akU)∧(type_of% @akV)∧(type_of% @akF)∧(type_of% @akl)∧(type_of% @akm)∧(type_of% @ako)∧(type_of% @akq)∧(type_of% @aks)∧(type_of% @akt)∧(type_of% @akr)∧(type_of% @aku)∧(type_of% @jP)∧(type_of% @gH)∧(type_of% @wT)∧(type_of% @vL)∧(type_of% @ak3)∧(type_of% @ak4)∧(type_of% @akY)∧(type_of% @akZ)∧(type_of% @akv)∧(type_of% @ak0)∧(type_of% @ak1)∧(type_of% @ak2)∧(type_of% @ak5)∧(type_of% @ak6)∧(type_of% @ak7) :=
 ⟨@aki,@akk,@akp,@akw,@akx,@akz,@akA,@aky,@akC,@akD,@akB,@akH,@akI,@akJ,@akK,@akL,@akM,@akN,@akO,@akP,@akQ,@akR,@akS,@akW,@akX,@akG,@akE,@akT,@akU,@akV,@akF,@akl,@akm,@ako,@akq,@aks,@akt,@akr,@aku,@jP,@gH,@wT,@vL,@ak3,@ak4,@akY,@akZ,@akv,@ak0,@ak1,@ak2,@ak5,@ak6,@ak7⟩
section
variable {P:Program} {t:TypeId} {x y:Operand} {k:IntKind} {a b:Int}
theorem rK (op:BinOp):eA P op t x y (.val (.int k a)) (.val (.int k b))=((cT P (binOp op t (.int k a) (.int k b))).map .val):=by
 simp [eA,sO,eqGuard_at_int]
theorem ak8:eA P .lss t x y (.val (.int k a)) (.val (.int k b))=some (.val (.bool (decide (a < b)))):=by
 simp [rK,binOp,Op.intCmp,cT,aAH]
theorem ak9:eA P .leq t x y (.val (.int k a)) (.val (.int k b))=some (.val (.bool (decide (a≤b)))):=by
 simp [rK,binOp,Op.intCmp,cT,aAH]
theorem ala:eA P .gtr t x y (.val (.int k a)) (.val (.int k b))=some (.val (.bool (decide (b < a)))):=by
 simp [rK,binOp,Op.intCmp,cT,aAH]
theorem alb:eA P .geq t x y (.val (.int k a)) (.val (.int k b))=some (.val (.bool (decide (b≤a)))):=by
 simp [rK,binOp,Op.intCmp,cT,aAH]
theorem alc:eA P .eql t x y (.val (.int k a)) (.val (.int k b))=some (.val (.bool (decide (a=b)))):=by
 have:(a == b)=decide (a=b):=by by_cases h:a=b <;> simp [h]
 simp [rK,binOp,Op.intCmp,cT,aAH,this]
theorem ald:eA P .neq t x y (.val (.int k a)) (.val (.int k b))=some (.val (.bool (!decide (a=b)))):=by
 have:(a != b) = !decide (a=b):=by by_cases h:a=b <;> simp [h]
 simp [rK,binOp,Op.intCmp,cT,aAH,this]
theorem ale:eA P .add t x y (.val (.int k a)) (.val (.int k b))=some (.val (.int k (k.wrap (a+b)))):=by
 simp [rK,binOp,Op.intArith,cT,aAH]
theorem alf:eA P .sub t x y (.val (.int k a)) (.val (.int k b))=some (.val (.int k (k.wrap (a - b)))):=by
 simp [rK,binOp,Op.intArith,cT,aAH]
theorem alg:eA P .mul t x y (.val (.int k a)) (.val (.int k b))=some (.val (.int k (k.wrap (a*b)))):=by
 simp [rK,binOp,Op.intArith,cT,aAH]
theorem alh (c:b≠0):eA P .quo t x y (.val (.int k a)) (.val (.int k b))=some (.val (.int k (k.wrap (a.tdiv b)))):=by
 simp [rK,binOp,Op.intDiv,cT,aAH,c]
theorem aes (c:b≠0):eA P .rem t x y (.val (.int k a)) (.val (.int k b))=some (.val (.int k (a.tmod b))):=by
 simp [rK,binOp,Op.intDiv,cT,aAH,c]
theorem ali {c:Bool}:unE P .not (.val (.bool c))=some (.val (.bool !c)):=by
 simp [unE,Op.unary,cT,aAH]
end
mutual
theorem alj:∀ (v:AV),tU v=true→hY v=true
 | .val _,_=>rfl
 | .agg cs,h=>by simp only [tU] at h;simp only [hY];exact agY cs h
 | .tup cs,h=>by simp only [tU] at h;simp only [hY];exact agY cs h
 | .tree ..,h=>by simp [tU] at h
 | .tptr ..,h=>by simp [tU] at h
 | .emp ..,h=>by simp [tU] at h
 | .sl ..,h=>by simp [tU] at h
 | .ptr ..,h=>by simp [tU] at h
 | .clo ..,h=>by simp [tU] at h
theorem agY:∀ (l:List AV),ad1 l=true→iA l=true
 | [],_=>rfl
 | c::cs,h=>by
  simp only [ad1,aAq] at h
  simp only [iA,aAq]
  exact ⟨alj c h.1,agY cs h.2⟩
end
theorem asb:(∀ v,tU v=true→hY v=true)∧True:=⟨alj,trivial⟩
section
variable {P:Program} {d:Bool} {m:aF} {K:bL→Prop} {f:FuncId}
theorem alk {c:Bool} {args a:List AV}:oM P false c m args K (.clo f a)=mU P false f (args++a) m K:=by cases c <;> rfl
theorem alm {args a:List AV}:oM P true false m args K (.clo f a)=mU P true f (args++a) m K:=rfl
theorem aln {args a:List AV}:oM P true true m args K (.clo f a)=aaM P f (args++a) m K:=rfl
mutual
def plain:AV→Bool
 | .val _ | .tree .. | .tptr .. | .emp .. => true
 | .agg cs=>cP cs
 | .clo _ cs=>cP cs
 | _=>false
def cP:List AV→Bool
 | []=>true
 | c::cs=>plain c && cP cs
end
mutual
theorem yC:∀ (k:Nat) (v:AV),plain v=true→lend k m v=some v∧iI v=false
 | k,.val v,h=>by unfold lend;simp [iI]
 | k,.tree _ _ _ _,h=>by unfold lend;simp [iI]
 | k,.tptr _ _,h=>by unfold lend;simp [iI]
 | k,.emp _ _,h=>by unfold lend;simp [iI]
 | k,.agg cs,h=>by
  simp only [plain] at h
  unfold lend
  simp [iI,(oQ k cs h).1,(oQ k cs h).2]
 | k,.clo f cs,h=>by
  simp only [plain] at h
  unfold lend
  simp [iI,(oQ k cs h).1,(oQ k cs h).2]
 | k,.tup _,h=>by simp [plain] at h
 | k,.sl _ _ _ _ _,h=>by simp [plain] at h
 | k,.ptr _ _,h=>by simp [plain] at h
theorem oQ:∀ (k:Nat) (v:List AV),cP v=true→dN k m v=some v∧kF v=false
 | k,[],h=>by unfold dN;simp [kF]
 | k,c::cs,h=>by
  simp only [cP,aAq] at h
  unfold dN
  simp [kF,yC k c h.1,oQ k cs h.2]
end
theorem aI {args:List AV} {r:fA} (h:aQ P f args r) (a:cP args=true) (b:K ⟨shift m.next r.v,eB P m r.rows,none⟩):mU P d f args m K :=
 .inl ⟨args,r,(oQ 3 args a).1,h,.inl (oQ (m:=m) 3 args a).2,b⟩
theorem aH {args:List AV} {v:AV} (h:aQ P f args ⟨v,[]⟩) (a:cP args=true) (hs:∀ k,shift k v=v) (b:K ⟨v,m,none⟩):aaM P f args m K :=
 ⟨_,h,rfl,fun k m=>(oQ k args a).1,(oQ (m:=m) 3 args a).2,hs,b⟩
theorem abO {args a:List AV} {r:fA} (h:aQ P f a r) (c:dN 3 m args=some a) (hs:tU r.v=true) (b:r.rows=[]) (e:K ⟨shift m.next r.v,m,none⟩):mU P d f args m K :=
 .inl ⟨a,r,c,h,.inr (by
  simp only [fA.apart,b,List.all_nil,aAI];exact (asb.1 r.v hs)),by rw [b];exact e⟩
theorem wU {args a:List AV} {r:fA} (h:aQ P f a r) (b:dN 3 m args=some a) (hs:r.apart=true) (c:K ⟨shift m.next r.v,eB P m r.rows,none⟩):mU P d f args m K :=
 .inl ⟨a,r,b,h,.inr hs,c⟩
theorem abP {args a:List AV} {r:fA} {b:aF} (h:aQ P f a r) (c:fzs m args=some (a,b)) (e:K ⟨shift b.next r.v,eB P b r.rows,none⟩):mU P d f args m K :=
 .inr (.inr (.inr (.inr ⟨a,b,r,c,h,e⟩)))
end
theorem ac8 {a b:Bool} (h:a=true↔b=true):(some ⟨.val (.bool a),[]⟩:Option fA)=some ⟨aZ b,[]⟩:=by
 have:a=b:=by cases a <;> cases b <;> simp_all
 rw [this];rfl
theorem min2 {P:Program} {m:aF} {ts:Array TypeId} {ty:TypeId} {k:IntKind} {a b:Int}:tT P m ts ty [.val (.int k a),.val (.int k b)] .min=some ⟨.val (.int k (min a b)),m,none⟩:=by
 have:(if b < a then b else a)=min a b:=by omega
 simp [tT,sM,jO,Builtin.min_,Builtin.min2,cT,eV,Bind.bind,Sem.bind,aAH,this]
theorem max2 {P:Program} {m:aF} {ts:Array TypeId} {ty:TypeId} {k:IntKind} {a b:Int}:tT P m ts ty [.val (.int k a),.val (.int k b)] .max=some ⟨.val (.int k (max a b)),m,none⟩:=by
 have:(if b > a then b else a)=max a b:=by omega
 simp [tT,sM,jO,Builtin.max_,Builtin.max2,cT,eV,Bind.bind,Sem.bind,aAH,this]
theorem alo {P:Program} {c:Bool} {m:aF} {t:TypeId} {x:AV}:vH P false c m t x=mH P m t x:=rfl
theorem alp {P:Program} {m:aF} {t:TypeId} {x:AV}:vH P true false m t x=mH P m t x:=rfl
theorem alq {P:Program} {m:aF} {t:TypeId} {a:Nat} {cells:List AV}:vH P true true m t (.tptr a cells)=qM P t cells a:=rfl
theorem asc {P:Program} {m:aF} {src dst:TypeId} {s:ByteArray} (h:(bO P dst).isSome=true) (c:(bO P dst).all (tR P)=true) (d:pQ P src=true) (b:(bO P dst).bind (bX P)=some 1):nL P true m src dst (.val (.string s))=some ⟨.tree s.size s.size (jA s) false,m,none⟩:=by
 obtain ⟨el,a⟩:=aAo.1 h;rw [a] at c b;simp only [Option.all_some,aAk] at c b;simp [nL,a,c,d,b,bI]
theorem asd {P:Program} {m:aF} {src dst:TypeId} {x:AV}:nL P false m src dst x=nJ P m src dst x:=by unfold nL;rfl
theorem ac9 {P:Program} {c:Bool} {m:aF} {src dst:TypeId} {x:AV} (h:bO P dst=none):nL P c m src dst x=nJ P m src dst x:=by unfold nL;rw [h];cases c <;> rfl
theorem alr {P:Program} {d:Bool} {m:aF} {src dst:TypeId} {x:AV}:pU P d false m src dst x=nJ P m src dst x:=asd
theorem agZ {P:Program} {d c:Bool} {m:aF} {src dst:TypeId} {v:Value}:pU P d c m src dst (.val v)=nL P c m src dst (.val v):=by cases c <;> cases d <;> rfl
theorem als {P:Program} {c:Bool} {m:aF} {src dst:TypeId} {x:AV} (h:bO P dst=none):pU P false c m src dst x=nJ P m src dst x:=by
 have:pU P false c m src dst x=nL P c m src dst x:=by cases c <;> rfl
 rw [this,ac9 h]
theorem alt {P:Program} {d c:Bool} {m:aF} {src dst:TypeId} {v:Value} (h:bO P dst=none):pU P d c m src dst (.val v)=nJ P m src dst (.val v):=by rw [agZ,ac9 h]
theorem ag0 {P:Program} {d c:Bool} {m:aF} {src dst:TypeId} {n cap:Nat} {cs:List AV} {b:Bool} (h:bO P dst=none):pU P d c m src dst (.tree n cap cs b)=nJ P m src dst (.tree n cap cs b):=by
 have:pU P d c m src dst (.tree n cap cs b)=nL P c m src dst (.tree n cap cs b):=by cases c <;> cases d <;> rfl
 rw [this,ac9 h]
theorem ag1 {P:Program} {d:Bool} {m:aF} {src dst:TypeId} {s:ByteArray} (h:(bO P dst).isSome=true) (c:(bO P dst).all (tR P)=true) (b:pQ P src=true) (a:(bO P dst).bind (bX P)=some 1):pU P d true m src dst (.val (.string s))=some ⟨.tree s.size s.size (jA s) false,m,none⟩:=by rw [agZ,asc h c b a]
theorem alu {P:Program} {d:Bool} {m:aF} {t:TypeId} {len:Nat} {parts:List (Nat×AV)}:vI P d false m t len parts=pR P m t len parts:=rfl
theorem alv {P:Program} {m:aF} {t:TypeId} {len:Nat} {parts:List (Nat×AV)}:vI P true true m t len parts=fY P m t len parts:=rfl
theorem ag2 {P:Program} {m:aF} {t:TypeId} {len:Nat} {parts:List (Nat×AV)} (h:(fY P m t len parts).isSome=true):vI P false true m t len parts=fY P m t len parts:=by
 obtain ⟨o,a⟩:=aAo.1 h;simp only [vI,a,aem]
theorem alw {P:Program} {m:aF} {t:TypeId} {len:Nat} {parts:List (Nat×AV)} (h:fY P m t len parts=none):vI P false true m t len parts=zR P m t len parts:=by
 simp only [vI,h,aem]
theorem alx {P:Program} {c:Bool} {m:aF} {t:TypeId} {x:AV} {lo hi mx:Option AV}:sliceX P false c m t x lo hi mx=if slOk P m t x then (dD lo).bind fun lo=>(dD hi).bind fun hi=>(dD mx).bind fun mx=>eV (kT P t lo hi mx x) m else none:=by cases c <;> rfl
theorem aly {P:Program} {m:aF} {t:TypeId} {x:AV} {lo hi mx:Option AV}:sliceX P true false m t x lo hi mx=if slOk P m t x then (dD lo).bind fun lo=>(dD hi).bind fun hi=>(dD mx).bind fun mx=>eV (kT P t lo hi mx x) m else none:=rfl
theorem alz {P:Program} {m:aF} {t:TypeId} {n c:Nat} {cs:List AV} {f:Bool} {lo hi mx:Option AV}:sliceX P true true m t (.tree n c cs f) lo hi mx=(dD lo).bind fun lo=>(dD hi).bind fun hi=>(dD mx).bind fun mx=>eV (kT P t lo hi mx (.tree n c cs f)) m:=rfl
theorem alA {P:Program} {m:aF} {t:TypeId} {v:Value} {lo hi mx:Option AV}:sliceX P true true m t (.val v) lo hi mx=(dD lo).bind fun lo=>(dD hi).bind fun hi=>(dD mx).bind fun mx=>eV (kT P t lo hi mx (.val v)) m:=rfl
theorem alB {P:Program} {m:aF} {t:TypeId} {n:Nat} {cs:List AV} {lo hi mx:Option AV}:sliceX P true true m t (.tptr n cs) lo hi mx=(dD lo).bind fun lo=>(dD hi).bind fun hi=>(dD mx).bind fun mx=>eV (kT P t lo hi mx (.tptr n cs)) m:=rfl
structure aA (p:Prop):Prop where
 out:p
theorem post:(type_of% @alx)∧(type_of% @aly)∧(type_of% @alz)∧(type_of% @alA)∧(type_of% @alB)∧(type_of% @alo)∧(type_of% @alp)∧(type_of% @alq)∧(type_of% @alr)∧(type_of% @als)∧(type_of% @alt)∧(type_of% @ag0)∧(type_of% @ag1)∧(type_of% @alu)∧(type_of% @alv)∧(type_of% @ag2)∧(type_of% @min2)∧(type_of% @max2)∧(type_of% @alk)∧(type_of% @alm)∧(type_of% @aln)∧(type_of% @ak8)∧(type_of% @ak9)∧(type_of% @ala)∧(type_of% @alb)∧(type_of% @alc)∧(type_of% @ald)∧(type_of% @ale)∧(type_of% @alf)∧(type_of% @alg)∧(type_of% @ali) :=
 ⟨@alx,@aly,@alz,@alA,@alB,@alo,@alp,@alq,@alr,@als,@alt,@ag0,@ag1,@alu,@alv,@ag2,@min2,@max2,@alk,@alm,@aln,@ak8,@ak9,@ala,@alb,@alc,@ald,@ale,@alf,@alg,@ali⟩
theorem sb:(type_of% @aAJ.{0})∧(type_of% @ne_eq.{1})∧(type_of% @not_false_eq_true)∧(type_of% @aAF.{0})∧(type_of% @aAG.{0})∧(type_of% @List.map_cons.{0,0})∧(type_of% @List.map_nil.{0,0})∧(type_of% @List.append_nil.{0})∧(type_of% @List.cons_append.{0})∧(type_of% @List.nil_append.{0})∧(type_of% @List.take_succ_cons.{0})∧(type_of% @List.take_zero.{0})∧(type_of% @aAK.{0})∧(type_of% @List.drop_zero.{0})∧(type_of% @Nat.zero_add)∧(type_of% @Nat.add_zero)∧(type_of% @Nat.zero_le)∧(type_of% @Nat.le_refl)∧(type_of% @decide_true)∧(type_of% @decide_false)∧(type_of% @Bool.not_true)∧(type_of% @Bool.not_false)∧(type_of% @if_true.{1})∧(type_of% @if_false.{1})∧(type_of% @azA)∧(type_of% @true_and)∧(type_of% @and_true)∧(type_of% @aAk.{0,0})∧(type_of% @az6.{0,0})∧(type_of% @aAL.{0})∧(type_of% @aAM.{0})∧(type_of% @and_self) :=
 ⟨@aAJ.{0},@ne_eq.{1},@not_false_eq_true,@aAF.{0},@aAG.{0},@List.map_cons.{0,0},@List.map_nil.{0,0},@List.append_nil.{0},@List.cons_append.{0},@List.nil_append.{0},@List.take_succ_cons.{0},@List.take_zero.{0},@aAK.{0},@List.drop_zero.{0},@Nat.zero_add,@Nat.add_zero,@Nat.zero_le,@Nat.le_refl,@decide_true,@decide_false,@Bool.not_true,@Bool.not_false,@if_true.{1},@if_false.{1},@azA,@true_and,@and_true,@aAk.{0,0},@az6.{0,0},@aAL.{0},@aAM.{0},@and_self⟩
def sq:=(⟨@bZ.eq_1,@bZ.eq_2,@bZ.eq_3,@bZ.eq_4,@bZ.eq_5,@bZ.eq_6,@bZ.eq_7,@bZ.eq_8,@bZ.eq_9,@bZ.eq_10,@bZ.eq_11,@bZ.eq_12,@bZ.eq_13,@bZ.eq_14,@cZ.eq_1,@cZ.eq_2,@cZ.eq_3,@cZ.eq_4,@cZ.eq_5,@cZ.eq_6,@cZ.eq_7,@cZ.eq_8,@cZ.eq_9,@cZ.eq_10,@cZ.eq_11,@cZ.eq_12,@cZ.eq_13,@cZ.eq_14,@cZ.eq_15,@cZ.eq_16,@cZ.eq_17,@cZ.eq_18,@cZ.eq_19,@cZ.eq_20,@cZ.eq_21,@cZ.eq_22,@aB.eq_1,@abn.eq_1,@mH.eq_1,@mH.eq_2,@mH.eq_3,@qM.eq_1,@aaC.eq_1,@aaD.eq_1,@aaD.eq_2,@sQ.eq_1,@sQ.eq_2,@sQ.eq_3,@sQ.eq_4,@xS.eq_1,@xS.eq_2,@tV.eq_1,@xU.eq_1,@xU.eq_2,@aaE.eq_1,@aaE.eq_2,@acK.eq_1,@hU.eq_1,@hU.eq_2,@cH.eq_1,@AV.cells.eq_1,@AV.cells.eq_2,@gD.eq_1,@gD.eq_2,@dL.eq_1,@dL.eq_2,@dL.eq_3,@dL.eq_4,@dL.eq_5,@dL.eq_6,@fzs.eq_1,@fzs.eq_2,@fz.eq_1,@fz.eq_2,@fz.eq_3,@fz.eq_4,@fz.eq_5,@fz.eq_6,@fz.eq_7,@fz.eq_8,@zG.eq_1,@zG.eq_2,@jB.eq_1,@canon.eq_1,@canon.eq_2,@canon.eq_3,@canon.eq_4,@canon.eq_5,@canon.eq_6,@canon.eq_7,@canon.eq_8,@canon.eq_9,@canon.eq_10,@fN.eq_1,@fN.eq_2,@shift.eq_1,@shift.eq_2,@shift.eq_3,@shift.eq_4,@shift.eq_5,@shift.eq_6,@shift.eq_7,@shift.eq_8,@shift.eq_9,@gT.eq_1,@gT.eq_2,@eB.eq_1,@gN.eq_1,@gN.eq_2⟩:_∧_∧_∧_∧_∧_∧_∧_∧_∧_∧_∧_∧_∧_∧_∧_∧_∧_∧_∧_∧_∧_∧_∧_∧_∧_∧_∧_∧_∧_∧_∧_∧_∧_∧_∧_∧_∧_∧_∧_∧_∧_∧_∧_∧_∧_∧_∧_∧_∧_∧_∧_∧_∧_∧_∧_∧_∧_∧_∧_∧_∧_∧_∧_∧_∧_∧_∧_∧_∧_∧_∧_∧_∧_∧_∧_∧_∧_∧_∧_∧_∧_∧_∧_∧_∧_∧_∧_∧_∧_∧_∧_∧_∧_∧_∧_∧_∧_∧_∧_∧_∧_∧_∧_∧_∧_∧_∧_∧_)
def sr:=(⟨@aAE.{0},@aAD.{0},@aAI,@Bool.and_false,@Bool.true_and,@Bool.false_and,@aAx,@jP,@gH,@eq_self.{1},@Nat.mul_one,@wT,@vL,@aZ.eq_1⟩:_∧_∧_∧_∧_∧_∧_∧_∧_∧_∧_∧_∧_∧_)
def aE:=(⟨@plain.eq_1,@plain.eq_2,@plain.eq_3,@plain.eq_4,@plain.eq_5,@plain.eq_6,@plain.eq_7,@cP.eq_1,@cP.eq_2,@aB.eq_1,@aZ.eq_1,@aAI,@aAx⟩:_∧_∧_∧_∧_∧_∧_∧_∧_∧_∧_∧_∧_)
def sx:=(⟨@post,@sb,@alh,@aes,@sq⟩:_∧_∧_∧_∧_)
end Go.Tw
namespace Go.Tw
open Go
def zaa:=(⟨@sq,@sr⟩:_∧_)
def zad:=(⟨@sr,@sx⟩:_∧_)
end Go.Tw
