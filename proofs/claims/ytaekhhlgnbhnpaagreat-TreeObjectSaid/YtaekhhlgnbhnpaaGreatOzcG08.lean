import Derived.Test.YtaekhhlgnbhnpaaGreatOzcG07
import Derived.Scope
set_option linter.unusedVariables false
set_option linter.unusedSimpArgs false
namespace Go.Tw
open Go
def eJ (P:Program) (once:Nat→Bool) (n:Nat):Code→(Ex→bN→aF→Prop)→bN→aF→Prop
 | .skip,Q,e,m=>Q .normal e m
 | .label _,Q,e,m=>Q .normal e m
 | .region _ ops d,Q,e,m=>iE P once d ops (Q .normal) ops.toList e m
 | .seq a b,Q,e,m=>eJ P once n a (pR (eJ P once n b Q) Q) e m
 | .cond c a b,Q,e,m=>aaE (eJ P once n a Q e m) (eJ P once n b Q e m) (opd e c)
 | .block id b,Q,e,m=>eJ P once n b (oR id Q) e m
 | .loop b,Q,e,m=>yV (eJ P once n b) Q e m
 | .exit id,Q,e,m=>Q (.exit id) e m
 | .ret,Q,e,m=>Q .ret e m
 | .scope b,Q,e,m=>eJ P once n b Q e m
 | _,_,_,_=>False
def lP (n:Nat):Code→Bool
 | .region _ ops d=>aaF n ops && (!d || afI ops)
 | .seq a b=>lP n a && lP n b
 | .cond _ a b=>lP n a && lP n b
 | .block _ b=>lP n b
 | .loop b=>lP n b
 | .scope b=>lP n b
 | _=>true
section
variable {P:Program} {w0:World} {I0:Nat→Prop} {ρ0:cK} {m0:aF} {n:Nat} {D:List Deferred}
def afO (P:Program) (w0:World) (I0:Nat→Prop) (ρ0:cK) (m0:aF) (n:Nat) (D:List Deferred) (Q:Ex→bN→aF→Prop):Exit→Act→World→Prop
 | .normal,a,w=>∃ e m I ρ,Q .normal e m∧kY P w0 I0 ρ0 m0 n D e m a w I ρ
 | .exit id,a,w=>∃ e m I ρ,Q (.exit id) e m∧kY P w0 I0 ρ0 m0 n D e m a w I ρ
 | .ret,a,w=>∃ e m I ρ,Q .ret e m∧kY P w0 I0 ρ0 m0 n D e m a w I ρ
 | _,_,_=>False
theorem adE (hm:P.follows .mixedOrders=true) {once:Nat→Bool}:∀ (c:Code) (Q:Ex→bN→aF→Prop) (e:bN) (m:aF) (a:Act) (w:World) (I:Nat→Prop) (ρ:cK),lP n c=true→eJ P once n c Q e m→kY P w0 I0 ρ0 m0 n D e m a w I ρ→c.wp P (afO P w0 I0 ρ0 m0 n D Q) a w:=by
 intro c
 induction c with
 | skip=>exact fun Q e m a w I ρ _ h hR=>wp_skip ⟨e,m,I,ρ,h,hR⟩
 | label l=>exact fun Q e m a w I ρ _ h hR=>wp_label ⟨e,m,I,ρ,h,hR⟩
 | region id ops d =>
  intro Q e m a w I ρ hok h3 hR
  simp only [eJ] at h3
  simp only [lP,Bool.and_eq_true,Bool.or_eq_true,Bool.not_eq_true'] at hok
  obtain ⟨h1,h2⟩:=hok
  cases d with
  | false =>
   refine wp_region ?_
   have:=afH (w0:=w0) (I0:=I0) (ρ0:=ρ0) (m0:=m0) h1 (Q:=Q .normal) (Q':=afO P w0 I0 ρ0 m0 n D Q) (fun e m a w I ρ hq hR=>⟨e,m,I,ρ,hq,hR⟩) ops.toList 0 e m a w I ρ rfl h3 hR
   rw [List.range_eq_range']
   simpa using this
  | true=>exact aqp hm h1 (h2.resolve_left (by simp)) (Q:=Q .normal) (Q':=afO P w0 I0 ρ0 m0 n D Q) (fun e m a w I ρ hq hR=>⟨e,m,I,ρ,hq,hR⟩) h3 hR
 | seq x y ihx ihy =>
  intro Q e m a w I ρ hok h hR
  simp only [eJ] at h
  simp only [lP,Bool.and_eq_true] at hok
  refine wp_seq (wp_mono (ihx _ e m a w I ρ hok.1 h hR) ?_)
  intro ex a' w' hq
  cases ex with
  | normal =>
   obtain ⟨e',m',I',ρ',h1,h2⟩:=hq
   exact ihy Q e' m' a' w' I' ρ' hok.2 h1 h2
  | exit id=>exact hq
  | ret=>exact hq
  | goto l=>exact hq
  | panic c=>exact hq
  | outgrown=>exact hq
 | cond c x y ihx ihy =>
  intro Q e m a w I ρ hok h hR
  simp only [eJ] at h
  simp only [lP,Bool.and_eq_true] at hok
  have hc:=d9 hR.er c
  unfold aaE at h
  split at h
  ·rename_i t ht
   rw [ht] at hc
   simp only [VR] at hc
   exact wp_cond_split hc (fun ht=>ihx Q e m a w I ρ hok.1 (h.1 ht) hR) (fun ht=>ihy Q e m a w I ρ hok.2 (h.2 ht) hR)
  ·exact h.elim
 | block id b ih =>
  intro Q e m a w I ρ hok h hR
  simp only [eJ] at h
  simp only [lP,Bool.and_eq_true] at hok
  refine wp_block (wp_mono (ih _ e m a w I ρ hok h hR) ?_)
  intro ex a' w' hq
  cases ex with
  | exit id' =>
   obtain ⟨e',m',I',ρ',h1,h2⟩:=hq
   simp only [oR] at h1
   simp only [Exit.inBlock]
   split at h1
   ·rename_i hid;rw [if_pos hid];exact ⟨e',m',I',ρ',h1,h2⟩
   ·rename_i hid;rw [if_neg hid];exact ⟨e',m',I',ρ',h1,h2⟩
  | normal=>exact hq
  | ret=>exact hq
  | goto l=>exact hq
  | panic c=>exact hq
  | outgrown=>exact hq
 | loop b ih =>
  intro Q e m a w I ρ hok h hR
  simp only [eJ] at h
  simp only [lP,Bool.and_eq_true] at hok
  obtain ⟨J,k,hJ,hround⟩:=h
  refine wp_loop_ghost (fun k a w=>∃ e m I ρ,J k e m∧kY P w0 I0 ρ0 m0 n D e m a w I ρ) k ⟨e,m,I,ρ,hJ,hR⟩ ?_
  rintro k a w ⟨e,m,I,ρ,hJ,hR⟩
  refine wp_mono (ih _ e m a w I ρ hok (hround k e m hJ) hR) ?_
  intro ex a' w' hq
  cases ex with
  | normal =>
   obtain ⟨e',m',I',ρ',⟨k',hlt,h1⟩,h2⟩:=hq
   exact ⟨k',hlt,e',m',I',ρ',h1,h2⟩
  | exit id=>exact hq
  | ret=>exact hq
  | goto l=>exact hq
  | panic c=>exact hq
  | outgrown=>exact hq
 | exit id=>exact fun Q e m a w I ρ _ h hR=>wp_exit ⟨e,m,I,ρ,h,hR⟩
 | ret=>exact fun Q e m a w I ρ _ h hR=>wp_ret ⟨e,m,I,ρ,h,hR⟩
 | rangeFunc f ps x y=>exact fun Q e m a w I ρ _ h hR=>h.elim
 | scope b ih =>
  intro Q e m a w I ρ hok h hR
  simp only [eJ] at h
  simp only [lP] at hok
  refine wp_scope_straight (wp_mono (ih _ e m a w I ρ hok h hR) ?_)
  intro ex a' w' hq
  cases ex with
  | normal=>exact hq
  | exit id=>exact hq
  | ret=>exact hq
  | goto l=>exact hq.elim
  | panic c=>exact hq.elim
  | outgrown=>exact hq.elim
 | goto l=>exact fun Q e m a w I ρ _ h hR=>h.elim
 | refuse s=>exact fun Q e m a w I ρ _ h hR=>h.elim
theorem afP {w : World} {I : Nat → Prop} {ρ : cK} {m : aF} {args : List AV} {vs : Array Value} (hS : SR P w I ρ m) (hsz : vs.size = args.length) (hv : bK P w I ρ args (fun j => vs[j]?)) (hfree : ∀ b, m.next ≤ b → ρ b = none) (hle : args.length ≤ n) :
   kY P w I ρ m n [] (nP args) m { tmps := vs ++ Array.replicate (n - vs.size) undef, defers := [] } w I ρ where
 er := by
   intro t
   simp only [nP]
   rw [Array.getD_eq_getD_getElem?, List.getD_eq_getElem?_getD]
   rcases Nat.lt_or_ge t args.length with h | h
   · obtain ⟨v, h1, h2⟩ := fY hv (List.getElem?_eq_getElem h)
     rw [Array.getElem?_append_left (by omega), h1, List.getElem?_eq_getElem h]
     exact h2
   · rw [List.getElem?_eq_none h]
     rcases Nat.lt_or_ge t n with h3 | h3
     · rw [Array.getElem?_append_right (by omega), Array.getElem?_replicate, if_pos (by omega)]
       simp only [Option.getD_none, Option.getD_some, eE, undef, VR]
     · rw [Array.getElem?_eq_none (by simp; omega)]
       simp only [Option.getD_none, eE, undef, VR]
 sr := hS
 free := hfree
 step := cP.refl _ _ _ _
 size := by simp; omega
 defers := rfl
def acb (tmps:Array Value):ResultVar→Sem Value
 | .tmp t=>pure (tmps.getD t undef)
 | .cell a t=>do loadVar t (←asAddr (tmps.getD a undef))
theorem aiV {w : World} {I : Nat → Prop} {ρ : cK} {e : bN} {m : aF} {a : Act} (hS : SR P w I ρ m) (he : ER P w I ρ e a) : ∀ (rs : List ResultVar) (avs : List AV), mY P e m rs = some avs →
   ∃ vs : List Value, (rs.mapM (acb a.tmps)).run P w = .ok vs w ∧ vs.length = avs.length ∧ bK P w I ρ avs (fun j => vs[j]?)
 | [], avs, h => by
   simp only [mY, Option.some.injEq] at h
   subst h
   exact ⟨[], by simp, rfl, by simp only [bK]⟩
 | r :: rs, avs, h => by
   simp only [mY] at h
   obtain ⟨av, hav, h⟩ := awC h
   obtain ⟨avs', h', rfl⟩ := awD h
   obtain ⟨vs, h1, h2, h3⟩ := aiV hS he rs avs' h'
   cases r with
   | tmp t =>
     simp only [oP, Option.some.injEq] at hav
     subst hav
     refine ⟨a.tmps.getD t undef :: vs, by simp [List.mapM_cons, acb, h1], by simp [h2], ?_⟩
     simp only [bK]
     exact ⟨⟨_, rfl, he t⟩, h3⟩
   | cell p t =>
     simp only [oP] at hav
     obtain ⟨v, h4, h5⟩ := ahY hS hav (he p)
     refine ⟨v :: vs, ?_, by simp [h2], ?_⟩
     · have h6 : (do loadVar t (← asAddr (a.tmps.getD p undef)) : Sem Value).run P w = .ok v w := by
         have hp := he p
         unfold i5 at hav
         split at hav
         · rename_i heq; rw [heq] at hp; simp only [VR] at hp; obtain ⟨g, o, _, hp⟩ := hp
           rw [hp] at h4 ⊢; simpa [Instr.loadAt, Instr.sureAddr, asAddr] using h4
         · rename_i heq; rw [heq] at hp; simp only [VR] at hp; obtain ⟨g, o, hp, _⟩ := hp
           rw [hp] at h4 ⊢; simpa [Instr.loadAt, Instr.sureAddr, asAddr] using h4
         · cases hav
       have h7 : (acb a.tmps (.cell p t)).run P w = .ok v w := h6
       simp only [List.mapM_cons, Sem.run_bind, Sem.run_pure, h7, Result.andThen_ok, h1]
     · simp only [bK]
       exact ⟨⟨v, rfl, h5⟩, h3⟩
theorem afQ {w:World} {I:Nat→Prop} {ρ:cK} {e:bN} {m:aF} {a:Act} (hS:SR P w I ρ m) (he:ER P w I ρ e a) {fn:Func} {av:AV} (h:jZ P fn.results.toList e m=some av):∃ v,(results fn a.tmps).run P w = .ok v w∧VR P w I ρ av v:=by
 unfold jZ at h
 obtain ⟨avs,havs,h⟩:=awD h
 obtain ⟨vs,h1,h2,h3⟩:=aiV hS he fn.results.toList avs havs
 have hres:results fn a.tmps=(do
  let vs ←fn.results.mapM (acb a.tmps)
  pure (if h:vs.size=1 then vs[0] else .tuple vs)):=rfl
 have hrun:(fn.results.mapM (acb a.tmps)).run P w = .ok vs.toArray w:=by
  rw [Array.mapM_eq_mapM_toList,Sem.run_map,h1]
  rfl
 rw [hres]
 simp only [Sem.run_bind,hrun,Result.andThen_ok,Sem.run_pure]
 refine ⟨_,rfl, ?_⟩
 split at h
 ·rename_i x
  subst h
  simp only [List.length_cons,List.length_nil] at h2
  match vs,h2,h3 with
  | [v],_,h3 =>
   simp only [bK] at h3
   obtain ⟨⟨u,h4,h5⟩,_⟩:=h3
   simp at h4
   subst h4
   simpa using h5
 ·rename_i hne
  subst h
  have hl:vs.length≠1:=by
   intro h
   rw [h2] at h
   obtain ⟨x,hx⟩:=List.length_eq_one_iff.1 h
   exact hne x hx
  rw [dif_neg (by simpa using hl)]
  simp only [VR]
  exact ⟨vs.toArray,rfl,by simpa using h2,by simpa using h3⟩
def aaG (P:Program) (rs:List ResultVar) (K:AV→aF→Prop):Ex→bN→aF→Prop
 | .exit _,_,_=>False
 | _,e,m=>match jZ P rs e m with
  | some v=>K v m
  | none=>False
theorem bE (hm : P.follows .mixedOrders = true) {f : FuncId} {fn : Func} {c : Code} (hf : P.funcs[f]? = some fn) (hb : fn.body = some c) (hn : fn.name ≠ "runtime.NumGoroutine") (once : Nat → Bool) {args : List AV} {r : gJ} (hle : args.length ≤ fn.ntmps) (hok : lP fn.ntmps c = true)
   (h : eJ P once fn.ntmps c (aaG P fn.results.toList fun v m => iT P m v = some r) (nP args) aF.empty) : aX P f args r := by
 refine ⟨by simp [s8, hf, hb, hn], fun w I vs hI hsz hv => ?_⟩
 have hS : SR P w I dL aF.empty := ⟨fun b k g o h => by simp [aF.empty] at h, fun b b' k k' g o o' h => by simp [aF.empty] at h, hI, j3.none⟩
 have hR := afP (n := fn.ntmps) hS hsz hv (fun _ _ => rfl) hle
 refine calls_of_wp hf hb (wp_mono (adE hm c _ _ _ _ w I dL hok h hR) ?_)
 intro ex a w' hq
 have fin : ∀ e m I' ρ', (match jZ P fn.results.toList e m with | some v => iT P m v = some r | none => False) → kY P w I dL aF.empty fn.ntmps [] e m a w' I' ρ' →
     a.defers = [] ∧ ∃ v, (results fn a.tmps).run P w' = .ok v w' ∧ ∃ v' I' ρ', Ending.returned v = .returned v' ∧ VR P w' I' ρ' r.v v' ∧ SR P w' I' ρ' (d8 P aF.empty r.rows) ∧ cP w I dL aF.empty w' I' ρ' (d8 P aF.empty r.rows) := by
   intro e m I' ρ' h1 h2
   split at h1
   · rename_i av hav
     obtain ⟨v, h3, h4⟩ := afQ h2.sr h2.er hav
     obtain ⟨ρ'', h5, h6, h7⟩ := ais h2.sr h2.step h4 h1
     exact ⟨h2.defers, v, h3, v, I', ρ'', rfl, h5, h6, h7⟩
   · exact h1.elim
 cases ex with
 | normal => obtain ⟨e, m, I', ρ', h1, h2⟩ := hq; exact fin e m I' ρ' h1 h2
 | ret => obtain ⟨e, m, I', ρ', h1, h2⟩ := hq; exact fin e m I' ρ' h1 h2
 | exit id => obtain ⟨e, m, I', ρ', h1, h2⟩ := hq; exact h1.elim
 | goto l => exact hq.elim
 | panic c => exact hq.elim
 | outgrown => exact hq.elim
theorem aiW (hm : P.follows .mixedOrders = true) {fn : Func} {c : Code} (once : Nat → Bool) {args : List AV} {m : aF} {Q : AV → aF → Prop} (hle : args.length ≤ fn.ntmps) (hok : lP fn.ntmps c = true)
   (h : eJ P once fn.ntmps c (aaG P fn.results.toList Q) (nP args) m) {w : World} {I : Nat → Prop} {ρ : cK} {vs : Array Value} (hS : SR P w I ρ m) (hsz : vs.size = args.length) (hv : bK P w I ρ args (fun j => vs[j]?)) (hfree : ∀ b, m.next ≤ b → ρ b = none) :
   c.wp P (bodyPost P fn fun en w' => ∃ v r m' I' ρ', en = .returned v ∧ Q r m' ∧ VR P w' I' ρ' r v ∧ SR P w' I' ρ' m' ∧ cP w I ρ m w' I' ρ' m' ∧ ∀ b, m'.next ≤ b → ρ' b = none) { tmps := vs ++ Array.replicate (fn.ntmps - vs.size) undef, defers := [] } w := by
 refine wp_mono (adE hm c _ _ _ _ w I ρ hok h (afP (n := fn.ntmps) hS hsz hv hfree hle)) ?_
 intro ex a w' hq
 have fin : ∀ e m' I' ρ', (match jZ P fn.results.toList e m' with | some v => Q v m' | none => False) → kY P w I ρ m fn.ntmps [] e m' a w' I' ρ' →
     a.defers = [] ∧ ∃ v, (results fn a.tmps).run P w' = .ok v w' ∧ ∃ v' r m' I' ρ', Ending.returned v = .returned v' ∧ Q r m' ∧ VR P w' I' ρ' r v' ∧ SR P w' I' ρ' m' ∧ cP w I ρ m w' I' ρ' m' ∧ ∀ b, m'.next ≤ b → ρ' b = none := by
   intro e m' I' ρ' h1 h2
   split at h1
   · rename_i av hav
     obtain ⟨v, h3, h4⟩ := afQ h2.sr h2.er hav
     exact ⟨h2.defers, v, h3, v, av, m', I', ρ', rfl, h1, h4, h2.sr, h2.step, h2.free⟩
   · exact h1.elim
 cases ex with
 | normal => obtain ⟨e, m, I', ρ', h1, h2⟩ := hq; exact fin e m I' ρ' h1 h2
 | ret => obtain ⟨e, m, I', ρ', h1, h2⟩ := hq; exact fin e m I' ρ' h1 h2
 | exit id => obtain ⟨e, m, I', ρ', h1, h2⟩ := hq; exact h1.elim
 | goto l => exact hq.elim
 | panic c => exact hq.elim
 | outgrown => exact hq.elim
theorem bZ (hm : P.follows .mixedOrders = true) {f : FuncId} {fn : Func} {c : Code} (hf : P.funcs[f]? = some fn) (hb : fn.body = some c) (hn : fn.name ≠ "runtime.NumGoroutine") (once : Nat → Bool) {args : List AV} {m : aF} {Q : AV → aF → Prop} (hle : args.length ≤ fn.ntmps) (hok : lP fn.ntmps c = true)
   (h : eJ P once fn.ntmps c (aaG P fn.results.toList Q) (nP args) m) : fA P f args m Q :=
 ⟨by simp [s8, hf, hb, hn], fun w I ρ vs hS hsz hv hfree => calls_of_wp hf hb (aiW hm once hle hok h hS hsz hv hfree)⟩
end
def aaH (P:Program) (t:TypeId):Option IntKind:=match P.underlying t with | some (.int k)=>some k | _=>none
def m8 (P:Program) (once:Nat→Bool) (d:Bool) (ops:Array Oper) (Q:bN→aF→Prop) (rest:List Oper) (e:bN) (m:aF) (dst:Option Nat) (out:bY):Prop :=
 (d=true→drawn once ops (rest.length+1) m out)∧iE P once d ops Q rest ((tF e out.wb).put dst out.v) out.m
section
variable {P:Program} {once:Nat→Bool} {d:Bool} {n:Nat} {ops:Array Oper} {Q:bN→aF→Prop} {e:bN} {m:aF} {K:bY→Prop} {R:Ex→bN→aF→Prop}
theorem aiX:iE P once d ops Q [] e m=Q e m:=rfl
theorem aiY {o:Oper} {rest:List Oper}:iE P once d ops Q (o::rest) e m=if qP ops e o then cL P d (once (o.dst.getD 0)) e m o.type (m8 P once d ops Q rest e m o.dst) o.op else iE P once d ops Q rest (e.put o.dst eE) m:=rfl
theorem aiZ {rest:List Oper} {dst:Option Nat} {op:Op} {ty:TypeId} {pos:String} {after:Array Edge}:iE P once d ops Q (⟨dst,op,ty,pos,after,none⟩::rest) e m=cL P d (once (dst.getD 0)) e m ty (m8 P once d ops Q rest e m dst) op:=rfl
def xB:List Oper→Nat→Option Nat
 | [],_=>none
 | o::_,0=>o.dst
 | _::l,n+1=>xB l n
theorem ai0 {dst:Option Nat} {op:Op} {ty:TypeId} {pos:String} {after:Array Edge} {g:Option (Nat×Bool)} {l:List Oper}:xB (⟨dst,op,ty,pos,after,g⟩::l) 0=dst:=rfl
theorem ai1 {o:Oper} {l:List Oper} {n:Nat}:xB (o::l) (n+1)=xB l n:=rfl
theorem ai2:∀ (l:List Oper) (j:Nat),xB l j=(l[j]?).bind (·.dst)
 | [],_=>rfl
 | o::_,0=>rfl
 | _::l,n+1=>by rw [xB,ai2 l n];rfl
def afR (e:bN):Option Nat→AV
 | some d=>e d
 | none=>eE
theorem ai3 {j:Nat}:afR e (some j)=e j:=rfl
def afS (want:Bool) (A B:Prop):AV→Prop
 | .val (.bool b)=>match b == want with
  | true=>A
  | false=>B
 | _=>B
theorem aqq {o : Oper} {j : Nat} {want : Bool} (h : o.guard = some (j, want)) : qP ops e o = match afR e (xB ops.toList j) with
   | .val (.bool b) => b == want
   | _ => false := by
 rw [ai2, Array.getElem?_toList]
 unfold qP
 rw [h]
 simp only
 cases (ops[j]?).bind (·.dst) <;> rfl
theorem aqr {want:Bool} {A B:Prop} (x:AV) {c:Bool} (h:c=match x with | .val (.bool b)=>b == want | _=>false):(if c=true then A else B)=afS want A B x:=by
 subst h
 unfold afS
 split
 ·rename_i b
  have:∀ c:Bool,(if c=true then A else B)=(match c with | true=>A | false=>B):=by intro c;cases c <;> simp
  exact this _
 ·simp
def rR (P:Program) (once:Nat→Bool) (d:Bool) (ops:Array Oper) (Q:bN→aF→Prop) (rest:List Oper) (dst:Option Nat) (op:Op) (ty:TypeId) (e:bN) (m:aF) (want:Bool) (x:AV):Prop :=
 afS want (cL P d (once (dst.getD 0)) e m ty (m8 P once d ops Q rest e m dst) op) (iE P once d ops Q rest (e.put dst eE) m) x
section
variable {rest:List Oper} {dst:Option Nat} {op:Op} {ty:TypeId} {want:Bool} {pos:String} {after:Array Edge} {j:Nat}
theorem ai4:iE P once d ops Q (⟨dst,op,ty,pos,after,some (j,want)⟩::rest) e m=rR P once d ops Q rest dst op ty e m want (afR e (xB ops.toList j)):=by
 rw [aiY]
 exact aqr _ (aqq rfl)
theorem ai5:rR P once d ops Q rest dst op ty e m true (.val (.bool true))=cL P d (once (dst.getD 0)) e m ty (m8 P once d ops Q rest e m dst) op:=rfl
theorem ai6:rR P once d ops Q rest dst op ty e m false (.val (.bool false))=cL P d (once (dst.getD 0)) e m ty (m8 P once d ops Q rest e m dst) op:=rfl
theorem ai7:rR P once d ops Q rest dst op ty e m true (.val (.bool false))=iE P once d ops Q rest (e.put dst eE) m:=rfl
theorem ai8:rR P once d ops Q rest dst op ty e m false (.val (.bool true))=iE P once d ops Q rest (e.put dst eE) m:=rfl
theorem ai9:rR P once d ops Q rest dst op ty e m want eE=iE P once d ops Q rest (e.put dst eE) m:=rfl
theorem aqs {t:Bool} (h1:t=true→rR P once d ops Q rest dst op ty e m want (.val (.bool true))) (h2:t=false→rR P once d ops Q rest dst op ty e m want (.val (.bool false))):rR P once d ops Q rest dst op ty e m want (.val (.bool t)):=by
 cases t with
 | true=>exact h1 rfl
 | false=>exact h2 rfl
end
section
variable {rest:List Oper} {dst:Option Nat} {op:Op} {ty:TypeId} {want:Bool} {p:Prop} [Decidable p]
theorem yW (h1:p→rR P once d ops Q rest dst op ty e m want (.val (.bool true))) (h2:¬p→rR P once d ops Q rest dst op ty e m want (.val (.bool false))):rR P once d ops Q rest dst op ty e m want (.val (.bool (decide p))) :=
 aqs (fun h=>h1 (of_decide_eq_true h)) (fun h=>h2 (of_decide_eq_false h))
end
def pU (P:Program) (once:Nat→Bool) (n:Nat) (a b:Code) (R:Ex→bN→aF→Prop) (e:bN) (m:aF) (x:AV):Prop:=aaE (eJ P once n a R e m) (eJ P once n b R e m) x
section
variable {a b:Code}
theorem aja {c:Operand}:eJ P once n (.cond c a b) R e m=pU P once n a b R e m (opd e c):=rfl
theorem aaI {t:Bool} (h1:t=true→pU P once n a b R e m (.val (.bool true))) (h2:t=false→pU P once n a b R e m (.val (.bool false))):pU P once n a b R e m (.val (.bool t)):=by
 cases t with
 | true=>exact h1 rfl
 | false=>exact h2 rfl
theorem afT {p:Prop} [Decidable p] (h1:p→pU P once n a b R e m (.val (.bool true))) (h2:¬p→pU P once n a b R e m (.val (.bool false))):pU P once n a b R e m (.val (.bool (decide p))) :=
 aaI (fun h=>h1 (of_decide_eq_true h)) (fun h=>h2 (of_decide_eq_false h))
theorem ajb {p:Prop} [Decidable p] (h1:p→pU P once n a b R e m (.val (.bool false))) (h2:¬p→pU P once n a b R e m (.val (.bool true))):pU P once n a b R e m (.val (.bool (!decide p))) :=
 aaI (fun h=>h2 (by simpa using h)) (fun h=>h1 (by simpa using h))
theorem dH:pU P once n a b R e m (.val (.bool true))=eJ P once n a R e m:=by simp [pU,aaE]
theorem cW:pU P once n a b R e m (.val (.bool false))=eJ P once n b R e m:=by simp [pU,aaE]
end
theorem l6 {x y:AV}:abN x y (.val (.bool true))=some x:=rfl
theorem l7 {x y:AV}:abN x y (.val (.bool false))=some y:=rfl
theorem ajc {m':aF} {rest:List Oper} {dst:Nat} {v:AV}:m8 P once false ops Q rest e m (some dst) ⟨v,m',none⟩=iE P once false ops Q rest (e.set dst v) m':=by simp [m8,tF,bN.put]
theorem ajd {m':aF} {rest:List Oper} {v:AV}:m8 P once false ops Q rest e m none ⟨v,m',none⟩=iE P once false ops Q rest e m':=by simp [m8,tF,bN.put]
theorem aje {rest:List Oper} {dst:Option Nat} {v x:AV} {m':aF} {t:Nat}:m8 P once false ops Q rest e m dst ⟨v,m',some (t,x)⟩=iE P once false ops Q rest ((e.set t x).put dst v) m':=by simp [m8,tF]
theorem ajf {rest:List Oper} {dst:Nat} {v:AV}:m8 P once true ops Q rest e m (some dst) ⟨v,m,none⟩=iE P once true ops Q rest (e.set dst v) m:=by simp [m8,tF,bN.put,drawn]
theorem ajg {rest:List Oper} {v:AV}:m8 P once true ops Q rest e m none ⟨v,m,none⟩=iE P once true ops Q rest e m:=by simp [m8,tF,bN.put,drawn]
theorem dJ {rest:List Oper} {dst:Option Nat} {v:AV} {m':aF} (hf:adz once ops (ops.size - (rest.length+1))=true) (h:iE P once true ops Q rest (e.put dst v) m'):m8 P once true ops Q rest e m dst ⟨v,m',none⟩:=⟨fun _=>⟨rfl,.inl hf⟩,h⟩
theorem nT {rest:List Oper} {dst:Option Nat} {v:AV} {x:eP} (hf:vF once ops (ops.size - (rest.length+1))=true) (h:iE P once true ops Q rest (e.put dst v) (m.push x)):m8 P once true ops Q rest e m dst ⟨v,m.push x,none⟩:=⟨fun _=>⟨rfl,.inr (.inr ⟨hf,x,rfl⟩)⟩,h⟩
theorem ajh {o:bY}:eG (some o) K=K o:=rfl
theorem aji {v:AV}:eG (eQ (some v) m) K=K ⟨v,m,none⟩:=rfl
theorem ajj {v:AV}:eG (bO v m) K=K ⟨v,m,none⟩:=rfl
theorem afU {t:Nat} {v:AV}:e.put (some t) v=e.set t v:=rfl
theorem ajk {v:AV}:e.put none v=e:=rfl
theorem ajl {t j:Nat} {v:AV}:(e.set t v) j=if j=t then v else e j:=rfl
theorem ajm {K:bN→aF→Prop}:pR K R .normal e m=K e m:=rfl
theorem ajn {K:bN→aF→Prop}:pR K R .ret e m=R .ret e m:=rfl
theorem ajo {K:bN→aF→Prop} {id:Nat}:pR K R (.exit id) e m=R (.exit id) e m:=rfl
theorem ajp {id:Nat}:oR id R .normal e m=R .normal e m:=rfl
theorem ajq {id:Nat}:oR id R .ret e m=R .ret e m:=rfl
theorem ajr {id id':Nat}:oR id R (.exit id') e m=if id'=id then R .normal e m else R (.exit id') e m:=rfl
theorem ajs {rs:List ResultVar} {K:AV→aF→Prop}:aaG P rs K .ret e m=match jZ P rs e m with | some v=>K v m | none=>False:=rfl
theorem ajt {rs:List ResultVar} {K:AV→aF→Prop}:aaG P rs K .normal e m=match jZ P rs e m with | some v=>K v m | none=>False:=rfl
theorem aju {t:Tmp}:jZ P [.tmp t] e m=some (e t):=rfl
theorem ajv {t u:Tmp}:jZ P [.tmp t,.tmp u] e m=some (.tup [e t,e u]):=rfl
theorem ajw {t u x:Tmp}:jZ P [.tmp t,.tmp u,.tmp x] e m=some (.tup [e t,e u,e x]):=rfl
theorem ajx {t:Nat}:opd e (.tmp t)=e t:=rfl
theorem ajy {a:AV} {l:List AV}:nP (a::l) 0=a:=rfl
theorem ajz {a:AV} {l:List AV} {n:Nat}:nP (a::l) (n+1)=nP l n:=rfl
theorem ajA {n:Nat}:nP [] n=eE:=rfl
theorem ajB {v:Value}:opd e (.const v) = .val v:=rfl
theorem ajC {f:FuncId}:opd e (.func f) = .clo f []:=rfl
@[congr] theorem outW_congr {r r':Option bY} (h:r=r'):eG r K=eG r' K:=by rw [h]
@[congr] theorem makeW_congr {m m':aF} (h:m=m'):aaz m K=aaz m' K:=by rw [h]
@[congr] theorem rangeW_congr {x x':AV} {t:TypeId} (h:x=x'):aaA P m t x K=aaA P m t x' K:=by rw [h]
@[congr] theorem nextW_congr {x x':AV} (h:x=x'):aaB m x K=aaB m x' K:=by rw [h]
@[congr] theorem calleeW_congr {c c':Bool} {args:List AV} {x x':AV} (hc:c=c') (h:x=x'):m7 P d c m args K x=m7 P d c' m args K x':=by rw [h,hc]
theorem ajD {id:Nat} {ops:Array Oper} {d:Bool}:eJ P once n (.region id ops d) R e m=iE P once d ops (R .normal) ops.toList e m:=rfl
theorem ajE {a b:Code}:eJ P once n (.seq a b) R e m=eJ P once n a (pR (eJ P once n b R) R) e m:=rfl
theorem ajF {id:Nat} {b:Code}:eJ P once n (.block id b) R e m=eJ P once n b (oR id R) e m:=rfl
theorem b9 {b:Code}:eJ P once n (.loop b) R e m=yV (eJ P once n b) R e m:=rfl
theorem ajG {id:Nat}:eJ P once n (.exit id) R e m=R (.exit id) e m:=rfl
theorem ajH:eJ P once n .ret R e m=R .ret e m:=rfl
theorem ajI {b:Code}:eJ P once n (.scope b) R e m=eJ P once n b R e m:=rfl
theorem ajJ {l:Nat}:eJ P once n (.label l) R e m=R .normal e m:=rfl
theorem ajK:eJ P once n .skip R e m=R .normal e m:=rfl
theorem ajL {once:Bool} {ty:TypeId} {x:Operand}:cL P d once e m ty K (.move x)=K ⟨opd e x,m,none⟩:=rfl
theorem ajM {once:Bool} {ty:TypeId} {x:Operand}:cL P d once e m ty K (.assign x)=K ⟨opd e x,m,none⟩:=rfl
end
theorem pre:(type_of% @aiX)∧(type_of% @aiZ)∧(type_of% @ai4)∧(type_of% @ajc)∧(type_of% @ajd)∧(type_of% @ajf)∧(type_of% @ajg)∧(type_of% @aje)∧(type_of% @aji)∧(type_of% @ajj)∧(type_of% @ajh)∧(type_of% @ajm)∧(type_of% @ajn)∧(type_of% @ajo)∧(type_of% @ajp)∧(type_of% @ajq)∧(type_of% @ajr)∧(type_of% @ajs)∧(type_of% @ajt)∧(type_of% @aju)∧(type_of% @ajv)∧(type_of% @ajw)∧(type_of% @ajx)∧(type_of% @ajB)∧(type_of% @ajC)∧(type_of% @ajl)∧(type_of% @afU)∧(type_of% @ajy)∧(type_of% @ajz)∧(type_of% @ajA)∧(type_of% @ajk)∧(type_of% @ai0)∧(type_of% @ai1)∧(type_of% @ai3)∧(type_of% @ai5)∧(type_of% @ai7)∧(type_of% @ai8)∧(type_of% @ai6)∧(type_of% @ai9)∧(type_of% @dH)∧(type_of% @cW)∧(type_of% @l6)∧(type_of% @l7)∧(type_of% @ajI)∧(type_of% @ajJ)∧(type_of% @ajD)∧(type_of% @ajE)∧(type_of% @aja)∧(type_of% @ajF)∧(type_of% @ajG)∧(type_of% @ajH)∧(type_of% @ajK)∧(type_of% @ajL)∧(type_of% @ajM) :=
 ⟨@aiX,@aiZ,@ai4,@ajc,@ajd,@ajf,@ajg,@aje,@aji,@ajj,@ajh,@ajm,@ajn,@ajo,@ajp,@ajq,@ajr,@ajs,@ajt,@aju,@ajv,@ajw,@ajx,@ajB,@ajC,@ajl,@afU,@ajy,@ajz,@ajA,@ajk,@ai0,@ai1,@ai3,@ai5,@ai7,@ai8,@ai6,@ai9,@dH,@cW,@l6,@l7,@ajI,@ajJ,@ajD,@ajE,@aja,@ajF,@ajG,@ajH,@ajK,@ajL,@ajM⟩
section
variable {P:Program} {t:TypeId} {x y:Operand} {k:IntKind} {a b:Int}
theorem pV (op:BinOp):dV P op t x y (.val (.int k a)) (.val (.int k b))=((cT P (binOp op t (.int k a) (.int k b))).map .val):=by
 simp [dV,qN,eqGuard_at_int]
theorem ajN:dV P .lss t x y (.val (.int k a)) (.val (.int k b))=some (.val (.bool (decide (a < b)))):=by
 simp [pV,binOp,Op.intCmp,cT,Bind.bind,Sem.bind,Pure.pure]
theorem ajO:dV P .leq t x y (.val (.int k a)) (.val (.int k b))=some (.val (.bool (decide (a≤b)))):=by
 simp [pV,binOp,Op.intCmp,cT,Bind.bind,Sem.bind,Pure.pure]
theorem ajP:dV P .gtr t x y (.val (.int k a)) (.val (.int k b))=some (.val (.bool (decide (b < a)))):=by
 simp [pV,binOp,Op.intCmp,cT,Bind.bind,Sem.bind,Pure.pure]
theorem ajQ:dV P .geq t x y (.val (.int k a)) (.val (.int k b))=some (.val (.bool (decide (b≤a)))):=by
 simp [pV,binOp,Op.intCmp,cT,Bind.bind,Sem.bind,Pure.pure]
theorem ajR:dV P .eql t x y (.val (.int k a)) (.val (.int k b))=some (.val (.bool (decide (a=b)))):=by
 have:(a == b)=decide (a=b):=by by_cases h:a=b <;> simp [h]
 simp [pV,binOp,Op.intCmp,cT,Bind.bind,Sem.bind,Pure.pure,this]
theorem ajS:dV P .neq t x y (.val (.int k a)) (.val (.int k b))=some (.val (.bool (!decide (a=b)))):=by
 have:(a != b) = !decide (a=b):=by by_cases h:a=b <;> simp [h]
 simp [pV,binOp,Op.intCmp,cT,Bind.bind,Sem.bind,Pure.pure,this]
theorem ajT:dV P .add t x y (.val (.int k a)) (.val (.int k b))=some (.val (.int k (k.wrap (a+b)))):=by
 simp [pV,binOp,Op.intArith,cT,Bind.bind,Sem.bind,Pure.pure]
theorem ajU:dV P .sub t x y (.val (.int k a)) (.val (.int k b))=some (.val (.int k (k.wrap (a - b)))):=by
 simp [pV,binOp,Op.intArith,cT,Bind.bind,Sem.bind,Pure.pure]
theorem ajV:dV P .mul t x y (.val (.int k a)) (.val (.int k b))=some (.val (.int k (k.wrap (a*b)))):=by
 simp [pV,binOp,Op.intArith,cT,Bind.bind,Sem.bind,Pure.pure]
theorem vI (hb:b≠0):dV P .quo t x y (.val (.int k a)) (.val (.int k b))=some (.val (.int k (k.wrap (a.tdiv b)))):=by
 simp [pV,binOp,Op.intDiv,cT,Bind.bind,Sem.bind,Pure.pure,hb]
theorem vJ (hb:b≠0):dV P .rem t x y (.val (.int k a)) (.val (.int k b))=some (.val (.int k (a.tmod b))):=by
 simp [pV,binOp,Op.intDiv,cT,Bind.bind,Sem.bind,Pure.pure,hb]
theorem ajW {c:Bool}:yM P .not (.val (.bool c))=some (.val (.bool !c)):=by
 simp [yM,Op.unary,cT,Bind.bind,Sem.bind,Pure.pure]
end
mutual
theorem ajX:∀ (v:AV),rN v=true→jH v=true
 | .val _,_=>rfl
 | .agg cs,h=>by simp only [rN] at h;simp only [jH];exact afV cs h
 | .tup cs,h=>by simp only [rN] at h;simp only [jH];exact afV cs h
 | .tree ..,h=>by simp [rN] at h
 | .tptr ..,h=>by simp [rN] at h
 | .emp ..,h=>by simp [rN] at h
 | .sl ..,h=>by simp [rN] at h
 | .ptr ..,h=>by simp [rN] at h
 | .clo ..,h=>by simp [rN] at h
theorem afV:∀ (l:List AV),adc l=true→kW l=true
 | [],_=>rfl
 | c::cs,h=>by
  simp only [adc,Bool.and_eq_true] at h
  simp only [kW,Bool.and_eq_true]
  exact ⟨ajX c h.1,afV cs h.2⟩
end
theorem aqt:(∀ v,rN v=true→jH v=true)∧True:=⟨ajX,trivial⟩
section
variable {P:Program} {d:Bool} {m:aF} {K:bY→Prop} {f:FuncId}
theorem ajY {c:Bool} {args caps:List AV}:m7 P false c m args K (.clo f caps)=m6 P false f (args++caps) m K:=by cases c <;> rfl
theorem ajZ {args caps:List AV}:m7 P true false m args K (.clo f caps)=m6 P true f (args++caps) m K:=rfl
theorem aj0 {args caps:List AV}:m7 P true true m args K (.clo f caps)=yU P f (args++caps) m K:=rfl
mutual
def plain:AV→Bool
 | .val _ | .tree .. | .tptr .. | .emp .. => true
 | .agg cs=>eB cs
 | .clo _ cs=>eB cs
 | _=>false
def eB:List AV→Bool
 | []=>true
 | c::cs=>plain c && eB cs
end
mutual
theorem vK:∀ (k:Nat) (v:AV),plain v=true→lend k m v=some v∧iS v=false
 | k,.val v,h=>by unfold lend;simp [iS]
 | k,.tree _ _ _ _,h=>by unfold lend;simp [iS]
 | k,.tptr _ _,h=>by unfold lend;simp [iS]
 | k,.emp _ _,h=>by unfold lend;simp [iS]
 | k,.agg cs,h=>by
  simp only [plain] at h
  unfold lend
  simp [iS,(pW k cs h).1,(pW k cs h).2]
 | k,.clo f cs,h=>by
  simp only [plain] at h
  unfold lend
  simp [iS,(pW k cs h).1,(pW k cs h).2]
 | k,.tup _,h=>by simp [plain] at h
 | k,.sl _ _ _ _ _,h=>by simp [plain] at h
 | k,.ptr _ _,h=>by simp [plain] at h
theorem pW:∀ (k:Nat) (v:List AV),eB v=true→eM k m v=some v∧jG v=false
 | k,[],h=>by unfold eM;simp [jG]
 | k,c::cs,h=>by
  simp only [eB,Bool.and_eq_true] at h
  unfold eM
  simp [jG,vK k c h.1,pW k cs h.2]
end
theorem aM {args:List AV} {r:gJ} (h:aX P f args r) (hp:eB args=true) (hk:K ⟨shift m.next r.v,d8 P m r.rows,none⟩):m6 P d f args m K :=
 .inl ⟨args,r,(pW 3 args hp).1,h,.inl (pW (m:=m) 3 args hp).2,hk⟩
theorem cE {args:List AV} {v:AV} (h:aX P f args ⟨v,[]⟩) (hp:eB args=true) (hs:∀ k,shift k v=v) (hk:K ⟨v,m,none⟩):yU P f args m K :=
 ⟨_,h,rfl,fun k m=>(pW k args hp).1,(pW (m:=m) 3 args hp).2,hs,hk⟩
theorem aaJ {args args':List AV} {r:gJ} (h:aX P f args' r) (hl:eM 3 m args=some args') (hs:rN r.v=true) (hw:r.rows=[]) (hk:K ⟨shift m.next r.v,m,none⟩):m6 P d f args m K :=
 .inl ⟨args',r,hl,h,.inr (by
  simp only [gJ.apart,hw,List.all_nil,Bool.and_true]
  exact (aqt.1 r.v hs)),by rw [hw];exact hk⟩
theorem adF {args args':List AV} {r:gJ} (h:aX P f args' r) (hl:eM 3 m args=some args') (hs:r.apart=true) (hk:K ⟨shift m.next r.v,d8 P m r.rows,none⟩):m6 P d f args m K :=
 .inl ⟨args',r,hl,h,.inr hs,hk⟩
theorem yX {args args':List AV} {r:gJ} {m1:aF} (h:aX P f args' r) (hl:fzs m args=some (args',m1)) (hk:K ⟨shift m1.next r.v,d8 P m1 r.rows,none⟩):m6 P d f args m K :=
 .inr (.inr (.inr (.inr ⟨args',m1,r,hl,h,hk⟩)))
end
theorem adG {a b:Bool} (h:a=true↔b=true):(some ⟨.val (.bool a),[]⟩:Option gJ)=some ⟨bB b,[]⟩:=by
 have:a=b:=by cases a <;> cases b <;> simp_all
 rw [this];rfl
theorem min2 {P:Program} {m:aF} {ts:Array TypeId} {ty:TypeId} {k:IntKind} {a b:Int}:oO P m ts ty [.val (.int k a),.val (.int k b)] .min=some ⟨.val (.int k (min a b)),m,none⟩:=by
 have:(if b < a then b else a)=min a b:=by omega
 simp [oO,qM,iZ,Builtin.min_,Builtin.min2,cT,eQ,Bind.bind,Sem.bind,Pure.pure,this]
theorem max2 {P:Program} {m:aF} {ts:Array TypeId} {ty:TypeId} {k:IntKind} {a b:Int}:oO P m ts ty [.val (.int k a),.val (.int k b)] .max=some ⟨.val (.int k (max a b)),m,none⟩:=by
 have:(if b > a then b else a)=max a b:=by omega
 simp [oO,qM,iZ,Builtin.max_,Builtin.max2,cT,eQ,Bind.bind,Sem.bind,Pure.pure,this]
theorem aj1 {P:Program} {c:Bool} {m:aF} {t:TypeId} {x:AV}:tD P false c m t x=i5 P m t x:=rfl
theorem aj2 {P:Program} {m:aF} {t:TypeId} {x:AV}:tD P true false m t x=i5 P m t x:=rfl
theorem aj3 {P:Program} {m:aF} {t:TypeId} {off:Nat} {cells:List AV}:tD P true true m t (.tptr off cells)=kV P t cells off:=rfl
theorem aqu {P:Program} {m:aF} {src dst:TypeId} {s:ByteArray} (h:(cD P dst).isSome=true) (h1:(cD P dst).all (rG P)=true) (h2:nO P src=true) (h3:(cD P dst).bind (cH P)=some 1):mM P true m src dst (.val (.string s))=some ⟨.tree s.size s.size (fQ s) false,m,none⟩:=by
 obtain ⟨el,hel⟩:=Option.isSome_iff_exists.1 h
 rw [hel] at h1 h3
 simp only [Option.all_some,Option.bind_some] at h1 h3
 simp [mM,hel,h1,h2,h3,bO]
theorem aqv {P:Program} {m:aF} {src dst:TypeId} {x:AV}:mM P false m src dst x=mK P m src dst x:=by unfold mM;rfl
theorem acd {P:Program} {c:Bool} {m:aF} {src dst:TypeId} {x:AV} (h:cD P dst=none):mM P c m src dst x=mK P m src dst x:=by unfold mM;rw [h];cases c <;> rfl
theorem aj4 {P:Program} {d:Bool} {m:aF} {src dst:TypeId} {x:AV}:nR P d false m src dst x=mK P m src dst x:=aqv
theorem afW {P:Program} {d c:Bool} {m:aF} {src dst:TypeId} {v:Value}:nR P d c m src dst (.val v)=mM P c m src dst (.val v):=by cases c <;> cases d <;> rfl
theorem aj5 {P:Program} {c:Bool} {m:aF} {src dst:TypeId} {x:AV} (h:cD P dst=none):nR P false c m src dst x=mK P m src dst x:=by
 have:nR P false c m src dst x=mM P c m src dst x:=by cases c <;> rfl
 rw [this,acd h]
theorem aj6 {P:Program} {d c:Bool} {m:aF} {src dst:TypeId} {v:Value} (h:cD P dst=none):nR P d c m src dst (.val v)=mK P m src dst (.val v):=by rw [afW,acd h]
theorem afX {P:Program} {d c:Bool} {m:aF} {src dst:TypeId} {n cap:Nat} {cs:List AV} {b:Bool} (h:cD P dst=none):nR P d c m src dst (.tree n cap cs b)=mK P m src dst (.tree n cap cs b):=by
 have:nR P d c m src dst (.tree n cap cs b)=mM P c m src dst (.tree n cap cs b):=by cases c <;> cases d <;> rfl
 rw [this,acd h]
theorem afY {P:Program} {d:Bool} {m:aF} {src dst:TypeId} {s:ByteArray} (h:(cD P dst).isSome=true) (h1:(cD P dst).all (rG P)=true) (h2:nO P src=true) (h3:(cD P dst).bind (cH P)=some 1):nR P d true m src dst (.val (.string s))=some ⟨.tree s.size s.size (fQ s) false,m,none⟩:=by rw [afW,aqu h h1 h2 h3]
theorem aj7 {P:Program} {d:Bool} {m:aF} {t:TypeId} {len:Nat} {parts:List (Nat×AV)}:tE P d false m t len parts=pH P m t len parts:=rfl
theorem aj8 {P:Program} {m:aF} {t:TypeId} {len:Nat} {parts:List (Nat×AV)}:tE P true true m t len parts=eY P m t len parts:=rfl
theorem afZ {P:Program} {m:aF} {t:TypeId} {len:Nat} {parts:List (Nat×AV)} (h:(eY P m t len parts).isSome=true):tE P false true m t len parts=eY P m t len parts:=by
 obtain ⟨o,ho⟩:=Option.isSome_iff_exists.1 h
 simp only [tE,ho,ady]
theorem aj9 {P:Program} {m:aF} {t:TypeId} {len:Nat} {parts:List (Nat×AV)} (h:eY P m t len parts=none):tE P false true m t len parts=xA P m t len parts:=by
 simp only [tE,h,ady]
theorem aka {P:Program} {c:Bool} {m:aF} {t:TypeId} {x:AV} {lo hi mx:Option AV}:sliceX P false c m t x lo hi mx=if slOk P m t x then (bH lo).bind fun lo=>(bH hi).bind fun hi=>(bH mx).bind fun mx=>eQ (kI P t lo hi mx x) m else none:=by cases c <;> rfl
theorem akb {P:Program} {m:aF} {t:TypeId} {x:AV} {lo hi mx:Option AV}:sliceX P true false m t x lo hi mx=if slOk P m t x then (bH lo).bind fun lo=>(bH hi).bind fun hi=>(bH mx).bind fun mx=>eQ (kI P t lo hi mx x) m else none:=rfl
theorem akc {P:Program} {m:aF} {t:TypeId} {n c:Nat} {cs:List AV} {f:Bool} {lo hi mx:Option AV}:sliceX P true true m t (.tree n c cs f) lo hi mx=(bH lo).bind fun lo=>(bH hi).bind fun hi=>(bH mx).bind fun mx=>eQ (kI P t lo hi mx (.tree n c cs f)) m:=rfl
theorem akd {P:Program} {m:aF} {t:TypeId} {v:Value} {lo hi mx:Option AV}:sliceX P true true m t (.val v) lo hi mx=(bH lo).bind fun lo=>(bH hi).bind fun hi=>(bH mx).bind fun mx=>eQ (kI P t lo hi mx (.val v)) m:=rfl
theorem ake {P:Program} {m:aF} {t:TypeId} {n:Nat} {cs:List AV} {lo hi mx:Option AV}:sliceX P true true m t (.tptr n cs) lo hi mx=(bH lo).bind fun lo=>(bH hi).bind fun hi=>(bH mx).bind fun mx=>eQ (kI P t lo hi mx (.tptr n cs)) m:=rfl
structure aB (p:Prop):Prop where
 out:p
theorem post:(type_of% @aka)∧(type_of% @akb)∧(type_of% @akc)∧(type_of% @akd)∧(type_of% @ake)∧(type_of% @aj1)∧(type_of% @aj2)∧(type_of% @aj3)∧(type_of% @aj4)∧(type_of% @aj5)∧(type_of% @aj6)∧(type_of% @afX)∧(type_of% @afY)∧(type_of% @aj7)∧(type_of% @aj8)∧(type_of% @afZ)∧(type_of% @min2)∧(type_of% @max2)∧(type_of% @ajY)∧(type_of% @ajZ)∧(type_of% @aj0)∧(type_of% @ajN)∧(type_of% @ajO)∧(type_of% @ajP)∧(type_of% @ajQ)∧(type_of% @ajR)∧(type_of% @ajS)∧(type_of% @ajT)∧(type_of% @ajU)∧(type_of% @ajV)∧(type_of% @ajW) :=
 ⟨@aka,@akb,@akc,@akd,@ake,@aj1,@aj2,@aj3,@aj4,@aj5,@aj6,@afX,@afY,@aj7,@aj8,@afZ,@min2,@max2,@ajY,@ajZ,@aj0,@ajN,@ajO,@ajP,@ajQ,@ajR,@ajS,@ajT,@ajU,@ajV,@ajW⟩
theorem sb:(type_of% @Option.isSome_some.{0})∧(type_of% @ne_eq.{1})∧(type_of% @not_false_eq_true)∧(type_of% @List.length_cons.{0})∧(type_of% @List.length_nil.{0})∧(type_of% @List.map_cons.{0,0})∧(type_of% @List.map_nil.{0,0})∧(type_of% @List.append_nil.{0})∧(type_of% @List.cons_append.{0})∧(type_of% @List.nil_append.{0})∧(type_of% @List.take_succ_cons.{0})∧(type_of% @List.take_zero.{0})∧(type_of% @List.drop_succ_cons.{0})∧(type_of% @List.drop_zero.{0})∧(type_of% @Nat.zero_add)∧(type_of% @Nat.add_zero)∧(type_of% @Nat.zero_le)∧(type_of% @Nat.le_refl)∧(type_of% @decide_true)∧(type_of% @decide_false)∧(type_of% @Bool.not_true)∧(type_of% @Bool.not_false)∧(type_of% @if_true.{1})∧(type_of% @if_false.{1})∧(type_of% @Bool.false_eq_true)∧(type_of% @true_and)∧(type_of% @and_true)∧(type_of% @Option.bind_some.{0,0})∧(type_of% @Option.map_some.{0,0})∧(type_of% @List.getElem?_cons_zero.{0})∧(type_of% @List.getElem?_cons_succ.{0})∧(type_of% @and_self) :=
 ⟨@Option.isSome_some.{0},@ne_eq.{1},@not_false_eq_true,@List.length_cons.{0},@List.length_nil.{0},@List.map_cons.{0,0},@List.map_nil.{0,0},@List.append_nil.{0},@List.cons_append.{0},@List.nil_append.{0},@List.take_succ_cons.{0},@List.take_zero.{0},@List.drop_succ_cons.{0},@List.drop_zero.{0},@Nat.zero_add,@Nat.add_zero,@Nat.zero_le,@Nat.le_refl,@decide_true,@decide_false,@Bool.not_true,@Bool.not_false,@if_true.{1},@if_false.{1},@Bool.false_eq_true,@true_and,@and_true,@Option.bind_some.{0,0},@Option.map_some.{0,0},@List.getElem?_cons_zero.{0},@List.getElem?_cons_succ.{0},@and_self⟩
theorem sq:(type_of% @cL.eq_1)∧(type_of% @cL.eq_2)∧(type_of% @cL.eq_3)∧(type_of% @cL.eq_4)∧(type_of% @cL.eq_5)∧(type_of% @cL.eq_6)∧(type_of% @cL.eq_7)∧(type_of% @cL.eq_8)∧(type_of% @cL.eq_9)∧(type_of% @cL.eq_10)∧(type_of% @cL.eq_11)∧(type_of% @cL.eq_12)∧(type_of% @cL.eq_13)∧(type_of% @cL.eq_14)∧(type_of% @c9.eq_1)∧(type_of% @c9.eq_2)∧(type_of% @c9.eq_3)∧(type_of% @c9.eq_4)∧(type_of% @c9.eq_5)∧(type_of% @c9.eq_6)∧(type_of% @c9.eq_7)∧(type_of% @c9.eq_8)∧(type_of% @c9.eq_9)∧(type_of% @c9.eq_10)∧(type_of% @c9.eq_11)∧(type_of% @c9.eq_12)∧(type_of% @c9.eq_13)∧(type_of% @c9.eq_14)∧(type_of% @c9.eq_15)∧(type_of% @c9.eq_16)∧(type_of% @c9.eq_17)∧(type_of% @c9.eq_18)∧(type_of% @c9.eq_19)∧(type_of% @c9.eq_20)∧(type_of% @c9.eq_21)∧(type_of% @c9.eq_22)∧(type_of% @aD.eq_1)∧(type_of% @qO.eq_1)∧(type_of% @i5.eq_1)∧(type_of% @i5.eq_2)∧(type_of% @i5.eq_3)∧(type_of% @kV.eq_1)∧(type_of% @rK.eq_1)∧(type_of% @pM.eq_1)∧(type_of% @pM.eq_2)∧(type_of% @mL.eq_1)∧(type_of% @mL.eq_2)∧(type_of% @mL.eq_3)∧(type_of% @mL.eq_4)∧(type_of% @pK.eq_1)∧(type_of% @pK.eq_2)∧(type_of% @jZ.eq_1)∧(type_of% @mY.eq_1)∧(type_of% @mY.eq_2)∧(type_of% @oP.eq_1)∧(type_of% @oP.eq_2)∧(type_of% @rJ.eq_1)∧(type_of% @fX.eq_1)∧(type_of% @fX.eq_2)∧(type_of% @cN.eq_1)∧(type_of% @AV.cells.eq_1)∧(type_of% @AV.cells.eq_2)∧(type_of% @fK.eq_1)∧(type_of% @fK.eq_2)∧(type_of% @dF.eq_1)∧(type_of% @dF.eq_2)∧(type_of% @dF.eq_3)∧(type_of% @dF.eq_4)∧(type_of% @dF.eq_5)∧(type_of% @dF.eq_6)∧(type_of% @fzs.eq_1)∧(type_of% @fzs.eq_2)∧(type_of% @fz.eq_1)∧(type_of% @fz.eq_2)∧(type_of% @fz.eq_3)∧(type_of% @fz.eq_4)∧(type_of% @fz.eq_5)∧(type_of% @fz.eq_6)∧(type_of% @fz.eq_7)∧(type_of% @fz.eq_8)∧(type_of% @pO.eq_1)∧(type_of% @pO.eq_2)∧(type_of% @iT.eq_1)∧(type_of% @canon.eq_1)∧(type_of% @canon.eq_2)∧(type_of% @canon.eq_3)∧(type_of% @canon.eq_4)∧(type_of% @canon.eq_5)∧(type_of% @canon.eq_6)∧(type_of% @canon.eq_7)∧(type_of% @canon.eq_8)∧(type_of% @canon.eq_9)∧(type_of% @canon.eq_10)∧(type_of% @f9.eq_1)∧(type_of% @f9.eq_2)∧(type_of% @shift.eq_1)∧(type_of% @shift.eq_2)∧(type_of% @shift.eq_3)∧(type_of% @shift.eq_4)∧(type_of% @shift.eq_5)∧(type_of% @shift.eq_6)∧(type_of% @shift.eq_7)∧(type_of% @shift.eq_8)∧(type_of% @shift.eq_9)∧(type_of% @gS.eq_1)∧(type_of% @gS.eq_2)∧(type_of% @d8.eq_1)∧(type_of% @gG.eq_1)∧(type_of% @gG.eq_2):=⟨@cL.eq_1,@cL.eq_2,@cL.eq_3,@cL.eq_4,@cL.eq_5,@cL.eq_6,@cL.eq_7,@cL.eq_8,@cL.eq_9,@cL.eq_10,@cL.eq_11,@cL.eq_12,@cL.eq_13,@cL.eq_14,@c9.eq_1,@c9.eq_2,@c9.eq_3,@c9.eq_4,@c9.eq_5,@c9.eq_6,@c9.eq_7,@c9.eq_8,@c9.eq_9,@c9.eq_10,@c9.eq_11,@c9.eq_12,@c9.eq_13,@c9.eq_14,@c9.eq_15,@c9.eq_16,@c9.eq_17,@c9.eq_18,@c9.eq_19,@c9.eq_20,@c9.eq_21,@c9.eq_22,@aD.eq_1,@qO.eq_1,@i5.eq_1,@i5.eq_2,@i5.eq_3,@kV.eq_1,@rK.eq_1,@pM.eq_1,@pM.eq_2,@mL.eq_1,@mL.eq_2,@mL.eq_3,@mL.eq_4,@pK.eq_1,@pK.eq_2,@jZ.eq_1,@mY.eq_1,@mY.eq_2,@oP.eq_1,@oP.eq_2,@rJ.eq_1,@fX.eq_1,@fX.eq_2,@cN.eq_1,@AV.cells.eq_1,@AV.cells.eq_2,@fK.eq_1,@fK.eq_2,@dF.eq_1,@dF.eq_2,@dF.eq_3,@dF.eq_4,@dF.eq_5,@dF.eq_6,@fzs.eq_1,@fzs.eq_2,@fz.eq_1,@fz.eq_2,@fz.eq_3,@fz.eq_4,@fz.eq_5,@fz.eq_6,@fz.eq_7,@fz.eq_8,@pO.eq_1,@pO.eq_2,@iT.eq_1,@canon.eq_1,@canon.eq_2,@canon.eq_3,@canon.eq_4,@canon.eq_5,@canon.eq_6,@canon.eq_7,@canon.eq_8,@canon.eq_9,@canon.eq_10,@f9.eq_1,@f9.eq_2,@shift.eq_1,@shift.eq_2,@shift.eq_3,@shift.eq_4,@shift.eq_5,@shift.eq_6,@shift.eq_7,@shift.eq_8,@shift.eq_9,@gS.eq_1,@gS.eq_2,@d8.eq_1,@gG.eq_1,@gG.eq_2⟩
theorem sr:(type_of% @Option.getD_some.{0})∧(type_of% @Option.getD_none.{0})∧(type_of% @Bool.and_true)∧(type_of% @Bool.and_false)∧(type_of% @Bool.true_and)∧(type_of% @Bool.false_and)∧(type_of% @Bool.and_self)∧(type_of% @dH)∧(type_of% @cW)∧(type_of% @eq_self.{1})∧(type_of% @Nat.mul_one)∧(type_of% @l6)∧(type_of% @l7)∧(type_of% @bB.eq_1):=⟨@Option.getD_some.{0},@Option.getD_none.{0},@Bool.and_true,@Bool.and_false,@Bool.true_and,@Bool.false_and,@Bool.and_self,@dH,@cW,@eq_self.{1},@Nat.mul_one,@l6,@l7,@bB.eq_1⟩
theorem aV:(type_of% @plain.eq_1)∧(type_of% @plain.eq_2)∧(type_of% @plain.eq_3)∧(type_of% @plain.eq_4)∧(type_of% @plain.eq_5)∧(type_of% @plain.eq_6)∧(type_of% @plain.eq_7)∧(type_of% @eB.eq_1)∧(type_of% @eB.eq_2)∧(type_of% @aD.eq_1)∧(type_of% @bB.eq_1)∧(type_of% @Bool.and_true)∧(type_of% @Bool.and_self):=⟨@plain.eq_1,@plain.eq_2,@plain.eq_3,@plain.eq_4,@plain.eq_5,@plain.eq_6,@plain.eq_7,@eB.eq_1,@eB.eq_2,@aD.eq_1,@bB.eq_1,@Bool.and_true,@Bool.and_self⟩
theorem sx:(type_of% @post)∧(type_of% @sb)∧(type_of% @vI)∧(type_of% @vJ)∧(type_of% @sq):=⟨@post,@sb,@vI,@vJ,@sq⟩
end Go.Tw