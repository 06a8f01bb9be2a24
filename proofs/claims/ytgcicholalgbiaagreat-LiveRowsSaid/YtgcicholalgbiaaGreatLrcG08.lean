import Derived.Test.YtgcicholalgbiaaGreatLrcG07
import Derived.Scope
set_option linter.unusedVariables false
set_option linter.unusedSimpArgs false
namespace Go.Tw
open Go
def codeW (P:Program) (once:Nat→Bool) (n:Nat):Code→(Ex→Env→Mem→Prop)→Env→Mem→Prop
 | .skip,Q,e,m=>Q .normal e m
 | .label _,Q,e,m=>Q .normal e m
 | .region _ ops d,Q,e,m=>opsW P once d ops (Q .normal) ops.toList e m
 | .seq a b,Q,e,m=>codeW P once n a (thenQ (codeW P once n b Q) Q) e m
 | .cond c a b,Q,e,m=>condW (codeW P once n a Q e m) (codeW P once n b Q e m) (opd e c)
 | .block id b,Q,e,m=>codeW P once n b (blockQ id Q) e m
 | .loop b,Q,e,m=>loopW (codeW P once n b) Q e m
 | .exit id,Q,e,m=>Q (.exit id) e m
 | .ret,Q,e,m=>Q .ret e m
 | .scope b,Q,e,m=>codeW P once n b Q e m
 | _,_,_,_=>False
def codeOk (n:Nat):Code→Bool
 | .region _ ops d=>regOk n ops && (!d || drawOk ops)
 | .seq a b=>codeOk n a && codeOk n b
 | .cond _ a b=>codeOk n a && codeOk n b
 | .block _ b=>codeOk n b
 | .loop b=>codeOk n b
 | .scope b=>codeOk n b
 | _=>true
section
variable {P:Program} {w0:World} {I0:Nat→Prop} {ρ0:Real} {m0:Mem} {n:Nat} {D:List Deferred}
def liftQ (P:Program) (w0:World) (I0:Nat→Prop) (ρ0:Real) (m0:Mem) (n:Nat) (D:List Deferred) (Q:Ex→Env→Mem→Prop):Exit→Act→World→Prop
 | .normal,a,w=>∃ e m I ρ,Q .normal e m∧Rel P w0 I0 ρ0 m0 n D e m a w I ρ
 | .exit id,a,w=>∃ e m I ρ,Q (.exit id) e m∧Rel P w0 I0 ρ0 m0 n D e m a w I ρ
 | .ret,a,w=>∃ e m I ρ,Q .ret e m∧Rel P w0 I0 ρ0 m0 n D e m a w I ρ
 | _,_,_=>False
theorem codeW_sound (hm:P.follows .mixedOrders=true) {once:Nat→Bool}:∀ (c:Code) (Q:Ex→Env→Mem→Prop) (e:Env) (m:Mem) (a:Act) (w:World) (I:Nat→Prop) (ρ:Real),codeOk n c=true→codeW P once n c Q e m→Rel P w0 I0 ρ0 m0 n D e m a w I ρ→c.wp P (liftQ P w0 I0 ρ0 m0 n D Q) a w:=by
 intro c
 induction c with
 | skip=>exact fun Q e m a w I ρ _ h hR=>wp_skip ⟨e,m,I,ρ,h,hR⟩
 | label l=>exact fun Q e m a w I ρ _ h hR=>wp_label ⟨e,m,I,ρ,h,hR⟩
 | region id ops d =>
  intro Q e m a w I ρ hok h3 hR
  simp only [codeW] at h3
  simp only [codeOk,Bool.and_eq_true,Bool.or_eq_true,Bool.not_eq_true'] at hok
  obtain ⟨h1,h2⟩:=hok
  cases d with
  | false =>
   refine wp_region ?_
   have:=opsW_plain (w0:=w0) (I0:=I0) (ρ0:=ρ0) (m0:=m0) h1 (Q:=Q .normal) (Q':=liftQ P w0 I0 ρ0 m0 n D Q) (fun e m a w I ρ hq hR=>⟨e,m,I,ρ,hq,hR⟩) ops.toList 0 e m a w I ρ rfl h3 hR
   rw [List.range_eq_range']
   simpa using this
  | true=>exact opsW_draw hm h1 (h2.resolve_left (by simp)) (Q:=Q .normal) (Q':=liftQ P w0 I0 ρ0 m0 n D Q) (fun e m a w I ρ hq hR=>⟨e,m,I,ρ,hq,hR⟩) h3 hR
 | seq x y ihx ihy =>
  intro Q e m a w I ρ hok h hR
  simp only [codeW] at h
  simp only [codeOk,Bool.and_eq_true] at hok
  refine wp_seq (wp_mono (ihx _ e m a w I ρ hok.1 h hR) ?_)
  intro ex a' w' hq
  cases ex with
  | normal =>
   obtain ⟨e',m',I',ρ',h1,h2⟩:=hq
   exact ihy Q e' m' a' w' I' ρ' hok.2 h1 h2
  | exit id=>exact hq
  | ret=>exact hq
  | goto l=>exact hq
  | panic c=>exact hq
  | outgrown=>exact hq
 | cond c x y ihx ihy =>
  intro Q e m a w I ρ hok h hR
  simp only [codeW] at h
  simp only [codeOk,Bool.and_eq_true] at hok
  have hc:=opd_eval hR.er c
  unfold condW at h
  split at h
  ·rename_i t ht
   rw [ht] at hc
   simp only [VR] at hc
   exact wp_cond_split hc (fun ht=>ihx Q e m a w I ρ hok.1 (h.1 ht) hR) (fun ht=>ihy Q e m a w I ρ hok.2 (h.2 ht) hR)
  ·exact h.elim
 | block id b ih =>
  intro Q e m a w I ρ hok h hR
  simp only [codeW] at h
  simp only [codeOk,Bool.and_eq_true] at hok
  refine wp_block (wp_mono (ih _ e m a w I ρ hok h hR) ?_)
  intro ex a' w' hq
  cases ex with
  | exit id' =>
   obtain ⟨e',m',I',ρ',h1,h2⟩:=hq
   simp only [blockQ] at h1
   simp only [Exit.inBlock]
   split at h1
   ·rename_i hid;rw [if_pos hid];exact ⟨e',m',I',ρ',h1,h2⟩
   ·rename_i hid;rw [if_neg hid];exact ⟨e',m',I',ρ',h1,h2⟩
  | normal=>exact hq
  | ret=>exact hq
  | goto l=>exact hq
  | panic c=>exact hq
  | outgrown=>exact hq
 | loop b ih =>
  intro Q e m a w I ρ hok h hR
  simp only [codeW] at h
  simp only [codeOk,Bool.and_eq_true] at hok
  obtain ⟨J,k,hJ,hround⟩:=h
  refine wp_loop_ghost (fun k a w=>∃ e m I ρ,J k e m∧Rel P w0 I0 ρ0 m0 n D e m a w I ρ) k ⟨e,m,I,ρ,hJ,hR⟩ ?_
  rintro k a w ⟨e,m,I,ρ,hJ,hR⟩
  refine wp_mono (ih _ e m a w I ρ hok (hround k e m hJ) hR) ?_
  intro ex a' w' hq
  cases ex with
  | normal =>
   obtain ⟨e',m',I',ρ',⟨k',hlt,h1⟩,h2⟩:=hq
   exact ⟨k',hlt,e',m',I',ρ',h1,h2⟩
  | exit id=>exact hq
  | ret=>exact hq
  | goto l=>exact hq
  | panic c=>exact hq
  | outgrown=>exact hq
 | exit id=>exact fun Q e m a w I ρ _ h hR=>wp_exit ⟨e,m,I,ρ,h,hR⟩
 | ret=>exact fun Q e m a w I ρ _ h hR=>wp_ret ⟨e,m,I,ρ,h,hR⟩
 | rangeFunc f ps x y=>exact fun Q e m a w I ρ _ h hR=>h.elim
 | scope b ih =>
  intro Q e m a w I ρ hok h hR
  simp only [codeW] at h
  simp only [codeOk] at hok
  refine wp_scope_straight (wp_mono (ih _ e m a w I ρ hok h hR) ?_)
  intro ex a' w' hq
  cases ex with
  | normal=>exact hq
  | exit id=>exact hq
  | ret=>exact hq
  | goto l=>exact hq.elim
  | panic c=>exact hq.elim
  | outgrown=>exact hq.elim
 | goto l=>exact fun Q e m a w I ρ _ h hR=>h.elim
 | refuse s=>exact fun Q e m a w I ρ _ h hR=>h.elim
theorem entry_rel {w : World} {I : Nat → Prop} {ρ : Real} {m : Mem} {args : List AV} {vs : Array Value} (hS : SR P w I ρ m) (hsz : vs.size = args.length) (hv : VRs P w I ρ args (fun j => vs[j]?)) (hfree : ∀ b, m.next ≤ b → ρ b = none) (hle : args.length ≤ n) :
   Rel P w I ρ m n [] (entryE args) m { tmps := vs ++ Array.replicate (n - vs.size) undef, defers := [] } w I ρ where
 er := by
   intro t
   simp only [entryE]
   rw [Array.getD_eq_getD_getElem?, List.getD_eq_getElem?_getD]
   rcases Nat.lt_or_ge t args.length with h | h
   · obtain ⟨v, h1, h2⟩ := VRs_at hv (List.getElem?_eq_getElem h)
     rw [Array.getElem?_append_left (by omega), h1, List.getElem?_eq_getElem h]
     exact h2
   · rw [List.getElem?_eq_none h]
     rcases Nat.lt_or_ge t n with h3 | h3
     · rw [Array.getElem?_append_right (by omega), Array.getElem?_replicate, if_pos (by omega)]
       simp only [Option.getD_none, Option.getD_some, undefA, undef, VR]
     · rw [Array.getElem?_eq_none (by simp; omega)]
       simp only [Option.getD_none, undefA, undef, VR]
 sr := hS
 free := hfree
 step := Step.refl _ _ _ _
 size := by simp; omega
 defers := rfl
def resF (tmps:Array Value):ResultVar→Sem Value
 | .tmp t=>pure (tmps.getD t undef)
 | .cell a t=>do loadVar t (←asAddr (tmps.getD a undef))
theorem resEs_sound {w : World} {I : Nat → Prop} {ρ : Real} {e : Env} {m : Mem} {a : Act} (hS : SR P w I ρ m) (he : ER P w I ρ e a) : ∀ (rs : List ResultVar) (avs : List AV), resEs P e m rs = some avs →
   ∃ vs : List Value, (rs.mapM (resF a.tmps)).run P w = .ok vs w ∧ vs.length = avs.length ∧ VRs P w I ρ avs (fun j => vs[j]?)
 | [], avs, h => by
   simp only [resEs, Option.some.injEq] at h
   subst h
   exact ⟨[], by simp, rfl, by simp only [VRs]⟩
 | r :: rs, avs, h => by
   simp only [resEs] at h
   obtain ⟨av, hav, h⟩ := Option.bind_eq_some_iff.1 h
   obtain ⟨avs', h', rfl⟩ := Option.map_eq_some_iff.1 h
   obtain ⟨vs, h1, h2, h3⟩ := resEs_sound hS he rs avs' h'
   cases r with
   | tmp t =>
     simp only [resE, Option.some.injEq] at hav
     subst hav
     refine ⟨a.tmps.getD t undef :: vs, by simp [List.mapM_cons, resF, h1], by simp [h2], ?_⟩
     simp only [VRs]
     exact ⟨⟨_, rfl, he t⟩, h3⟩
   | cell p t =>
     simp only [resE] at hav
     obtain ⟨v, h4, h5⟩ := loadE_sound hS hav (he p)
     refine ⟨v :: vs, ?_, by simp [h2], ?_⟩
     · have h6 : (do loadVar t (← asAddr (a.tmps.getD p undef)) : Sem Value).run P w = .ok v w := by
         have hp := he p
         unfold loadE at hav
         split at hav
         · rename_i heq; rw [heq] at hp; simp only [VR] at hp; obtain ⟨g, o, _, hp⟩ := hp
           rw [hp] at h4 ⊢; simpa [Instr.loadAt, Instr.sureAddr, asAddr] using h4
         · rename_i heq; rw [heq] at hp; simp only [VR] at hp; obtain ⟨g, o, hp, _⟩ := hp
           rw [hp] at h4 ⊢; simpa [Instr.loadAt, Instr.sureAddr, asAddr] using h4
         · cases hav
       have h7 : (resF a.tmps (.cell p t)).run P w = .ok v w := h6
       simp only [List.mapM_cons, Sem.run_bind, Sem.run_pure, h7, Result.andThen_ok, h1]
     · simp only [VRs]
       exact ⟨⟨v, rfl, h5⟩, h3⟩
theorem resultsE_sound {w:World} {I:Nat→Prop} {ρ:Real} {e:Env} {m:Mem} {a:Act} (hS:SR P w I ρ m) (he:ER P w I ρ e a) {fn:Func} {av:AV} (h:resultsE P fn.results.toList e m=some av):∃ v,(results fn a.tmps).run P w = .ok v w∧VR P w I ρ av v:=by
 unfold resultsE at h
 obtain ⟨avs,havs,h⟩:=Option.map_eq_some_iff.1 h
 obtain ⟨vs,h1,h2,h3⟩:=resEs_sound hS he fn.results.toList avs havs
 have hres:results fn a.tmps=(do
  let vs ←fn.results.mapM (resF a.tmps)
  pure (if h:vs.size=1 then vs[0] else .tuple vs)):=rfl
 have hrun:(fn.results.mapM (resF a.tmps)).run P w = .ok vs.toArray w:=by
  rw [Array.mapM_eq_mapM_toList,Sem.run_map,h1]
  rfl
 rw [hres]
 simp only [Sem.run_bind,hrun,Result.andThen_ok,Sem.run_pure]
 refine ⟨_,rfl, ?_⟩
 split at h
 ·rename_i x
  subst h
  simp only [List.length_cons,List.length_nil] at h2
  match vs,h2,h3 with
  | [v],_,h3 =>
   simp only [VRs] at h3
   obtain ⟨⟨u,h4,h5⟩,_⟩:=h3
   simp at h4
   subst h4
   simpa using h5
 ·rename_i hne
  subst h
  have hl:vs.length≠1:=by
   intro h
   rw [h2] at h
   obtain ⟨x,hx⟩:=List.length_eq_one_iff.1 h
   exact hne x hx
  rw [dif_neg (by simpa using hl)]
  simp only [VR]
  exact ⟨vs.toArray,rfl,by simpa using h2,by simpa using h3⟩
def endQ (P:Program) (rs:List ResultVar) (K:AV→Mem→Prop):Ex→Env→Mem→Prop
 | .exit _,_,_=>False
 | _,e,m=>match resultsE P rs e m with
  | some v=>K v m
  | none=>False
theorem fspec_of_body (hm : P.follows .mixedOrders = true) {f : FuncId} {fn : Func} {c : Code} (hf : P.funcs[f]? = some fn) (hb : fn.body = some c) (hn : fn.name ≠ "runtime.NumGoroutine") (once : Nat → Bool) {args : List AV} {r : Res} (hle : args.length ≤ fn.ntmps) (hok : codeOk fn.ntmps c = true)
   (h : codeW P once fn.ntmps c (endQ P fn.results.toList fun v m => canonR P m v = some r) (entryE args) Mem.empty) : FSpec P f args r := by
 refine ⟨by simp [callable, hf, hb, hn], fun w I vs hI hsz hv => ?_⟩
 have hS : SR P w I noneR Mem.empty := ⟨fun b k g o h => by simp [Mem.empty] at h, fun b b' k k' g o o' h => by simp [Mem.empty] at h, hI, MRs.none⟩
 have hR := entry_rel (n := fn.ntmps) hS hsz hv (fun _ _ => rfl) hle
 refine calls_of_wp hf hb (wp_mono (codeW_sound hm c _ _ _ _ w I noneR hok h hR) ?_)
 intro ex a w' hq
 have fin : ∀ e m I' ρ', (match resultsE P fn.results.toList e m with | some v => canonR P m v = some r | none => False) → Rel P w I noneR Mem.empty fn.ntmps [] e m a w' I' ρ' →
     a.defers = [] ∧ ∃ v, (results fn a.tmps).run P w' = .ok v w' ∧ ∃ v' I' ρ', Ending.returned v = .returned v' ∧ VR P w' I' ρ' r.v v' ∧ SR P w' I' ρ' (pushAll P Mem.empty r.rows) ∧ Step w I noneR Mem.empty w' I' ρ' (pushAll P Mem.empty r.rows) := by
   intro e m I' ρ' h1 h2
   split at h1
   · rename_i av hav
     obtain ⟨v, h3, h4⟩ := resultsE_sound h2.sr h2.er hav
     obtain ⟨ρ'', h5, h6, h7⟩ := canonR_sound h2.sr h2.step h4 h1
     exact ⟨h2.defers, v, h3, v, I', ρ'', rfl, h5, h6, h7⟩
   · exact h1.elim
 cases ex with
 | normal => obtain ⟨e, m, I', ρ', h1, h2⟩ := hq; exact fin e m I' ρ' h1 h2
 | ret => obtain ⟨e, m, I', ρ', h1, h2⟩ := hq; exact fin e m I' ρ' h1 h2
 | exit id => obtain ⟨e, m, I', ρ', h1, h2⟩ := hq; exact h1.elim
 | goto l => exact hq.elim
 | panic c => exact hq.elim
 | outgrown => exact hq.elim
theorem body_wp (hm : P.follows .mixedOrders = true) {fn : Func} {c : Code} (once : Nat → Bool) {args : List AV} {m : Mem} {Q : AV → Mem → Prop} (hle : args.length ≤ fn.ntmps) (hok : codeOk fn.ntmps c = true)
   (h : codeW P once fn.ntmps c (endQ P fn.results.toList Q) (entryE args) m) {w : World} {I : Nat → Prop} {ρ : Real} {vs : Array Value} (hS : SR P w I ρ m) (hsz : vs.size = args.length) (hv : VRs P w I ρ args (fun j => vs[j]?)) (hfree : ∀ b, m.next ≤ b → ρ b = none) :
   c.wp P (bodyPost P fn fun en w' => ∃ v r m' I' ρ', en = .returned v ∧ Q r m' ∧ VR P w' I' ρ' r v ∧ SR P w' I' ρ' m' ∧ Step w I ρ m w' I' ρ' m' ∧ ∀ b, m'.next ≤ b → ρ' b = none) { tmps := vs ++ Array.replicate (fn.ntmps - vs.size) undef, defers := [] } w := by
 refine wp_mono (codeW_sound hm c _ _ _ _ w I ρ hok h (entry_rel (n := fn.ntmps) hS hsz hv hfree hle)) ?_
 intro ex a w' hq
 have fin : ∀ e m' I' ρ', (match resultsE P fn.results.toList e m' with | some v => Q v m' | none => False) → Rel P w I ρ m fn.ntmps [] e m' a w' I' ρ' →
     a.defers = [] ∧ ∃ v, (results fn a.tmps).run P w' = .ok v w' ∧ ∃ v' r m' I' ρ', Ending.returned v = .returned v' ∧ Q r m' ∧ VR P w' I' ρ' r v' ∧ SR P w' I' ρ' m' ∧ Step w I ρ m w' I' ρ' m' ∧ ∀ b, m'.next ≤ b → ρ' b = none := by
   intro e m' I' ρ' h1 h2
   split at h1
   · rename_i av hav
     obtain ⟨v, h3, h4⟩ := resultsE_sound h2.sr h2.er hav
     exact ⟨h2.defers, v, h3, v, av, m', I', ρ', rfl, h1, h4, h2.sr, h2.step, h2.free⟩
   · exact h1.elim
 cases ex with
 | normal => obtain ⟨e, m, I', ρ', h1, h2⟩ := hq; exact fin e m I' ρ' h1 h2
 | ret => obtain ⟨e, m, I', ρ', h1, h2⟩ := hq; exact fin e m I' ρ' h1 h2
 | exit id => obtain ⟨e, m, I', ρ', h1, h2⟩ := hq; exact h1.elim
 | goto l => exact hq.elim
 | panic c => exact hq.elim
 | outgrown => exact hq.elim
theorem ospec_of_body (hm : P.follows .mixedOrders = true) {f : FuncId} {fn : Func} {c : Code} (hf : P.funcs[f]? = some fn) (hb : fn.body = some c) (hn : fn.name ≠ "runtime.NumGoroutine") (once : Nat → Bool) {args : List AV} {m : Mem} {Q : AV → Mem → Prop} (hle : args.length ≤ fn.ntmps) (hok : codeOk fn.ntmps c = true)
   (h : codeW P once fn.ntmps c (endQ P fn.results.toList Q) (entryE args) m) : OSpec P f args m Q :=
 ⟨by simp [callable, hf, hb, hn], fun w I ρ vs hS hsz hv hfree => calls_of_wp hf hb (body_wp hm once hle hok h hS hsz hv hfree)⟩
end
def kindE (P:Program) (t:TypeId):Option IntKind:=match P.underlying t with | some (.int k)=>some k | _=>none
def contW (P:Program) (once:Nat→Bool) (d:Bool) (ops:Array Oper) (Q:Env→Mem→Prop) (rest:List Oper) (e:Env) (m:Mem) (dst:Option Nat) (out:Out):Prop :=
 (d=true→drawn once ops (rest.length+1) m out)∧opsW P once d ops Q rest ((wbE e out.wb).put dst out.v) out.m
section
variable {P:Program} {once:Nat→Bool} {d:Bool} {n:Nat} {ops:Array Oper} {Q:Env→Mem→Prop} {e:Env} {m:Mem} {K:Out→Prop} {R:Ex→Env→Mem→Prop}
theorem opsW_nil:opsW P once d ops Q [] e m=Q e m:=rfl
theorem opsW_cons {o:Oper} {rest:List Oper}:opsW P once d ops Q (o::rest) e m=if wantE ops e o then stepW P d (once (o.dst.getD 0)) e m o.type (contW P once d ops Q rest e m o.dst) o.op else opsW P once d ops Q rest (e.put o.dst undefA) m:=rfl
theorem opsW_plain1 {rest:List Oper} {dst:Option Nat} {op:Op} {ty:TypeId} {pos:String} {after:Array Edge}:opsW P once d ops Q (⟨dst,op,ty,pos,after,none⟩::rest) e m=stepW P d (once (dst.getD 0)) e m ty (contW P once d ops Q rest e m dst) op:=rfl
def dstAt:List Oper→Nat→Option Nat
 | [],_=>none
 | o::_,0=>o.dst
 | _::l,n+1=>dstAt l n
theorem dstAt_zero {dst:Option Nat} {op:Op} {ty:TypeId} {pos:String} {after:Array Edge} {g:Option (Nat×Bool)} {l:List Oper}:dstAt (⟨dst,op,ty,pos,after,g⟩::l) 0=dst:=rfl
theorem dstAt_succ {o:Oper} {l:List Oper} {n:Nat}:dstAt (o::l) (n+1)=dstAt l n:=rfl
theorem dstAt_eq:∀ (l:List Oper) (j:Nat),dstAt l j=(l[j]?).bind (·.dst)
 | [],_=>rfl
 | o::_,0=>rfl
 | _::l,n+1=>by rw [dstAt,dstAt_eq l n];rfl
def envAt (e:Env):Option Nat→AV
 | some d=>e d
 | none=>undefA
theorem envAt_some {j:Nat}:envAt e (some j)=e j:=rfl
def guardW (want:Bool) (A B:Prop):AV→Prop
 | .val (.bool b)=>match b == want with
  | true=>A
  | false=>B
 | _=>B
theorem want_eq {o : Oper} {j : Nat} {want : Bool} (h : o.guard = some (j, want)) : wantE ops e o = match envAt e (dstAt ops.toList j) with
   | .val (.bool b) => b == want
   | _ => false := by
 rw [dstAt_eq, Array.getElem?_toList]
 unfold wantE
 rw [h]
 simp only
 cases (ops[j]?).bind (·.dst) <;> rfl
theorem guard_of {want:Bool} {A B:Prop} (x:AV) {c:Bool} (h:c=match x with | .val (.bool b)=>b == want | _=>false):(if c=true then A else B)=guardW want A B x:=by
 subst h
 unfold guardW
 split
 ·rename_i b
  have:∀ c:Bool,(if c=true then A else B)=(match c with | true=>A | false=>B):=by intro c;cases c <;> simp
  exact this _
 ·simp
def gateW (P:Program) (once:Nat→Bool) (d:Bool) (ops:Array Oper) (Q:Env→Mem→Prop) (rest:List Oper) (dst:Option Nat) (op:Op) (ty:TypeId) (e:Env) (m:Mem) (want:Bool) (x:AV):Prop :=
 guardW want (stepW P d (once (dst.getD 0)) e m ty (contW P once d ops Q rest e m dst) op) (opsW P once d ops Q rest (e.put dst undefA) m) x
section
variable {rest:List Oper} {dst:Option Nat} {op:Op} {ty:TypeId} {want:Bool} {pos:String} {after:Array Edge} {j:Nat}
theorem opsW_guard:opsW P once d ops Q (⟨dst,op,ty,pos,after,some (j,want)⟩::rest) e m=gateW P once d ops Q rest dst op ty e m want (envAt e (dstAt ops.toList j)):=by
 rw [opsW_cons]
 exact guard_of _ (want_eq rfl)
theorem guard_tt:gateW P once d ops Q rest dst op ty e m true (.val (.bool true))=stepW P d (once (dst.getD 0)) e m ty (contW P once d ops Q rest e m dst) op:=rfl
theorem guard_ff:gateW P once d ops Q rest dst op ty e m false (.val (.bool false))=stepW P d (once (dst.getD 0)) e m ty (contW P once d ops Q rest e m dst) op:=rfl
theorem guard_tf:gateW P once d ops Q rest dst op ty e m true (.val (.bool false))=opsW P once d ops Q rest (e.put dst undefA) m:=rfl
theorem guard_ft:gateW P once d ops Q rest dst op ty e m false (.val (.bool true))=opsW P once d ops Q rest (e.put dst undefA) m:=rfl
theorem guard_un:gateW P once d ops Q rest dst op ty e m want undefA=opsW P once d ops Q rest (e.put dst undefA) m:=rfl
theorem guard_split {t:Bool} (h1:t=true→gateW P once d ops Q rest dst op ty e m want (.val (.bool true))) (h2:t=false→gateW P once d ops Q rest dst op ty e m want (.val (.bool false))):gateW P once d ops Q rest dst op ty e m want (.val (.bool t)):=by
 cases t with
 | true=>exact h1 rfl
 | false=>exact h2 rfl
end
section
variable {rest:List Oper} {dst:Option Nat} {op:Op} {ty:TypeId} {want:Bool} {p:Prop} [Decidable p]
theorem guard_dec (h1:p→gateW P once d ops Q rest dst op ty e m want (.val (.bool true))) (h2:¬p→gateW P once d ops Q rest dst op ty e m want (.val (.bool false))):gateW P once d ops Q rest dst op ty e m want (.val (.bool (decide p))) :=
 guard_split (fun h=>h1 (of_decide_eq_true h)) (fun h=>h2 (of_decide_eq_false h))
theorem guard_ndec (h1:p→gateW P once d ops Q rest dst op ty e m want (.val (.bool false))) (h2:¬p→gateW P once d ops Q rest dst op ty e m want (.val (.bool true))):gateW P once d ops Q rest dst op ty e m want (.val (.bool (!decide p))) :=
 guard_split (fun h=>h2 (by simpa using h)) (fun h=>h1 (by simpa using h))
end
def condC (P:Program) (once:Nat→Bool) (n:Nat) (a b:Code) (R:Ex→Env→Mem→Prop) (e:Env) (m:Mem) (x:AV):Prop:=condW (codeW P once n a R e m) (codeW P once n b R e m) x
section
variable {a b:Code}
theorem codeW_cond {c:Operand}:codeW P once n (.cond c a b) R e m=condC P once n a b R e m (opd e c):=rfl
theorem cond_split {t:Bool} (h1:t=true→condC P once n a b R e m (.val (.bool true))) (h2:t=false→condC P once n a b R e m (.val (.bool false))):condC P once n a b R e m (.val (.bool t)):=by
 cases t with
 | true=>exact h1 rfl
 | false=>exact h2 rfl
theorem cond_dec {p:Prop} [Decidable p] (h1:p→condC P once n a b R e m (.val (.bool true))) (h2:¬p→condC P once n a b R e m (.val (.bool false))):condC P once n a b R e m (.val (.bool (decide p))) :=
 cond_split (fun h=>h1 (of_decide_eq_true h)) (fun h=>h2 (of_decide_eq_false h))
theorem cond_ndec {p:Prop} [Decidable p] (h1:p→condC P once n a b R e m (.val (.bool false))) (h2:¬p→condC P once n a b R e m (.val (.bool true))):condC P once n a b R e m (.val (.bool (!decide p))) :=
 cond_split (fun h=>h2 (by simpa using h)) (fun h=>h1 (by simpa using h))
theorem cond_t:condC P once n a b R e m (.val (.bool true))=codeW P once n a R e m:=by simp [condC,condW]
theorem cond_f:condC P once n a b R e m (.val (.bool false))=codeW P once n b R e m:=by simp [condC,condW]
end
theorem pick_t {x y:AV}:pickE x y (.val (.bool true))=some x:=rfl
theorem pick_f {x y:AV}:pickE x y (.val (.bool false))=some y:=rfl
theorem contW_none {m':Mem} {rest:List Oper} {dst:Nat} {v:AV}:contW P once false ops Q rest e m (some dst) ⟨v,m',none⟩=opsW P once false ops Q rest (e.set dst v) m':=by simp [contW,wbE,Env.put]
theorem contW_none' {m':Mem} {rest:List Oper} {v:AV}:contW P once false ops Q rest e m none ⟨v,m',none⟩=opsW P once false ops Q rest e m':=by simp [contW,wbE,Env.put]
theorem contW_wb {rest:List Oper} {dst:Option Nat} {v x:AV} {m':Mem} {t:Nat}:contW P once false ops Q rest e m dst ⟨v,m',some (t,x)⟩=opsW P once false ops Q rest ((e.set t x).put dst v) m':=by simp [contW,wbE]
theorem contW_same {rest:List Oper} {dst:Nat} {v:AV}:contW P once true ops Q rest e m (some dst) ⟨v,m,none⟩=opsW P once true ops Q rest (e.set dst v) m:=by simp [contW,wbE,Env.put,drawn]
theorem contW_same' {rest:List Oper} {v:AV}:contW P once true ops Q rest e m none ⟨v,m,none⟩=opsW P once true ops Q rest e m:=by simp [contW,wbE,Env.put,drawn]
theorem contW_fixed {rest:List Oper} {dst:Option Nat} {v:AV} {m':Mem} (hf:fixedAt once ops (ops.size - (rest.length+1))=true) (h:opsW P once true ops Q rest (e.put dst v) m'):contW P once true ops Q rest e m dst ⟨v,m',none⟩:=⟨fun _=>⟨rfl,.inl hf⟩,h⟩
theorem outW_some {o:Out}:outW (some o) K=K o:=rfl
theorem outW_O {v:AV}:outW (outO (some v) m) K=K ⟨v,m,none⟩:=rfl
theorem outW_V {v:AV}:outW (outV v m) K=K ⟨v,m,none⟩:=rfl
theorem put_some {t:Nat} {v:AV}:e.put (some t) v=e.set t v:=rfl
theorem put_none {v:AV}:e.put none v=e:=rfl
theorem set_get {t j:Nat} {v:AV}:(e.set t v) j=if j=t then v else e j:=rfl
theorem thenQ_normal {K:Env→Mem→Prop}:thenQ K R .normal e m=K e m:=rfl
theorem thenQ_ret {K:Env→Mem→Prop}:thenQ K R .ret e m=R .ret e m:=rfl
theorem thenQ_exit {K:Env→Mem→Prop} {id:Nat}:thenQ K R (.exit id) e m=R (.exit id) e m:=rfl
theorem blockQ_normal {id:Nat}:blockQ id R .normal e m=R .normal e m:=rfl
theorem blockQ_ret {id:Nat}:blockQ id R .ret e m=R .ret e m:=rfl
theorem blockQ_exit {id id':Nat}:blockQ id R (.exit id') e m=if id'=id then R .normal e m else R (.exit id') e m:=rfl
theorem endQ_ret {rs:List ResultVar} {K:AV→Mem→Prop}:endQ P rs K .ret e m=match resultsE P rs e m with | some v=>K v m | none=>False:=rfl
theorem endQ_normal {rs:List ResultVar} {K:AV→Mem→Prop}:endQ P rs K .normal e m=match resultsE P rs e m with | some v=>K v m | none=>False:=rfl
theorem res1 {t:Tmp}:resultsE P [.tmp t] e m=some (e t):=rfl
theorem res2 {t u:Tmp}:resultsE P [.tmp t,.tmp u] e m=some (.tup [e t,e u]):=rfl
theorem res3 {t u x:Tmp}:resultsE P [.tmp t,.tmp u,.tmp x] e m=some (.tup [e t,e u,e x]):=rfl
theorem opd_tmp {t:Nat}:opd e (.tmp t)=e t:=rfl
theorem entry_zero {a:AV} {l:List AV}:entryE (a::l) 0=a:=rfl
theorem entry_succ {a:AV} {l:List AV} {n:Nat}:entryE (a::l) (n+1)=entryE l n:=rfl
theorem entry_nil {n:Nat}:entryE [] n=undefA:=rfl
theorem opd_const {v:Value}:opd e (.const v) = .val v:=rfl
theorem opd_func {f:FuncId}:opd e (.func f) = .clo f []:=rfl
@[congr] theorem outW_congr {r r':Option Out} (h:r=r'):outW r K=outW r' K:=by rw [h]
@[congr] theorem makeW_congr {m m':Mem} (h:m=m'):makeW m K=makeW m' K:=by rw [h]
@[congr] theorem rangeW_congr {x x':AV} {t:TypeId} (h:x=x'):rangeW P m t x K=rangeW P m t x' K:=by rw [h]
@[congr] theorem nextW_congr {x x':AV} (h:x=x'):nextW m x K=nextW m x' K:=by rw [h]
@[congr] theorem calleeW_congr {c c':Bool} {args:List AV} {x x':AV} (hc:c=c') (h:x=x'):calleeW P d c m args K x=calleeW P d c' m args K x':=by rw [h,hc]
theorem codeW_region {id:Nat} {ops:Array Oper} {d:Bool}:codeW P once n (.region id ops d) R e m=opsW P once d ops (R .normal) ops.toList e m:=rfl
theorem codeW_seq {a b:Code}:codeW P once n (.seq a b) R e m=codeW P once n a (thenQ (codeW P once n b R) R) e m:=rfl
theorem codeW_block {id:Nat} {b:Code}:codeW P once n (.block id b) R e m=codeW P once n b (blockQ id R) e m:=rfl
theorem codeW_loop {b:Code}:codeW P once n (.loop b) R e m=loopW (codeW P once n b) R e m:=rfl
theorem codeW_exit {id:Nat}:codeW P once n (.exit id) R e m=R (.exit id) e m:=rfl
theorem codeW_ret:codeW P once n .ret R e m=R .ret e m:=rfl
theorem codeW_scope {b:Code}:codeW P once n (.scope b) R e m=codeW P once n b R e m:=rfl
theorem codeW_label {l:Nat}:codeW P once n (.label l) R e m=R .normal e m:=rfl
theorem codeW_skip:codeW P once n .skip R e m=R .normal e m:=rfl
theorem stepW_move {once:Bool} {ty:TypeId} {x:Operand}:stepW P d once e m ty K (.move x)=K ⟨opd e x,m,none⟩:=rfl
theorem stepW_assign {once:Bool} {ty:TypeId} {x:Operand}:stepW P d once e m ty K (.assign x)=K ⟨opd e x,m,none⟩:=rfl
end
theorem pre:(type_of% @opsW_nil)∧(type_of% @opsW_plain1)∧(type_of% @opsW_guard)∧(type_of% @contW_none)∧(type_of% @contW_none')∧(type_of% @contW_same)∧(type_of% @contW_same')∧(type_of% @contW_wb)∧(type_of% @outW_O)∧(type_of% @outW_V)∧(type_of% @outW_some)∧(type_of% @thenQ_normal)∧(type_of% @thenQ_ret)∧(type_of% @thenQ_exit)∧(type_of% @blockQ_normal)∧(type_of% @blockQ_ret)∧(type_of% @blockQ_exit)∧(type_of% @endQ_ret)∧(type_of% @endQ_normal)∧(type_of% @res1)∧(type_of% @res2)∧(type_of% @res3)∧(type_of% @opd_tmp)∧(type_of% @opd_const)∧(type_of% @opd_func)∧(type_of% @set_get)∧(type_of% @put_some)∧(type_of% @entry_zero)∧(type_of% @entry_succ)∧(type_of% @entry_nil)∧(type_of% @put_none)∧(type_of% @dstAt_zero)∧(type_of% @dstAt_succ)∧(type_of% @envAt_some)∧(type_of% @guard_tt)∧(type_of% @guard_tf)∧(type_of% @guard_ft)∧(type_of% @guard_ff)∧(type_of% @guard_un)∧(type_of% @cond_t)∧(type_of% @cond_f)∧(type_of% @pick_t)∧(type_of% @pick_f)∧(type_of% @codeW_scope)∧(type_of% @codeW_label)∧(type_of% @codeW_region)∧(type_of% @codeW_seq)∧(type_of% @codeW_cond)∧(type_of% @codeW_block)∧(type_of% @codeW_exit)∧(type_of% @codeW_ret)∧(type_of% @codeW_skip)∧(type_of% @stepW_move)∧(type_of% @stepW_assign) :=
 ⟨@opsW_nil,@opsW_plain1,@opsW_guard,@contW_none,@contW_none',@contW_same,@contW_same',@contW_wb,@outW_O,@outW_V,@outW_some,@thenQ_normal,@thenQ_ret,@thenQ_exit,@blockQ_normal,@blockQ_ret,@blockQ_exit,@endQ_ret,@endQ_normal,@res1,@res2,@res3,@opd_tmp,@opd_const,@opd_func,@set_get,@put_some,@entry_zero,@entry_succ,@entry_nil,@put_none,@dstAt_zero,@dstAt_succ,@envAt_some,@guard_tt,@guard_tf,@guard_ft,@guard_ff,@guard_un,@cond_t,@cond_f,@pick_t,@pick_f,@codeW_scope,@codeW_label,@codeW_region,@codeW_seq,@codeW_cond,@codeW_block,@codeW_exit,@codeW_ret,@codeW_skip,@stepW_move,@stepW_assign⟩
section
variable {P:Program} {t:TypeId} {x y:Operand} {k:IntKind} {a b:Int}
theorem bin_int (op:BinOp):binE P op t x y (.val (.int k a)) (.val (.int k b))=((pureR P (binOp op t (.int k a) (.int k b))).map .val):=by
 simp [binE,binV,eqGuard_at_int]
theorem bin_lss:binE P .lss t x y (.val (.int k a)) (.val (.int k b))=some (.val (.bool (decide (a < b)))):=by
 simp [bin_int,binOp,Op.intCmp,pureR,Bind.bind,Sem.bind,Pure.pure]
theorem bin_leq:binE P .leq t x y (.val (.int k a)) (.val (.int k b))=some (.val (.bool (decide (a≤b)))):=by
 simp [bin_int,binOp,Op.intCmp,pureR,Bind.bind,Sem.bind,Pure.pure]
theorem bin_gtr:binE P .gtr t x y (.val (.int k a)) (.val (.int k b))=some (.val (.bool (decide (b < a)))):=by
 simp [bin_int,binOp,Op.intCmp,pureR,Bind.bind,Sem.bind,Pure.pure]
theorem bin_geq:binE P .geq t x y (.val (.int k a)) (.val (.int k b))=some (.val (.bool (decide (b≤a)))):=by
 simp [bin_int,binOp,Op.intCmp,pureR,Bind.bind,Sem.bind,Pure.pure]
theorem bin_eql:binE P .eql t x y (.val (.int k a)) (.val (.int k b))=some (.val (.bool (decide (a=b)))):=by
 have:(a == b)=decide (a=b):=by by_cases h:a=b <;> simp [h]
 simp [bin_int,binOp,Op.intCmp,pureR,Bind.bind,Sem.bind,Pure.pure,this]
theorem bin_neq:binE P .neq t x y (.val (.int k a)) (.val (.int k b))=some (.val (.bool (!decide (a=b)))):=by
 have:(a != b) = !decide (a=b):=by by_cases h:a=b <;> simp [h]
 simp [bin_int,binOp,Op.intCmp,pureR,Bind.bind,Sem.bind,Pure.pure,this]
theorem bin_add:binE P .add t x y (.val (.int k a)) (.val (.int k b))=some (.val (.int k (k.wrap (a+b)))):=by
 simp [bin_int,binOp,Op.intArith,pureR,Bind.bind,Sem.bind,Pure.pure]
theorem bin_sub:binE P .sub t x y (.val (.int k a)) (.val (.int k b))=some (.val (.int k (k.wrap (a - b)))):=by
 simp [bin_int,binOp,Op.intArith,pureR,Bind.bind,Sem.bind,Pure.pure]
theorem bin_mul:binE P .mul t x y (.val (.int k a)) (.val (.int k b))=some (.val (.int k (k.wrap (a*b)))):=by
 simp [bin_int,binOp,Op.intArith,pureR,Bind.bind,Sem.bind,Pure.pure]
theorem bin_quo (hb:b≠0):binE P .quo t x y (.val (.int k a)) (.val (.int k b))=some (.val (.int k (k.wrap (a.tdiv b)))):=by
 simp [bin_int,binOp,Op.intDiv,pureR,Bind.bind,Sem.bind,Pure.pure,hb]
theorem bin_rem (hb:b≠0):binE P .rem t x y (.val (.int k a)) (.val (.int k b))=some (.val (.int k (a.tmod b))):=by
 simp [bin_int,binOp,Op.intDiv,pureR,Bind.bind,Sem.bind,Pure.pure,hb]
theorem un_not {c:Bool}:unE P .not (.val (.bool c))=some (.val (.bool !c)):=by
 simp [unE,Op.unary,pureR,Bind.bind,Sem.bind,Pure.pure]
end
mutual
theorem scalar_noTreeA:∀ (v:AV),scalar v=true→noTree v=true
 | .val _,_=>rfl
 | .agg cs,h=>by simp only [scalar] at h;simp only [noTree];exact scalars_noTrees cs h
 | .tup cs,h=>by simp only [scalar] at h;simp only [noTree];exact scalars_noTrees cs h
 | .tree ..,h=>by simp [scalar] at h
 | .tptr ..,h=>by simp [scalar] at h
 | .emp ..,h=>by simp [scalar] at h
 | .sl ..,h=>by simp [scalar] at h
 | .ptr ..,h=>by simp [scalar] at h
 | .clo ..,h=>by simp [scalar] at h
theorem scalars_noTrees:∀ (l:List AV),scalars l=true→noTrees l=true
 | [],_=>rfl
 | c::cs,h=>by
  simp only [scalars,Bool.and_eq_true] at h
  simp only [noTrees,Bool.and_eq_true]
  exact ⟨scalar_noTreeA c h.1,scalars_noTrees cs h.2⟩
end
theorem scalar_noTree:(∀ v,scalar v=true→noTree v=true)∧True:=⟨scalar_noTreeA,trivial⟩
section
variable {P:Program} {d:Bool} {m:Mem} {K:Out→Prop} {f:FuncId}
theorem callee_n {c:Bool} {args caps:List AV}:calleeW P false c m args K (.clo f caps)=callW P false f (args++caps) m K:=by cases c <;> rfl
theorem callee_f {args caps:List AV}:calleeW P true false m args K (.clo f caps)=callW P true f (args++caps) m K:=rfl
theorem callee_t {args caps:List AV}:calleeW P true true m args K (.clo f caps)=callP P f (args++caps) m K:=rfl
mutual
def plain:AV→Bool
 | .val _ | .tree .. | .tptr .. | .emp .. => true
 | .agg cs=>plains cs
 | .clo _ cs=>plains cs
 | _=>false
def plains:List AV→Bool
 | []=>true
 | c::cs=>plain c && plains cs
end
mutual
theorem plain_lend:∀ (k:Nat) (v:AV),plain v=true→lend k m v=some v∧hasRef v=false
 | k,.val v,h=>by unfold lend;simp [hasRef]
 | k,.tree _ _ _ _,h=>by unfold lend;simp [hasRef]
 | k,.tptr _ _,h=>by unfold lend;simp [hasRef]
 | k,.emp _ _,h=>by unfold lend;simp [hasRef]
 | k,.agg cs,h=>by
  simp only [plain] at h
  unfold lend
  simp [hasRef,(plain_lends k cs h).1,(plain_lends k cs h).2]
 | k,.clo f cs,h=>by
  simp only [plain] at h
  unfold lend
  simp [hasRef,(plain_lends k cs h).1,(plain_lends k cs h).2]
 | k,.tup _,h=>by simp [plain] at h
 | k,.sl _ _ _ _ _,h=>by simp [plain] at h
 | k,.ptr _ _,h=>by simp [plain] at h
theorem plain_lends:∀ (k:Nat) (v:List AV),plains v=true→lends k m v=some v∧hasRefs v=false
 | k,[],h=>by unfold lends;simp [hasRefs]
 | k,c::cs,h=>by
  simp only [plains,Bool.and_eq_true] at h
  unfold lends
  simp [hasRefs,plain_lend k c h.1,plain_lends k cs h.2]
end
theorem call_plain {args:List AV} {r:Res} (h:FSpec P f args r) (hp:plains args=true) (hk:K ⟨shift m.next r.v,pushAll P m r.rows,none⟩):callW P d f args m K :=
 .inl ⟨args,r,(plain_lends 3 args hp).1,h,.inl (plain_lends (m:=m) 3 args hp).2,hk⟩
theorem call_pure {args:List AV} {v:AV} (h:FSpec P f args ⟨v,[]⟩) (hp:plains args=true) (hs:∀ k,shift k v=v) (hk:K ⟨v,m,none⟩):callP P f args m K :=
 ⟨_,h,rfl,fun k m=>(plain_lends k args hp).1,(plain_lends (m:=m) 3 args hp).2,hs,hk⟩
theorem call_lent {args args':List AV} {r:Res} (h:FSpec P f args' r) (hl:lends 3 m args=some args') (hs:scalar r.v=true) (hw:r.rows=[]) (hk:K ⟨shift m.next r.v,m,none⟩):callW P d f args m K :=
 .inl ⟨args',r,hl,h,.inr (by
  simp only [Res.apart,hw,List.all_nil,Bool.and_true]
  exact (scalar_noTree.1 r.v hs)),by rw [hw];exact hk⟩
theorem call_lentR {args args':List AV} {r:Res} (h:FSpec P f args' r) (hl:lends 3 m args=some args') (hs:r.apart=true) (hk:K ⟨shift m.next r.v,pushAll P m r.rows,none⟩):callW P d f args m K :=
 .inl ⟨args',r,hl,h,.inr hs,hk⟩
theorem call_frozen {args args':List AV} {r:Res} {m1:Mem} (h:FSpec P f args' r) (hl:fzs m args=some (args',m1)) (hk:K ⟨shift m1.next r.v,pushAll P m1 r.rows,none⟩):callW P d f args m K :=
 .inr (.inr (.inr (.inr ⟨args',m1,r,hl,h,hk⟩)))
end
theorem bool_fin {a b:Bool} (h:a=true↔b=true):(some ⟨.val (.bool a),[]⟩:Option Res)=some ⟨boolV b,[]⟩:=by
 have:a=b:=by cases a <;> cases b <;> simp_all
 rw [this];rfl
theorem min2 {P:Program} {m:Mem} {ts:Array TypeId} {ty:TypeId} {k:IntKind} {a b:Int}:builtinE P m ts ty [.val (.int k a),.val (.int k b)] .min=some ⟨.val (.int k (min a b)),m,none⟩:=by
 have:(if b < a then b else a)=min a b:=by omega
 simp [builtinE,toVals,toVal,Builtin.min_,Builtin.min2,pureR,outO,Bind.bind,Sem.bind,Pure.pure,this]
theorem max2 {P:Program} {m:Mem} {ts:Array TypeId} {ty:TypeId} {k:IntKind} {a b:Int}:builtinE P m ts ty [.val (.int k a),.val (.int k b)] .max=some ⟨.val (.int k (max a b)),m,none⟩:=by
 have:(if b > a then b else a)=max a b:=by omega
 simp [builtinE,toVals,toVal,Builtin.max_,Builtin.max2,pureR,outO,Bind.bind,Sem.bind,Pure.pure,this]
theorem loadX_n {P:Program} {c:Bool} {m:Mem} {t:TypeId} {x:AV}:loadX P false c m t x=loadE P m t x:=rfl
theorem loadX_f {P:Program} {m:Mem} {t:TypeId} {x:AV}:loadX P true false m t x=loadE P m t x:=rfl
theorem loadX_t {P:Program} {m:Mem} {t:TypeId} {off:Nat} {cells:List AV}:loadX P true true m t (.tptr off cells)=partE P t cells off:=rfl
theorem convY_t {P:Program} {m:Mem} {src dst:TypeId} {s:ByteArray} (h:(elE P dst).isSome=true) (h1:(elE P dst).all (isU8 P)=true) (h2:isStr P src=true) (h3:(elE P dst).bind (szE P)=some 1):convY P true m src dst (.val (.string s))=some ⟨.tree s.size s.size (bytesV s) false,m,none⟩:=by
 obtain ⟨el,hel⟩:=Option.isSome_iff_exists.1 h
 rw [hel] at h1 h3
 simp only [Option.all_some,Option.bind_some] at h1 h3
 simp [convY,hel,h1,h2,h3,outV]
theorem convY_n {P:Program} {m:Mem} {src dst:TypeId} {x:AV}:convY P false m src dst x=convE P m src dst x:=by unfold convY;rfl
theorem convY_o {P:Program} {c:Bool} {m:Mem} {src dst:TypeId} {x:AV} (h:elE P dst=none):convY P c m src dst x=convE P m src dst x:=by unfold convY;rw [h];cases c <;> rfl
theorem convX_n {P:Program} {d:Bool} {m:Mem} {src dst:TypeId} {x:AV}:convX P d false m src dst x=convE P m src dst x:=convY_n
theorem convX_v {P:Program} {d c:Bool} {m:Mem} {src dst:TypeId} {v:Value}:convX P d c m src dst (.val v)=convY P c m src dst (.val v):=by cases c <;> cases d <;> rfl
theorem convX_o {P:Program} {c:Bool} {m:Mem} {src dst:TypeId} {x:AV} (h:elE P dst=none):convX P false c m src dst x=convE P m src dst x:=by
 have:convX P false c m src dst x=convY P c m src dst x:=by cases c <;> rfl
 rw [this,convY_o h]
theorem convX_p {P:Program} {d c:Bool} {m:Mem} {src dst:TypeId} {v:Value} (h:elE P dst=none):convX P d c m src dst (.val v)=convE P m src dst (.val v):=by rw [convX_v,convY_o h]
theorem convX_r {P:Program} {d c:Bool} {m:Mem} {src dst:TypeId} {n cap:Nat} {cs:List AV} {b:Bool} (h:elE P dst=none):convX P d c m src dst (.tree n cap cs b)=convE P m src dst (.tree n cap cs b):=by
 have:convX P d c m src dst (.tree n cap cs b)=convY P c m src dst (.tree n cap cs b):=by cases c <;> cases d <;> rfl
 rw [this,convY_o h]
theorem convX_t {P:Program} {d:Bool} {m:Mem} {src dst:TypeId} {s:ByteArray} (h:(elE P dst).isSome=true) (h1:(elE P dst).all (isU8 P)=true) (h2:isStr P src=true) (h3:(elE P dst).bind (szE P)=some 1):convX P d true m src dst (.val (.string s))=some ⟨.tree s.size s.size (bytesV s) false,m,none⟩:=by rw [convX_v,convY_t h h1 h2 h3]
theorem buildX_n {P:Program} {d:Bool} {m:Mem} {t:TypeId} {len:Nat} {parts:List (Nat×AV)}:buildX P d false m t len parts=buildSliceE P m t len parts:=rfl
theorem buildX_t {P:Program} {m:Mem} {t:TypeId} {len:Nat} {parts:List (Nat×AV)}:buildX P true true m t len parts=buildTreeE P m t len parts:=rfl
theorem buildX_tn {P:Program} {m:Mem} {t:TypeId} {len:Nat} {parts:List (Nat×AV)} (h:(buildTreeE P m t len parts).isSome=true):buildX P false true m t len parts=buildTreeE P m t len parts:=by
 obtain ⟨o,ho⟩:=Option.isSome_iff_exists.1 h
 simp only [buildX,ho,orElse2]
theorem buildX_fz {P:Program} {m:Mem} {t:TypeId} {len:Nat} {parts:List (Nat×AV)} (h:buildTreeE P m t len parts=none):buildX P false true m t len parts=buildFzE P m t len parts:=by
 simp only [buildX,h,orElse2]
theorem sliceX_n {P:Program} {c:Bool} {m:Mem} {t:TypeId} {x:AV} {lo hi mx:Option AV}:sliceX P false c m t x lo hi mx=if slOk P m t x then (optNat lo).bind fun lo=>(optNat hi).bind fun hi=>(optNat mx).bind fun mx=>outO (sliceE P t lo hi mx x) m else none:=by cases c <;> rfl
theorem sliceX_f {P:Program} {m:Mem} {t:TypeId} {x:AV} {lo hi mx:Option AV}:sliceX P true false m t x lo hi mx=if slOk P m t x then (optNat lo).bind fun lo=>(optNat hi).bind fun hi=>(optNat mx).bind fun mx=>outO (sliceE P t lo hi mx x) m else none:=rfl
theorem sliceX_t {P:Program} {m:Mem} {t:TypeId} {n c:Nat} {cs:List AV} {f:Bool} {lo hi mx:Option AV}:sliceX P true true m t (.tree n c cs f) lo hi mx=(optNat lo).bind fun lo=>(optNat hi).bind fun hi=>(optNat mx).bind fun mx=>outO (sliceE P t lo hi mx (.tree n c cs f)) m:=rfl
theorem sliceX_v {P:Program} {m:Mem} {t:TypeId} {v:Value} {lo hi mx:Option AV}:sliceX P true true m t (.val v) lo hi mx=(optNat lo).bind fun lo=>(optNat hi).bind fun hi=>(optNat mx).bind fun mx=>outO (sliceE P t lo hi mx (.val v)) m:=rfl
theorem sliceX_p {P:Program} {m:Mem} {t:TypeId} {n:Nat} {cs:List AV} {lo hi mx:Option AV}:sliceX P true true m t (.tptr n cs) lo hi mx=(optNat lo).bind fun lo=>(optNat hi).bind fun hi=>(optNat mx).bind fun mx=>outO (sliceE P t lo hi mx (.tptr n cs)) m:=rfl
structure Hid (p:Prop):Prop where
 out:p
theorem post:(type_of% @sliceX_n)∧(type_of% @sliceX_f)∧(type_of% @sliceX_t)∧(type_of% @sliceX_v)∧(type_of% @sliceX_p)∧(type_of% @loadX_n)∧(type_of% @loadX_f)∧(type_of% @loadX_t)∧(type_of% @convX_n)∧(type_of% @convX_o)∧(type_of% @convX_p)∧(type_of% @convX_r)∧(type_of% @convX_t)∧(type_of% @buildX_n)∧(type_of% @buildX_t)∧(type_of% @buildX_tn)∧(type_of% @min2)∧(type_of% @max2)∧(type_of% @callee_n)∧(type_of% @callee_f)∧(type_of% @callee_t)∧(type_of% @bin_lss)∧(type_of% @bin_leq)∧(type_of% @bin_gtr)∧(type_of% @bin_geq)∧(type_of% @bin_eql)∧(type_of% @bin_neq)∧(type_of% @bin_add)∧(type_of% @bin_sub)∧(type_of% @bin_mul)∧(type_of% @un_not) :=
 ⟨@sliceX_n,@sliceX_f,@sliceX_t,@sliceX_v,@sliceX_p,@loadX_n,@loadX_f,@loadX_t,@convX_n,@convX_o,@convX_p,@convX_r,@convX_t,@buildX_n,@buildX_t,@buildX_tn,@min2,@max2,@callee_n,@callee_f,@callee_t,@bin_lss,@bin_leq,@bin_gtr,@bin_geq,@bin_eql,@bin_neq,@bin_add,@bin_sub,@bin_mul,@un_not⟩
theorem sb:(type_of% @Option.isSome_some.{0})∧(type_of% @ne_eq.{1})∧(type_of% @not_false_eq_true)∧(type_of% @List.length_cons.{0})∧(type_of% @List.length_nil.{0})∧(type_of% @List.map_cons.{0,0})∧(type_of% @List.map_nil.{0,0})∧(type_of% @List.append_nil.{0})∧(type_of% @List.cons_append.{0})∧(type_of% @List.nil_append.{0})∧(type_of% @List.take_succ_cons.{0})∧(type_of% @List.take_zero.{0})∧(type_of% @List.drop_succ_cons.{0})∧(type_of% @List.drop_zero.{0})∧(type_of% @Nat.zero_add)∧(type_of% @Nat.add_zero)∧(type_of% @Nat.zero_le)∧(type_of% @Nat.le_refl)∧(type_of% @decide_true)∧(type_of% @decide_false)∧(type_of% @Bool.not_true)∧(type_of% @Bool.not_false)∧(type_of% @if_true.{1})∧(type_of% @if_false.{1})∧(type_of% @Bool.false_eq_true)∧(type_of% @true_and)∧(type_of% @and_true)∧(type_of% @Option.bind_some.{0,0})∧(type_of% @Option.map_some.{0,0})∧(type_of% @List.getElem?_cons_zero.{0})∧(type_of% @List.getElem?_cons_succ.{0})∧(type_of% @and_self) :=
 ⟨@Option.isSome_some.{0},@ne_eq.{1},@not_false_eq_true,@List.length_cons.{0},@List.length_nil.{0},@List.map_cons.{0,0},@List.map_nil.{0,0},@List.append_nil.{0},@List.cons_append.{0},@List.nil_append.{0},@List.take_succ_cons.{0},@List.take_zero.{0},@List.drop_succ_cons.{0},@List.drop_zero.{0},@Nat.zero_add,@Nat.add_zero,@Nat.zero_le,@Nat.le_refl,@decide_true,@decide_false,@Bool.not_true,@Bool.not_false,@if_true.{1},@if_false.{1},@Bool.false_eq_true,@true_and,@and_true,@Option.bind_some.{0,0},@Option.map_some.{0,0},@List.getElem?_cons_zero.{0},@List.getElem?_cons_succ.{0},@and_self⟩
theorem sq:(type_of% @stepW.eq_1)∧(type_of% @stepW.eq_2)∧(type_of% @stepW.eq_3)∧(type_of% @stepW.eq_4)∧(type_of% @stepW.eq_5)∧(type_of% @stepW.eq_6)∧(type_of% @stepW.eq_7)∧(type_of% @stepW.eq_8)∧(type_of% @stepW.eq_9)∧(type_of% @stepW.eq_10)∧(type_of% @stepW.eq_11)∧(type_of% @stepW.eq_12)∧(type_of% @stepW.eq_13)∧(type_of% @stepW.eq_14)∧(type_of% @opE.eq_1)∧(type_of% @opE.eq_2)∧(type_of% @opE.eq_3)∧(type_of% @opE.eq_4)∧(type_of% @opE.eq_5)∧(type_of% @opE.eq_6)∧(type_of% @opE.eq_7)∧(type_of% @opE.eq_8)∧(type_of% @opE.eq_9)∧(type_of% @opE.eq_10)∧(type_of% @opE.eq_11)∧(type_of% @opE.eq_12)∧(type_of% @opE.eq_13)∧(type_of% @opE.eq_14)∧(type_of% @opE.eq_15)∧(type_of% @opE.eq_16)∧(type_of% @opE.eq_17)∧(type_of% @opE.eq_18)∧(type_of% @opE.eq_19)∧(type_of% @opE.eq_20)∧(type_of% @opE.eq_21)∧(type_of% @opE.eq_22)∧(type_of% @intV.eq_1)∧(type_of% @boxE.eq_1)∧(type_of% @loadE.eq_1)∧(type_of% @loadE.eq_2)∧(type_of% @loadE.eq_3)∧(type_of% @partE.eq_1)∧(type_of% @faddrE.eq_1)∧(type_of% @fieldE.eq_1)∧(type_of% @fieldE.eq_2)∧(type_of% @checkE.eq_1)∧(type_of% @checkE.eq_2)∧(type_of% @checkE.eq_3)∧(type_of% @checkE.eq_4)∧(type_of% @extractE.eq_1)∧(type_of% @extractE.eq_2)∧(type_of% @resultsE.eq_1)∧(type_of% @resEs.eq_1)∧(type_of% @resEs.eq_2)∧(type_of% @resE.eq_1)∧(type_of% @resE.eq_2)∧(type_of% @buildE.eq_1)∧(type_of% @fillE.eq_1)∧(type_of% @fillE.eq_2)∧(type_of% @splice.eq_1)∧(type_of% @AV.cells.eq_1)∧(type_of% @AV.cells.eq_2)∧(type_of% @okA.eq_1)∧(type_of% @okA.eq_2)∧(type_of% @oneA.eq_1)∧(type_of% @oneA.eq_2)∧(type_of% @oneA.eq_3)∧(type_of% @oneA.eq_4)∧(type_of% @oneA.eq_5)∧(type_of% @oneA.eq_6)∧(type_of% @fzs.eq_1)∧(type_of% @fzs.eq_2)∧(type_of% @fz.eq_1)∧(type_of% @fz.eq_2)∧(type_of% @fz.eq_3)∧(type_of% @fz.eq_4)∧(type_of% @fz.eq_5)∧(type_of% @fz.eq_6)∧(type_of% @fz.eq_7)∧(type_of% @fz.eq_8)∧(type_of% @opTmp.eq_1)∧(type_of% @opTmp.eq_2)∧(type_of% @canonR.eq_1)∧(type_of% @canon.eq_1)∧(type_of% @canon.eq_2)∧(type_of% @canon.eq_3)∧(type_of% @canon.eq_4)∧(type_of% @canon.eq_5)∧(type_of% @canon.eq_6)∧(type_of% @canon.eq_7)∧(type_of% @canon.eq_8)∧(type_of% @canon.eq_9)∧(type_of% @canon.eq_10)∧(type_of% @canons.eq_1)∧(type_of% @canons.eq_2)∧(type_of% @shift.eq_1)∧(type_of% @shift.eq_2)∧(type_of% @shift.eq_3)∧(type_of% @shift.eq_4)∧(type_of% @shift.eq_5)∧(type_of% @shift.eq_6)∧(type_of% @shift.eq_7)∧(type_of% @shift.eq_8)∧(type_of% @shift.eq_9)∧(type_of% @shifts.eq_1)∧(type_of% @shifts.eq_2)∧(type_of% @pushAll.eq_1)∧(type_of% @pushFrom.eq_1)∧(type_of% @pushFrom.eq_2):=⟨@stepW.eq_1,@stepW.eq_2,@stepW.eq_3,@stepW.eq_4,@stepW.eq_5,@stepW.eq_6,@stepW.eq_7,@stepW.eq_8,@stepW.eq_9,@stepW.eq_10,@stepW.eq_11,@stepW.eq_12,@stepW.eq_13,@stepW.eq_14,@opE.eq_1,@opE.eq_2,@opE.eq_3,@opE.eq_4,@opE.eq_5,@opE.eq_6,@opE.eq_7,@opE.eq_8,@opE.eq_9,@opE.eq_10,@opE.eq_11,@opE.eq_12,@opE.eq_13,@opE.eq_14,@opE.eq_15,@opE.eq_16,@opE.eq_17,@opE.eq_18,@opE.eq_19,@opE.eq_20,@opE.eq_21,@opE.eq_22,@intV.eq_1,@boxE.eq_1,@loadE.eq_1,@loadE.eq_2,@loadE.eq_3,@partE.eq_1,@faddrE.eq_1,@fieldE.eq_1,@fieldE.eq_2,@checkE.eq_1,@checkE.eq_2,@checkE.eq_3,@checkE.eq_4,@extractE.eq_1,@extractE.eq_2,@resultsE.eq_1,@resEs.eq_1,@resEs.eq_2,@resE.eq_1,@resE.eq_2,@buildE.eq_1,@fillE.eq_1,@fillE.eq_2,@splice.eq_1,@AV.cells.eq_1,@AV.cells.eq_2,@okA.eq_1,@okA.eq_2,@oneA.eq_1,@oneA.eq_2,@oneA.eq_3,@oneA.eq_4,@oneA.eq_5,@oneA.eq_6,@fzs.eq_1,@fzs.eq_2,@fz.eq_1,@fz.eq_2,@fz.eq_3,@fz.eq_4,@fz.eq_5,@fz.eq_6,@fz.eq_7,@fz.eq_8,@opTmp.eq_1,@opTmp.eq_2,@canonR.eq_1,@canon.eq_1,@canon.eq_2,@canon.eq_3,@canon.eq_4,@canon.eq_5,@canon.eq_6,@canon.eq_7,@canon.eq_8,@canon.eq_9,@canon.eq_10,@canons.eq_1,@canons.eq_2,@shift.eq_1,@shift.eq_2,@shift.eq_3,@shift.eq_4,@shift.eq_5,@shift.eq_6,@shift.eq_7,@shift.eq_8,@shift.eq_9,@shifts.eq_1,@shifts.eq_2,@pushAll.eq_1,@pushFrom.eq_1,@pushFrom.eq_2⟩
theorem sr:(type_of% @Option.getD_some.{0})∧(type_of% @Option.getD_none.{0})∧(type_of% @Bool.and_true)∧(type_of% @Bool.and_false)∧(type_of% @Bool.true_and)∧(type_of% @Bool.false_and)∧(type_of% @Bool.and_self)∧(type_of% @cond_t)∧(type_of% @cond_f)∧(type_of% @eq_self.{1})∧(type_of% @Nat.mul_one)∧(type_of% @pick_t)∧(type_of% @pick_f)∧(type_of% @boolV.eq_1):=⟨@Option.getD_some.{0},@Option.getD_none.{0},@Bool.and_true,@Bool.and_false,@Bool.true_and,@Bool.false_and,@Bool.and_self,@cond_t,@cond_f,@eq_self.{1},@Nat.mul_one,@pick_t,@pick_f,@boolV.eq_1⟩
theorem plQ:(type_of% @plain.eq_1)∧(type_of% @plain.eq_2)∧(type_of% @plain.eq_3)∧(type_of% @plain.eq_4)∧(type_of% @plain.eq_5)∧(type_of% @plain.eq_6)∧(type_of% @plain.eq_7)∧(type_of% @plains.eq_1)∧(type_of% @plains.eq_2)∧(type_of% @intV.eq_1)∧(type_of% @boolV.eq_1)∧(type_of% @Bool.and_true)∧(type_of% @Bool.and_self):=⟨@plain.eq_1,@plain.eq_2,@plain.eq_3,@plain.eq_4,@plain.eq_5,@plain.eq_6,@plain.eq_7,@plains.eq_1,@plains.eq_2,@intV.eq_1,@boolV.eq_1,@Bool.and_true,@Bool.and_self⟩
theorem sx:(type_of% @post)∧(type_of% @sb)∧(type_of% @bin_quo)∧(type_of% @bin_rem)∧(type_of% @sq):=⟨@post,@sb,@bin_quo,@bin_rem,@sq⟩
end Go.Tw