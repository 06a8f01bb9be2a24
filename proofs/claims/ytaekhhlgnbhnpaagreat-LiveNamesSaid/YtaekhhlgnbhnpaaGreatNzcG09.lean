import Derived.Test.YtaekhhlgnbhnpaaGreatNzcG08
import Derived.Defers
set_option linter.unusedVariables false
set_option linter.unusedSimpArgs false
namespace Go.Tw
open Go
def xZ (P:Program) (f:FuncId) (args:List AV) (m:aF) (Q:AV→aF→Prop):Prop:=sF P f=true ∧
 ∀ (w:World) (I:Nat→Prop) (ρ:cB) (vs:Array Value),SR P w I ρ m→vs.size=args.length→bC P w I ρ args (fun j=>vs[j]?)→(∀ b,m.next≤b→ρ b=none) →
  CallsD P f vs .returning w fun c u w'=>u = .returning∧∃ v r m' a ρ',c = .returned v∧Q r m'∧VR P w' a ρ' r v∧SR P w' a ρ' m'∧cL w I ρ m w' a ρ' m'∧∀ b,m'.next≤b→ρ' b=none
section
variable {P:Program}
theorem ald (hm : P.follows .mixedOrders = true) {f : FuncId} {fn : Func} {c : Code} (hf : P.funcs[f]? = some fn) (hb : fn.body = some c) (hn : fn.name ≠ "runtime.NumGoroutine") (once : Nat → Bool) {args : List AV} {m : aF} {Q : AV → aF → Prop} (hle : args.length ≤ fn.ntmps) (hok : lE fn.ntmps c = true)
   (h : eB P once fn.ntmps c (xV P fn.results.toList Q) (jY args) m) : xZ P f args m Q :=
 ⟨by simp [sF, hf, hb, hn], fun w I ρ vs hS hsz hv hfree => callsD_of_wp hf hb (ajV hm once hle hok h hS hsz hv hfree)⟩
def agS (P:Program) (b:List ResultVar) (g:FuncId) (a:List AV) (K:AV→aF→Prop):Ex→bB→aF→Prop
 | .exit _,_,_=>False
 | _,e,m=>xZ P g a m fun _ m'=>match oK P b e m' with
  | some v=>K v m'
  | none=>False
def agT (P:Program) (once:Nat→Bool) (n:Nat) (d:List ResultVar) (a b:Code) (t:Nat) (g:FuncId) (c:List Operand) (K:AV→aF→Prop):bB→aF→Prop :=
 eB P once n a (qB (fun e m=>eB P once n b (agS P d g (c.map (opd e)) K) (e.set t (.clo g (c.map (opd e)))) m) fun _ _ _=>False)
theorem ale (hm : P.follows .mixedOrders = true) {f : FuncId} {fn : Func} {A B : Code} {id : Nat} {t : Nat} {g : FuncId} {caps : Array Operand} {ty1 ty2 : TypeId} {p1 p2 : String} {a1 a2 : Array Edge} {ts : Array TypeId}
   (hf : P.funcs[f]? = some fn) (hb : fn.body = some (.seq A (.seq (.region id #[⟨some t, .makeFunc (.func g) #[] caps, ty1, p1, a1, none⟩, ⟨none, .defer ⟨.value (.tmp t), #[], ts⟩, ty2, p2, a2, none⟩] false) B))) (hn : fn.name ≠ "runtime.NumGoroutine") (once : Nat → Bool) {args : List AV} {m : aF} {Q : AV → aF → Prop}
   (hle : args.length ≤ fn.ntmps) (hA : lE fn.ntmps A = true) (hB : lE fn.ntmps B = true) (ht : t < fn.ntmps) (hg : sF P g = true)
   (h : agT P once fn.ntmps fn.results.toList A B t g caps.toList Q (jY args) m) : fH P f args m Q := by
 refine ⟨by simp [sF, hf, hb, hn], fun w I ρ vs hS hsz hv hfree => ?_⟩
 refine calls_of_wp_defers hf hb (wp_seq (wp_mono (adZ hm A _ _ _ _ w I ρ hA h (agJ (n := fn.ntmps) hS hsz hv hfree hle)) ?_))
 intro ex a w1 hq
 cases ex with
 | normal =>
   obtain ⟨e, m1, I1, ρ1, h1, hR⟩ := hq
   refine wp_seq (wp_region ?_)
   show wpOps P _ _ [0, 1] a w1
   simp only [wpOps, List.getElem?_toArray, List.getElem?_cons_zero, List.getElem?_cons_succ, Region.wanted, if_true]
   refine .inl (acv (d := false) (once := false) (o := ⟨some t, .makeFunc (.func g) #[] caps, ty1, p1, a1, none⟩) (K := fun out => out = ⟨.clo g (caps.toList.map (opd e)), m1, none⟩) hR.sr hR.er (by simp [cC, dG, bL, eO]) hR.free ?_)
   intro out v w2 I2 ρ2 hK h2 h3 h4 h5 h6
   subst hK
   have hR2 := hR.next (o := ⟨some t, .makeFunc (.func g) #[] caps, ty1, p1, a1, none⟩) (fun d hd => by cases hd; exact ht) h2 h3 h4 h5 h6
   have hcl := h2
   simp only [VR] at hcl
   obtain ⟨cv, rfl, hcs, hcv⟩ := hcl
   refine .inl ?_
   unfold Oper.wp
   have hev : (a.put (some t) (.func (.func g) #[] cv)).eval (.tmp t) = .func (.func g) #[] cv := by
     have hlt : t < a.tmps.size := by rw [hR.size]; exact ht
     simp [Act.eval, Act.put, Array.getD_eq_getD_getElem?, hlt]
   have hrun : (execOp (a.put (some t) (.func (.func g) #[] cv)).eval ⟨none, .defer ⟨.value (.tmp t), #[], ts⟩, ty2, p2, a2, none⟩).run P w2 = .ok (.defer ⟨.fn (.func g) cv, #[]⟩) w2 := by
     simp [execOp, resolve, hev, Deferred.ofValue]
   rw [hrun, Oper.upon_defer]
   simp only [t6, agN] at hR2
   refine wp_mono (adZ (D := [⟨.fn (.func g) cv, #[]⟩]) hm B _ _ _ _ w2 I2 ρ2 hB h1 (w0 := w2) (I0 := I2) (ρ0 := ρ2) (m0 := m1) ⟨fun j => hR2.er j, hR2.sr, hR2.free, cL.refl _ _ _ _, hR2.size, ?_⟩) ?_
   · have := hR2.defers
     simp only [Act.put] at this ⊢
     rw [this]
   have fin : ∀ e3 m3 a3 w3 I3 ρ3, (xZ P g (caps.toList.map (opd e)) m3 fun _ m' => match oK P fn.results.toList e3 m' with | some v => Q v m' | none => False) → lR P w2 I2 ρ2 m1 fn.ntmps [⟨.fn (.func g) cv, #[]⟩] e3 m3 a3 w3 I3 ρ3 →
       Leaves P fn a3.tmps (fun en w' => ∃ v r m' I' ρ', en = .returned v ∧ Q r m' ∧ VR P w' I' ρ' r v ∧ SR P w' I' ρ' m' ∧ cL w I ρ m w' I' ρ' m' ∧ ∀ b, m'.next ≤ b → ρ' b = none) a3.defers .returning w3 := by
     intro e3 m3 a3 w3 I3 ρ3 hD hR3
     rw [hR3.defers]
     refine leaves_cons (by simp) (f := g) (args := #[] ++ cv) ?_ ?_
     · unfold sF at hg
       split at hg
       · rename_i gf hgf
         simp only [Bool.and_eq_true, bne_iff_ne, ne_eq] at hg
         obtain ⟨g1, g2⟩ := hg
         have hb' : ¬ gf.body = none := fun h => by rw [h] at g2; cases g2
         simp [invoke, callFunc, hgf, g1, hb']
       · cases hg
     · refine (hD.2 w3 I3 ρ3 (#[] ++ cv) hR3.sr (by simp [hcs]) ?_ hR3.free).mono ?_
       · have := aiU hR3.step hR2.sr hcv
         simpa using this
       · rintro en u w4 ⟨rfl, v, r, m4, I4, ρ4, rfl, hq, _, hS4, hst, hfr⟩
         simp only [settle]
         split at hq
         · rename_i av hav
           obtain ⟨v, k1, k2⟩ := agK hS4 (af0 hst hR3.sr hR3.er) hav
           exact ⟨v, k1, v, av, m4, I4, ρ4, rfl, hq, k2, hS4, (hR2.step.trans hR3.step).trans hst, hfr⟩
         · exact hq.elim
   intro ex a3 w3 hq
   cases ex with
   | normal => obtain ⟨e3, m3, I3, ρ3, k1, k2⟩ := hq; exact fin e3 m3 a3 w3 I3 ρ3 k1 k2
   | ret => obtain ⟨e3, m3, I3, ρ3, k1, k2⟩ := hq; exact fin e3 m3 a3 w3 I3 ρ3 k1 k2
   | exit id => obtain ⟨_, _, _, _, k1, _⟩ := hq; exact k1.elim
   | goto l => exact hq.elim
   | panic c => exact hq.elim
   | outgrown => exact hq.elim
 | exit id => obtain ⟨_, _, _, _, k1, _⟩ := hq; exact k1.elim
 | ret => obtain ⟨_, _, _, _, k1, _⟩ := hq; exact k1.elim
 | goto l => exact hq.elim
 | panic c => exact hq.elim
 | outgrown => exact hq.elim
end
end Go.Tw