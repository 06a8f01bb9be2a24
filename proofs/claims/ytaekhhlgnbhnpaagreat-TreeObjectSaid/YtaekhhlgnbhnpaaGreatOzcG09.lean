import Derived.Test.YtaekhhlgnbhnpaaGreatOzcG08
import Derived.Defers
set_option linter.unusedVariables false
set_option linter.unusedSimpArgs false
namespace Go.Tw
open Go
def xC (P:Program) (f:FuncId) (args:List AV) (m:aF) (Q:AV→aF→Prop):Prop:=s8 P f=true ∧
 ∀ (w:World) (I:Nat→Prop) (ρ:cK) (vs:Array Value),SR P w I ρ m→vs.size=args.length→bK P w I ρ args (fun j=>vs[j]?)→(∀ b,m.next≤b→ρ b=none) →
  CallsD P f vs .returning w fun en u w'=>u = .returning∧∃ v r m' I' ρ',en = .returned v∧Q r m'∧VR P w' I' ρ' r v∧SR P w' I' ρ' m'∧cP w I ρ m w' I' ρ' m'∧∀ b,m'.next≤b→ρ' b=none
section
variable {P:Program}
theorem akf (hm : P.follows .mixedOrders = true) {f : FuncId} {fn : Func} {c : Code} (hf : P.funcs[f]? = some fn) (hb : fn.body = some c) (hn : fn.name ≠ "runtime.NumGoroutine") (once : Nat → Bool) {args : List AV} {m : aF} {Q : AV → aF → Prop} (hle : args.length ≤ fn.ntmps) (hok : lP fn.ntmps c = true)
   (h : eJ P once fn.ntmps c (aaG P fn.results.toList Q) (nP args) m) : xC P f args m Q :=
 ⟨by simp [s8, hf, hb, hn], fun w I ρ vs hS hsz hv hfree => callsD_of_wp hf hb (aiW hm once hle hok h hS hsz hv hfree)⟩
def af0 (P:Program) (rs:List ResultVar) (g:FuncId) (caps:List AV) (K:AV→aF→Prop):Ex→bN→aF→Prop
 | .exit _,_,_=>False
 | _,e,m=>xC P g caps m fun _ m'=>match jZ P rs e m' with
  | some v=>K v m'
  | none=>False
def af1 (P:Program) (once:Nat→Bool) (n:Nat) (rs:List ResultVar) (a b:Code) (t:Nat) (g:FuncId) (caps:List Operand) (K:AV→aF→Prop):bN→aF→Prop :=
 eJ P once n a (pR (fun e m=>eJ P once n b (af0 P rs g (caps.map (opd e)) K) (e.set t (.clo g (caps.map (opd e)))) m) fun _ _ _=>False)
theorem akg (hm : P.follows .mixedOrders = true) {f : FuncId} {fn : Func} {A B : Code} {id : Nat} {t : Nat} {g : FuncId} {caps : Array Operand} {ty1 ty2 : TypeId} {p1 p2 : String} {a1 a2 : Array Edge} {ts : Array TypeId}
   (hf : P.funcs[f]? = some fn) (hb : fn.body = some (.seq A (.seq (.region id #[⟨some t, .makeFunc (.func g) #[] caps, ty1, p1, a1, none⟩, ⟨none, .defer ⟨.value (.tmp t), #[], ts⟩, ty2, p2, a2, none⟩] false) B))) (hn : fn.name ≠ "runtime.NumGoroutine") (once : Nat → Bool) {args : List AV} {m : aF} {Q : AV → aF → Prop}
   (hle : args.length ≤ fn.ntmps) (hA : lP fn.ntmps A = true) (hB : lP fn.ntmps B = true) (ht : t < fn.ntmps) (hg : s8 P g = true)
   (h : af1 P once fn.ntmps fn.results.toList A B t g caps.toList Q (nP args) m) : fA P f args m Q := by
 refine ⟨by simp [s8, hf, hb, hn], fun w I ρ vs hS hsz hv hfree => ?_⟩
 refine calls_of_wp_defers hf hb (wp_seq (wp_mono (adE hm A _ _ _ _ w I ρ hA h (afP (n := fn.ntmps) hS hsz hv hfree hle)) ?_))
 intro ex a w1 hq
 cases ex with
 | normal =>
   obtain ⟨e, m1, I1, ρ1, h1, hR⟩ := hq
   refine wp_seq (wp_region ?_)
   show wpOps P _ _ [0, 1] a w1
   simp only [wpOps, List.getElem?_toArray, List.getElem?_cons_zero, List.getElem?_cons_succ, Region.wanted, if_true]
   refine .inl (ab8 (d := false) (once := false) (o := ⟨some t, .makeFunc (.func g) #[] caps, ty1, p1, a1, none⟩) (K := fun out => out = ⟨.clo g (caps.toList.map (opd e)), m1, none⟩) hR.sr hR.er (by simp [cL, c9, bO, eG]) hR.free ?_)
   intro out v w2 I2 ρ2 hK h2 h3 h4 h5 h6
   subst hK
   have hR2 := hR.next (o := ⟨some t, .makeFunc (.func g) #[] caps, ty1, p1, a1, none⟩) (fun d hd => by cases hd; exact ht) h2 h3 h4 h5 h6
   have hcl := h2
   simp only [VR] at hcl
   obtain ⟨cv, rfl, hcs, hcv⟩ := hcl
   refine .inl ?_
   unfold Oper.wp
   have hev : (a.put (some t) (.func (.func g) #[] cv)).eval (.tmp t) = .func (.func g) #[] cv := by
     have hlt : t < a.tmps.size := by rw [hR.size]; exact ht
     simp [Act.eval, Act.put, Array.getD_eq_getD_getElem?, hlt]
   have hrun : (execOp (a.put (some t) (.func (.func g) #[] cv)).eval ⟨none, .defer ⟨.value (.tmp t), #[], ts⟩, ty2, p2, a2, none⟩).run P w2 = .ok (.defer ⟨.fn (.func g) cv, #[]⟩) w2 := by
     simp [execOp, resolve, hev, Deferred.ofValue]
   rw [hrun, Oper.upon_defer]
   simp only [tF, afU] at hR2
   refine wp_mono (adE (D := [⟨.fn (.func g) cv, #[]⟩]) hm B _ _ _ _ w2 I2 ρ2 hB h1 (w0 := w2) (I0 := I2) (ρ0 := ρ2) (m0 := m1) ⟨fun j => hR2.er j, hR2.sr, hR2.free, cP.refl _ _ _ _, hR2.size, ?_⟩) ?_
   · have := hR2.defers
     simp only [Act.put] at this ⊢
     rw [this]
   have fin : ∀ e3 m3 a3 w3 I3 ρ3, (xC P g (caps.toList.map (opd e)) m3 fun _ m' => match jZ P fn.results.toList e3 m' with | some v => Q v m' | none => False) → kY P w2 I2 ρ2 m1 fn.ntmps [⟨.fn (.func g) cv, #[]⟩] e3 m3 a3 w3 I3 ρ3 →
       Leaves P fn a3.tmps (fun en w' => ∃ v r m' I' ρ', en = .returned v ∧ Q r m' ∧ VR P w' I' ρ' r v ∧ SR P w' I' ρ' m' ∧ cP w I ρ m w' I' ρ' m' ∧ ∀ b, m'.next ≤ b → ρ' b = none) a3.defers .returning w3 := by
     intro e3 m3 a3 w3 I3 ρ3 hD hR3
     rw [hR3.defers]
     refine leaves_cons (by simp) (f := g) (args := #[] ++ cv) ?_ ?_
     · unfold s8 at hg
       split at hg
       · rename_i gf hgf
         simp only [Bool.and_eq_true, bne_iff_ne, ne_eq] at hg
         obtain ⟨g1, g2⟩ := hg
         have hb' : ¬ gf.body = none := fun h => by rw [h] at g2; cases g2
         simp [invoke, callFunc, hgf, g1, hb']
       · cases hg
     · refine (hD.2 w3 I3 ρ3 (#[] ++ cv) hR3.sr (by simp [hcs]) ?_ hR3.free).mono ?_
       · have := ahT hR3.step hR2.sr hcv
         simpa using this
       · rintro en u w4 ⟨rfl, v, r, m4, I4, ρ4, rfl, hq, _, hS4, hst, hfr⟩
         simp only [settle]
         split at hq
         · rename_i av hav
           obtain ⟨v, k1, k2⟩ := afQ hS4 (ae8 hst hR3.sr hR3.er) hav
           exact ⟨v, k1, v, av, m4, I4, ρ4, rfl, hq, k2, hS4, (hR2.step.trans hR3.step).trans hst, hfr⟩
         · exact hq.elim
   intro ex a3 w3 hq
   cases ex with
   | normal => obtain ⟨e3, m3, I3, ρ3, k1, k2⟩ := hq; exact fin e3 m3 a3 w3 I3 ρ3 k1 k2
   | ret => obtain ⟨e3, m3, I3, ρ3, k1, k2⟩ := hq; exact fin e3 m3 a3 w3 I3 ρ3 k1 k2
   | exit id => obtain ⟨_, _, _, _, k1, _⟩ := hq; exact k1.elim
   | goto l => exact hq.elim
   | panic c => exact hq.elim
   | outgrown => exact hq.elim
 | exit id => obtain ⟨_, _, _, _, k1, _⟩ := hq; exact k1.elim
 | ret => obtain ⟨_, _, _, _, k1, _⟩ := hq; exact k1.elim
 | goto l => exact hq.elim
 | panic c => exact hq.elim
 | outgrown => exact hq.elim
end
end Go.Tw