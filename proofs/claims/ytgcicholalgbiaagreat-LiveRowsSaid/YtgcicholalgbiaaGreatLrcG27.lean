import Derived.Test.YtgcicholalgbiaaGreatLrcG08
import Derived.RangeFuncCalls
import Derived.OrdersIn
import Derived.TacticsIn
import Derived.Deep.Quiet
set_option linter.unusedVariables false
set_option linter.unusedSimpArgs false
namespace Go.Tw
open Go
def readOp:Op→Bool
 | .move _ | .assign _ | .binOp .. | .unOp .. | .convert .. | .load .. | .indexAddr .. | .fieldAddr .. | .slice .. | .extract .. | .index .. | .field .. => true
 | _=>false
def readOps (ops:Array Oper):Bool:=ops.all fun o=>readOp o.op
section
variable {P:Program} {l0 n:Nat}
theorem read_spec {ops:Array Oper} (h:readOps ops=true) {i:Nat} {o:Oper} (ho:ops[i]? = some o):readOp o.op=true:=by
 unfold readOps at h
 obtain ⟨hi,rfl⟩:=Array.getElem?_eq_some_iff.1 ho
 exact Array.all_eq_true.1 h i hi
theorem read_value {o:Oper} (h:readOp o.op=true) (ρ:Operand→Value):∃ s:Sem Value,execOp ρ o=(do pure (.value (←s))):=by
 unfold execOp
 cases ho:o.op <;> rw [ho] at h <;> first
  | (simp [readOp] at h;done)
  | exact ⟨_,rfl⟩
  | (rename_i x;exact ⟨pure (ρ x),by simp⟩)
theorem oper_in {o:Oper} {a:Act} {w:World} {K:Act→World→Prop} {Q:Exit→Act→World→Prop} (hd:readOp o.op=true) (h:o.wp P a w K Q):o.wpIn (Fence.wide.inRound l0) n P a w K Q:=by
 refine ⟨fun f _=>trivial, ?_⟩
 rw [show (Fence.wide.inRound l0).round=some l0 from rfl,Oper.semAt_some l0 _ _ (fun c hc=>by rw [hc] at hd;simp [readOp] at hd)]
 unfold Oper.wp at h
 obtain ⟨s,hs⟩:=read_value hd a.eval
 rw [hs,Sem.run_bind] at h ⊢
 cases hr:s.run P w with
 | ok x w'=>rw [hr] at h;exact h
 | halt x w' =>
  rw [hr] at h
  cases x <;> exact h
theorem any_in {ops:Array Oper} (hd:readOps ops=true) {Q:Exit→Act→World→Prop} (hQ:¬ LetsOut Q):∀ (fuel:Nat) (listed:Array Bool) (a:Act) (w:World),wpAny P .any ops Q fuel listed a w→wpAnyIn (Fence.wide.inRound l0) n P .any ops Q fuel listed a w
 | 0,listed,a,w,h=>h
 | fuel+1,listed,a,w,h=>by
  refine ⟨h.1,fun i hi => ?_⟩
  have h2:=h.2 i hi
  unfold wpOp at h2
  unfold wpOpIn
  cases ho:ops[i]? with
  | none=>rw [ho] at h2;exact any_in hd hQ fuel _ _ _ h2
  | some o =>
   rw [ho] at h2
   simp only at h2 ⊢
   split
   ·rename_i hw
    rw [if_pos hw] at h2
    refine Oper.wpIn_mono (fun a w=>any_in hd hQ fuel _ a w) (oper_in (read_spec hd ho) ?_)
    exact h2.resolve_right (fun hc=>hQ hc.2)
   ·rename_i hw
    rw [if_neg hw] at h2
    exact ⟨fun f _=>trivial,any_in hd hQ fuel _ _ _ h2⟩
theorem wpIn_round_quiet_lit {F : Fence} (hF : F = Fence.wide) {id : Nat} {Q : Exit → Act → World → Prop} {a : Act} {w : World} {l : List Oper} (hd : readOps l.toArray = true) (hm : P.follows .mixedOrders = true) (hB : Region.lexB .any l.toArray = true)
   (h : wpQuiet P l.toArray (fun w' => ∃ n, w' = w.drewN n) (fun a' => ∀ w', (∃ n, w' = w.drewN n) → Q .normal a' w') l a) : (Code.region id l.toArray true).wpIn (F.inRound l0) n P Q a w := by
 subst hF
 refine wpIn_mono (Q := fun e a w => e = .normal ∧ Q .normal a w) ?_ (fun e a w hq => by obtain ⟨rfl, hq⟩ := hq; exact hq)
 refine wpIn_region_any hm (any_in hd (fun hc => by obtain ⟨a, w, h, _⟩ := hc; cases h) _ _ _ _ ?_)
 simp only [Region.lexB, Bool.and_eq_true] at hB
 refine wpAny_of_quiet (C := fun w' => ∃ n, w' = w.drewN n) (Q := fun a' => ∀ w', (∃ n, w' = w.drewN n) → Q .normal a' w') (fun _ w' hw' h => ⟨rfl, h w' hw'⟩) _ _ _ _ ⟨1, rfl⟩ ?_
 have := wpAnyQ_lex (C := fun w' => ∃ n, w' = w.drewN n) (md := .any) hB.1 l 0 (Array.replicate l.toArray.size false) a (by simp) (by simpa using hB.2) (by simpa using h)
 simpa using this
end
end Go.Tw