import Derived.Test.YtaekhhlgnbhnpaaGreatNzcG08
import Derived.RangeFuncCalls
import Derived.OrdersIn
import Derived.TacticsIn
import Derived.Deep.Quiet
set_option linter.unusedVariables false
set_option linter.unusedSimpArgs false
namespace Go.Tw
open Go
def ab1:Op→Bool
 | .move _ | .assign _ | .binOp .. | .unOp .. | .convert .. | .load .. | .indexAddr .. | .fieldAddr .. | .slice .. | .extract .. | .index .. | .field .. => true
 | _=>false
def afN (a:Array Oper):Bool:=a.all fun o=>ab1 o.op
section
variable {P:Program} {l0 n:Nat}
theorem axD {a:Array Oper} (h:afN a=true) {i:Nat} {o:Oper} (b:a[i]? = some o):ab1 o.op=true:=by
 unfold afN at h;obtain ⟨hi,rfl⟩:=Array.getElem?_eq_some_iff.1 b;exact Array.all_eq_true.1 h i hi
theorem axE {o:Oper} (h:ab1 o.op=true) (ρ:Operand→Value):∃ s:Sem Value,execOp ρ o=(do pure (.value (←s))):=by
 unfold execOp;cases a:o.op <;> rw [a] at h <;> first
  | (simp [ab1] at h;done)
  | exact ⟨_,rfl⟩
  | (rename_i x;exact ⟨pure (ρ x),by simp⟩)
theorem axF {o:Oper} {a:Act} {w:World} {K:Act→World→Prop} {Q:Exit→Act→World→Prop} (b:ab1 o.op=true) (h:o.wp P a w K Q):o.wpIn (Fence.wide.inRound l0) n P a w K Q:=by
 refine ⟨fun f _=>trivial, ?_⟩;rw [show (Fence.wide.inRound l0).round=some l0 from rfl,Oper.semAt_some l0 _ _ (fun c e=>by rw [e] at b;simp [ab1] at b)];unfold Oper.wp at h;obtain ⟨s,hs⟩:=axE b a.eval;rw [hs,Sem.run_bind] at h ⊢;cases d:s.run P w with
 | ok x w'=>rw [d] at h;exact h
 | halt x w' =>
  rw [d] at h;cases x <;> exact h
theorem afO {e:Array Oper} (j:afN e=true) {Q:Exit→Act→World→Prop} (g:¬ LetsOut Q):∀ (c:Nat) (b:Array Bool) (a:Act) (w:World),wpAny P .any e Q c b a w→wpAnyIn (Fence.wide.inRound l0) n P .any e Q c b a w
 | 0,b,a,w,h=>h
 | c+1,b,a,w,h=>by
  refine ⟨h.1,fun i hi => ?_⟩;have d:=h.2 i hi;unfold wpOp at d;unfold wpOpIn;cases k:e[i]? with
  | none=>rw [k] at d;exact afO j g c _ _ _ d
  | some o =>
   rw [k] at d;simp only at d ⊢;split
   ·rename_i l;rw [if_pos l] at d;refine Oper.wpIn_mono (fun a w=>afO j g c _ a w) (axF (axD j k) ?_);exact d.resolve_right (fun m=>g m.2)
   ·rename_i l;rw [if_neg l] at d;exact ⟨fun f _=>trivial,afO j g c _ _ _ d⟩
theorem axG {F:Fence} (g:F=Fence.wide) {id:Nat} {Q:Exit→Act→World→Prop} {a:Act} {w:World} {l:List Oper} (k:afN l.toArray=true) (i:P.follows .mixedOrders=true) (b:Region.lexB .any l.toArray=true)
 (h:wpQuiet P l.toArray (fun w'=>∃ n,w'=w.drewN n) (fun d=>∀ w',(∃ n,w'=w.drewN n)→Q .normal d w') l a):(Code.region id l.toArray true).wpIn (F.inRound l0) n P Q a w:=by
 subst g;refine wpIn_mono (Q:=fun e a w=>e = .normal∧Q .normal a w) ?_ (fun e a w f=>by obtain ⟨rfl,f⟩:=f;exact f);refine wpIn_region_any i (afO k (fun j=>by obtain ⟨a,w,h,_⟩:=j;cases h) _ _ _ _ ?_);simp only [Region.lexB,Bool.and_eq_true] at b;refine wpAny_of_quiet (C:=fun w'=>∃ n,w'=w.drewN n) (Q:=fun d=>∀ w',(∃ n,w'=w.drewN n)→Q .normal d w') (fun _ w' c h=>⟨rfl,h w' c⟩) _ _ _ _ ⟨1,rfl⟩ ?_;have:=wpAnyQ_lex (C:=fun w'=>∃ n,w'=w.drewN n) (md := .any) b.1 l 0 (Array.replicate l.toArray.size false) a (by simp) (by simpa using b.2) (by simpa using h);simpa using this
end
end Go.Tw