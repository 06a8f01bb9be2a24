import Derived.Test.YtaekhhlgnbhnpaaGreatOzcG11
import Derived.Deep.Slices
import Derived.Below
import Derived.SizedLaws
set_option linter.unusedVariables false
set_option linter.unusedSimpArgs false
namespace Go.Tw
open Go Go.RowKit Go.ChangeShapes Go.WideShapes Go.Deep
section
variable {H:Type} {enc:TypeId×Value→H} {P:Program} {W:World} {α:Type}
end
section
variable {H:Type} {enc:TypeId×Value→H} {P:Program} {W:World} {α:Type}
theorem age {k:Nat}:∀ {L:List (α×List AV)},(∀ a∈L,a.2.length=k)→(L.flatMap (·.2)).length=L.length*k
 | [],_=>by simp
 | a::L,h=>by
  rw [List.flatMap_cons,List.length_append,h a (by simp),age fun b hb=>h b (by simp [hb]),List.length_cons,Nat.succ_mul]
  omega
theorem akV {t e : TypeId} {cs : List Value} {fuel : Nat} {x : DataW H × List MemPlace} (good : α → List AV → Prop) (k : Nat) (hk0 : 0 < k) (ht : P.underlying t = some (.slice e)) (hk : P.cellsOf e = k)
   (hdec : ∀ n cs x, DataW.trod enc P W 0 (fun _ => true) true n e cs = some x → ∃ a avs, avs.length = k ∧ eF avs ∧ good a avs ∧ bK P W (rP W) dL avs (fun j => cs[j]?))
   (h : DataW.trod enc P W 0 (fun _ => true) true fuel t cs = some x) :
   ∃ (u : Value) (av : AV) (l : List (α × List AV)) (y : List AV), cs = [u] ∧ VR P W (rP W) dL av u ∧ bC av l.length (l.flatMap (·.2) ++ y) ∧ (∀ a ∈ l, good a.1 a.2 ∧ a.2.length = k) ∧ l.length ≤ maxLen ∧ (l.length = 0 ∨ ∃ E S, x.1 = .slice E S ∧ E.length = l.length) := by
 rcases open_slice ht h with ⟨rfl, _⟩ | ⟨a, len, cap, m, n, D, Pl, rfl, hb, hl, hm, hmm, hx, hi⟩
 · exact ⟨_, aO, [], [], rfl, rfl, ⟨.inl ⟨rfl, rfl⟩⟩, fun _ h => (by cases h), Nat.zero_le _, .inl rfl⟩
 · simp only [if_true] at hmm
   subst hmm
   by_cases hm0 : m = 0
   · subst hm0
     obtain rfl : len = 0 := by omega
     refine ⟨_, .emp 0 false, [], [], rfl, ?_, ⟨.inr (.inl ⟨0, false, rfl, rfl⟩)⟩, fun _ h => (by cases h), Nat.zero_le _, .inl rfl⟩
     unfold VR
     exact ⟨a, 0, rfl, Nat.le_refl _, fun h => (by cases h)⟩
   · obtain ⟨cs0, hc0, _⟩ := hi 0 (by omega)
     rw [Nat.zero_mul] at hc0
     obtain ⟨_, hcl0, hat0⟩ := World.cells?_some hc0
     have h00 := hat0 0 (by rw [hk]; exact hk0)
     have ha0 : Addr.add a 0 = a := rfl
     rw [ha0, ha0, List.getElem?_eq_getElem (by rw [hcl0, hk]; exact hk0)] at h00
     obtain ⟨g, o, s⟩ := a
     have hsp : s = none ∧ g < W.heap.size := by
       unfold World.cell? at h00
       simp only at h00
       cases hq : W.heap[g]? with
       | none => rw [hq] at h00; cases h00
       | some z =>
         rw [hq] at h00
         refine ⟨?_, (Array.getElem?_eq_some_iff.1 hq).1⟩
         cases z <;> simp at h00
         exact h00.1
     obtain ⟨rfl, hg⟩ := hsp
     have hadd : ∀ j, Addr.add ⟨g, o, none⟩ j = ⟨g, o + j, none⟩ := fun j => by
       unfold Addr.add
       split
       · rename_i h; subst h; rfl
       · rfl
     have key : ∀ q, q ≤ m → ∃ L : List (α × List AV), L.length = q ∧ (∀ a ∈ L, good a.1 a.2 ∧ a.2.length = k) ∧ eF (L.flatMap (·.2)) ∧ ∀ (j : Nat) (c : AV), (L.flatMap (·.2))[j]? = some c → ∃ u, W.cell? ⟨g, o + j, none⟩ = some u ∧ VR P W (rP W) dL c u := by
       intro q
       induction q with
       | zero => intro _; exact ⟨[], rfl, fun _ h => (by cases h), fun _ h => (by cases h), fun j c h => by simp at h⟩
       | succ q ih =>
         intro hq
         obtain ⟨L, h1, h2, h2a, h3⟩ := ih (by omega)
         obtain ⟨cs', hc', ht'⟩ := hi q (by omega)
         obtain ⟨a, avs, hal, hone, hga, hvr⟩ := hdec _ _ _ ht'
         rw [hk, hadd] at hc'
         obtain ⟨_, hcl, hat⟩ := World.cells?_some hc'
         refine ⟨L ++ [(a, avs)], by simp [h1], fun b hb => ?_, fun c hc => ?_, fun j c hj => ?_⟩
         · rcases List.mem_append.1 hb with hb | hb
           · exact h2 b hb
           · simp at hb; subst hb; exact ⟨hga, hal⟩
         · rw [List.flatMap_append, List.flatMap_singleton, List.mem_append] at hc
           rcases hc with hc | hc
           · exact h2a c hc
           · exact hone c hc
         · rw [List.flatMap_append, List.flatMap_singleton] at hj
           have hLl := age fun a ha => (h2 a ha).2
           rw [h1] at hLl
           by_cases hjl : j < q * k
           · rw [List.getElem?_append_left (by omega)] at hj
             exact h3 j c hj
           · rw [List.getElem?_append_right (by omega), hLl] at hj
             have hr : j - q * k < k := by
               have := (List.getElem?_eq_some_iff.1 hj).1
               simp only at this
               omega
             obtain ⟨u, hu, hv⟩ := fY hvr hj
             have := hat (j - q * k) hr
             have e1 : Addr.add ⟨g, o + q * k, none⟩ (j - q * k) = ⟨g, o + j, none⟩ := by
               unfold Addr.add
               split
               · rename_i h; congr 1; omega
               · show (⟨g, o + q * k + (j - q * k), none⟩ : Addr) = _
                 congr 1; omega
             rw [e1, hu] at this
             exact ⟨u, this, hv⟩
     obtain ⟨L, h1, h2, h2a, h3⟩ := key m (Nat.le_refl _)
     have hsplit : L.flatMap (·.2) = (L.take len).flatMap (·.2) ++ (L.drop len).flatMap (·.2) := by rw [← List.flatMap_append, List.take_append_drop]
     have hlt : (L.take len).length = len := by rw [List.length_take]; omega
     refine ⟨_, .tree len m (L.flatMap (·.2)) false, L.take len, (L.drop len).flatMap (·.2), rfl, ?_, ?_, fun a ha => h2 a (List.mem_of_mem_take ha), by rw [hlt]; omega, .inr ⟨_, _, by rw [hx], by rw [hlt]; simp⟩⟩
     · unfold VR
       exact ⟨g, o, m, rfl, hg, ⟨hl, Nat.le_refl _⟩, fun h => (by cases h), h2a, j2.2 fun j c hj => h3 j c hj⟩
     · rw [← hsplit, hlt]
       exact ⟨.inr (.inr ⟨m, false, rfl, hl⟩)⟩
end
end Go.Tw