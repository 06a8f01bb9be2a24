import Derived.Test.YtaekhhlgnbhnpaaGreatOzcG02
import Derived.Laws.Cells
import Derived.Laws.Rows
import Derived.Laws.Entries
set_option linter.unusedVariables false
set_option linter.unusedSimpArgs false
namespace Go.Tw
open Go
theorem rO {α:Type} (P:Program):∀ (s:Sem α) (x:α),cT P s=some x→∀ w,s.run P w = .ok x w
 | .pure a,x,h,w=>by simp only [cT,Option.some.injEq] at h;subst h;rfl
 | .program k,x,h,w=>by simp only [cT] at h;exact rO P (k P) x h w
 | .load _ _ _,x,h,w=>by simp [cT] at h
 | .store _ _ _ _,x,h,w=>by simp [cT] at h
 | .new _ _,x,h,w=>by simp [cT] at h
 | .shape _ _,x,h,w=>by simp [cT] at h
 | .freeze _ _ _,x,h,w=>by simp [cT] at h
 | .frozen _ _,x,h,w=>by simp [cT] at h
 | .getObj _ _,x,h,w=>by simp [cT] at h
 | .setObj _ _ _,x,h,w=>by simp [cT] at h
 | .choose _ _,x,h,w=>by simp [cT] at h
 | .sys _ _,x,h,w=>by simp [cT] at h
 | .mark _ _,x,h,w=>by simp [cT] at h
 | .halt _,x,h,w=>by simp [cT] at h
section
variable {P:Program} {w:World} {I:Nat→Prop} {ρ:cK}
theorem cX {t:TypeId} {d:TypeDesc} (h:P.underlying t=some d):(underlying t).run P w = .ok d w:=by simp [underlying,h]
theorem gX {t:TypeId} {n:Nat} (h:cH P t=some n):(sizeOf t).run P w = .ok n w:=by
 unfold cH at h
 obtain ⟨i,hi,rfl⟩:=awD h
 simp [sizeOf,typeInfo,hi]
theorem afa {t:TypeId} {n:Nat} (h:hY P t=some n):∃ i,P.info? t=some i∧i.bytes=n:=by
 unfold hY at h
 obtain ⟨i,hi,rfl⟩:=awD h
 exact ⟨i,hi,rfl⟩
theorem adf {t:TypeId} {b:Bool} (h:wR P t=some b):(isAgg t).run P w = .ok b w:=by
 unfold wR at h
 obtain ⟨d,hd,rfl⟩:=awD h
 cases d <;> simp [isAgg,cX hd]
theorem iC {t e:TypeId} (h:cD P t=some e):P.underlying t=some (.slice e):=by
 unfold cD at h;split at h
 ·cases h;assumption
 ·cases h
theorem yO {t:TypeId} {a:Nat×TypeId} (h:oN P t=some a):P.underlying t=some (.array a.1 a.2):=by
 unfold oN at h;split at h
 ·cases h;assumption
 ·cases h
theorem afb {t:TypeId} {i:Nat} {p:Nat×TypeId} (h:fP P t i=some p):∃ fs f,P.underlying t=some (.struct fs)∧fs[i]? = some f∧f.offset=p.1∧f.type=p.2:=by
 unfold fP at h;split at h
 ·rename_i fs hu
  obtain ⟨f,hf,rfl⟩:=awD h
  exact ⟨fs,f,hu,hf,rfl,rfl⟩
 ·cases h
theorem aal {t:TypeId} (h:nO P t=true):P.underlying t=some .string:=by
 unfold nO at h;split at h
 ·assumption
 ·cases h
theorem afc {t:TypeId} (h:rG P t=true):P.underlying t=some (.int .u8):=by
 unfold rG at h;split at h
 ·assumption
 ·cases h
theorem ahU {cs:List AV}:∀ {get:Nat→Option Value},bK P w I ρ cs get→∃ vs:List Value,vs.length=cs.length∧(∀ j v,vs[j]? = some v→get j=some v)∧bK P w I ρ cs (fun j=>vs[j]?):=by
 induction cs with
 | nil=>intro get _;exact ⟨[],rfl,by simp,by simp only [bK]⟩
 | cons c cs ih =>
  intro get h
  simp only [bK] at h
  obtain ⟨⟨v,h1,h2⟩,h3⟩:=h
  obtain ⟨vs,l,f,r⟩:=ih h3
  refine ⟨v::vs,by simp [l], ?_, ?_⟩
  ·intro j u hj
   cases j with
   | zero=>simp at hj;subst hj;exact h1
   | succ j=>exact f j u (by simpa using hj)
  ·simp only [bK]
   exact ⟨⟨v,by simp,h2⟩,by simpa using r⟩
theorem aam {cs:List AV} {get:Nat→Option Value} (h:bK P w I ρ cs get) {j:Nat} (hj:j < cs.length):∃ v,get j=some v:=by
 obtain ⟨v,h1,_⟩:=fY h (List.getElem?_eq_getElem hj)
 exact ⟨v,h1⟩
theorem ahV {c:AV} (h:dF c=true) {v:Value} (hv:VR P w I ρ c v):v.oneCell'=true:=by
 cases c with
 | val x=>simp only [VR] at hv;subst hv;cases v <;> simp_all [dF,Value.oneCell']
 | agg cs=>simp [dF] at h
 | tup cs=>simp [dF] at h
 | tree len c cs f=>simp only [VR] at hv;obtain ⟨g,o,cap,rfl,_⟩:=hv;rfl
 | tptr off cs=>simp only [VR] at hv;obtain ⟨g,o,rfl,_⟩:=hv;rfl
 | emp c f=>simp only [VR] at hv;obtain ⟨ad,cap,rfl,_⟩:=hv;rfl
 | sl b off len c f=>simp only [VR] at hv;obtain ⟨g,o,cap,ty,n,s,_,rfl,_⟩:=hv;rfl
 | ptr b off=>simp only [VR] at hv;obtain ⟨g,o,_,rfl⟩:=hv;rfl
 | clo f cs=>simp only [VR] at hv;obtain ⟨vs,rfl,_⟩:=hv;rfl
theorem s6 {cs:List AV} (h:eF cs) (k:Nat):eF (cs.take k):=fun c hc=>h c (List.mem_of_mem_take hc)
theorem kJ {cs:List AV} (h:eF cs) (k:Nat):eF (cs.drop k):=fun c hc=>h c (List.mem_of_mem_drop hc)
theorem abP {cs ds:List AV} (h:eF cs) (k:eF ds):eF (cs++ds):=fun c hc=>by
 rcases List.mem_append.1 hc with hc | hc
 ·exact h c hc
 ·exact k c hc
theorem aan {cs xs:List AV} (h:eF cs) (k:eF xs) (off:Nat):eF (cN cs off xs) :=
 abP (abP (s6 h _) k) (kJ h _)
theorem ahW {t : TypeId} {cs : List AV} {off : Nat} {av : AV} (hp : kV P t cs off = some av) {vs : Array Value} (hs : vs.size = cs.length) (h1 : eF cs) (hc : bK P w I ρ cs (fun j => vs[j]?)) :
   ∃ v, (part t vs off).run P w = .ok v w ∧ VR P w I ρ av v := by
 unfold kV at hp
 split at hp
 · rename_i ha
   obtain ⟨n, hn, hp⟩ := awC hp
   split at hp
   · rename_i hle
     cases hp
     refine ⟨.agg (vs.extract off (off + n)), by simp [part, adf ha, gX hn], ?_⟩
     simp only [VR]
     refine ⟨_, rfl, by simp; omega, s6 (kJ h1 _) _, ?_⟩
     refine iB (ade (kX hc off) n) fun j hj => ?_
     simp at hj
     rw [Array.getElem?_extract]
     rw [if_pos (by omega)]
   · cases hp
 · rename_i ha
   obtain ⟨v, hv1, hv2⟩ := fY hc hp
   exact ⟨v, by simp [part, adf ha, hv1], hv2⟩
 · cases hp
theorem ahX {t : TypeId} {cs : List AV} {off : Nat} {av : AV} (hp : kV P t cs off = some av) {g o : Nat} (h1 : eF cs) (hc : bK P w I ρ cs (fun j => w.cell? ⟨g, o + j, none⟩)) :
   ∃ v, (loadVar t ⟨g, o + off, none⟩).run P w = .ok v w ∧ VR P w I ρ av v := by
 unfold kV at hp
 split at hp
 · rename_i ha
   obtain ⟨n, hn, hp⟩ := awC hp
   split at hp
   · rename_i hle
     cases hp
     obtain ⟨vs, l, f, r⟩ := ahU (ade (kX hc off) n)
     have hl : vs.length = n := by simp at l; omega
     have hr := run_loadCells_list (P := P) (w := w) ⟨g, o + off, none⟩ vs (fun j v hj => by
       have := f j v hj
       rw [Addr.add_lit, Nat.add_assoc]
       exact this)
     rw [hl] at hr
     refine ⟨.agg vs.toArray, by simp [loadVar, adf ha, gX hn, hr], ?_⟩
     simp only [VR]
     exact ⟨_, rfl, by simpa using l, s6 (kJ h1 _) _, by simpa using r⟩
   · cases hp
 · rename_i ha
   obtain ⟨v, hv1, hv2⟩ := fY hc hp
   exact ⟨v, by simp [loadVar, adf ha, hv1], hv2⟩
 · cases hp
end
section
variable {P:Program} {w:World} {I:Nat→Prop} {ρ:cK} {m:aF}
theorem adg (w:World) (I:Nat→Prop):gT w w I I:=⟨fun _ h=>h,fun _ _=>rfl,fun _ _ h=>h⟩
theorem afd {cs:List AV} {get:Nat→Option Value} (h:bK P w I dL cs get):bK P w I ρ cs get:=eL (adg w I) (fun b x h=>by simp [dL] at h) cs get h
def l5 (P:Program) (w:World) (I:Nat→Prop) (ρ:cK) (s:Sem Value) (av:AV):Prop:=∃ v,s.run P w = .ok v w∧VR P w I ρ av v
theorem BR.cellsAt {k:eP} {g o:Nat} (h:BR P w I ρ k g o):bK P w I ρ k.cells (fun j=>w.cell? ⟨g,o+j,none⟩):=by
 obtain ⟨arr,fr,hh,hv⟩:=h.cells
 have h2:bK P w I ρ k.cells (fun j=>arr[o+j]?):=by
  split at hv
  ·exact afd hv
  ·exact hv
 exact iB h2 fun j _=>cell_of_row w g (o+j) arr _ fr hh
theorem BR.flatAt {k:eP} {g o:Nat} (h:BR P w I ρ k g o) (hk:k.kind = .flat):bK P w I dL k.cells (fun j=>w.cell? ⟨g,o+j,none⟩):=by
 obtain ⟨arr,fr,hh,hv⟩:=h.cells
 rw [if_pos hk] at hv
 exact iB hv fun j _=>cell_of_row w g (o+j) arr _ fr hh
theorem ahY (hS:SR P w I ρ m) {t:TypeId} {x av:AV} (h:i5 P m t x=some av) {v:Value} (hv:VR P w I ρ x v):l5 P w I ρ (Instr.loadAt t v) av:=by
 cases x with
 | ptr b off =>
  simp only [i5] at h
  obtain ⟨k,hk,h⟩:=awC h
  split at h
  ·cases h
  ·simp only [VR] at hv
   obtain ⟨g,o,hb,rfl⟩:=hv
   obtain ⟨u,h1,h2⟩:=ahX (P:=P) (w:=w) (ρ:=ρ) h (hS.blk b k g o hk hb).one (hS.blk b k g o hk hb).cellsAt
   exact ⟨u,by simpa [Instr.loadAt,Instr.sureAddr] using h1,h2⟩
 | tptr off cs =>
  simp only [i5] at h
  simp only [VR] at hv
  obtain ⟨g,o,rfl,hI,h1,hc⟩:=hv
  obtain ⟨u,h1,h2⟩:=ahX (P:=P) (w:=w) (ρ:=ρ) h h1 (afd hc)
  exact ⟨u,by simpa [Instr.loadAt,Instr.sureAddr] using h1,h2⟩
 | _=>simp [i5] at h
theorem aoV {av:AV} {b:Bool} (h:VR P w I ρ av (.bool b)):av = .val (.bool b):=by
 cases av <;> simp [VR] at h
 exact congrArg AV.val h.symm
theorem aoW {a b c av : AV} (h : abN a b c = some av) {x y z : Value} (ha : VR P w I ρ a x) (hb : VR P w I ρ b y) (hc : VR P w I ρ c z) :
   l5 P w I ρ (do pure (if ← asBool z then x else y)) av := by
 unfold abN at h
 split at h
 · rename_i t
   simp only [VR] at hc
   subst hc
   simp only [Option.some.injEq] at h
   subst h
   cases t
   · exact ⟨y, by simp [asBool], hb⟩
   · exact ⟨x, by simp [asBool], ha⟩
 · cases h
mutual
theorem yP:∀ (av:AV) (u v:Value),iZ av=some u→VR P w I ρ av v→v=u
 | .val x,u,v,h,hv=>by
  simp only [iZ,Option.some.injEq] at h
  simp only [VR] at hv
  rw [hv,h]
 | .agg cs,u,v,h,hv=>by
  simp only [iZ] at h
  obtain ⟨l,hl,rfl⟩:=awD h
  simp only [VR] at hv
  obtain ⟨vs,rfl,hs,_,hc⟩:=hv
  have:=adh cs l (fun j=>vs[j]?) hl hc
  congr 1
  apply Array.ext'
  apply List.ext_getElem?
  intro j
  by_cases hj:j < cs.length
  ·have h2:vs[j]? = l[j]? := this.2 j hj
   simpa using h2
  ·rw [List.getElem?_eq_none (by simp;omega),List.getElem?_eq_none (by simp;omega)]
 | .tup cs,u,v,h,hv=>by simp [iZ] at h
 | .tree _ _ _ _,u,v,h,hv=>by simp [iZ] at h
 | .tptr _ _,u,v,h,hv=>by simp [iZ] at h
 | .emp _ _,u,v,h,hv=>by simp [iZ] at h
 | .sl _ _ _ _ _,u,v,h,hv=>by simp [iZ] at h
 | .ptr _ _,u,v,h,hv=>by simp [iZ] at h
 | .clo _ _,u,v,h,hv=>by simp [iZ] at h
theorem adh:∀ (cs:List AV) (l:List Value) (get:Nat→Option Value),qM cs=some l→bK P w I ρ cs get→l.length=cs.length∧∀ j,j < cs.length→get j=l[j]?
 | [],l,get,h,hv=>by
  simp only [qM,Option.some.injEq] at h
  subst h
  exact ⟨rfl,fun j hj=>absurd hj (by simp)⟩
 | c::cs,l,get,h,hv=>by
  simp only [qM] at h
  obtain ⟨u,hu,h⟩:=awC h
  obtain ⟨l',hl',rfl⟩:=awD h
  simp only [bK] at hv
  obtain ⟨⟨v,h0,h1⟩,h2⟩:=hv
  have e:=yP c u v hu h1
  obtain ⟨e1,e2⟩:=adh cs l' _ hl' h2
  refine ⟨by simp [e1],fun j hj => ?_⟩
  cases j with
  | zero=>simp [h0,e]
  | succ j=>simpa using e2 j (by simpa using hj)
end
theorem aoX {a:AV} {n:Bool} (h:rI a=some n) {v:Value} (hv:VR P w I ρ a v):∃ x len cap,v = .slice x len cap∧x.isNone=n:=by
 cases a with
 | val x =>
  simp only [VR] at hv
  subst hv
  unfold rI at h
  split at h <;> simp_all
 | tree l c cs f=>simp only [rI,Option.some.injEq] at h;simp only [VR] at hv;obtain ⟨g,o,cap,rfl,_⟩:=hv;exact ⟨_,_,_,rfl,by simpa using h⟩
 | emp c f=>simp only [rI,Option.some.injEq] at h;simp only [VR] at hv;obtain ⟨ad,cap,rfl,_⟩:=hv;exact ⟨_,_,_,rfl,by simpa using h⟩
 | sl b off l c f=>simp only [rI,Option.some.injEq] at h;simp only [VR] at hv;obtain ⟨g,o,cap,ty,n,s,_,rfl,_⟩:=hv;exact ⟨_,_,_,rfl,by simpa using h⟩
 | agg cs=>simp [rI] at h
 | tup cs=>simp [rI] at h
 | tptr a b=>simp [rI] at h
 | ptr a b=>simp [rI] at h
 | clo a b=>simp [rI] at h
theorem ahZ (op:BinOp) (t:TypeId) (x y:Operand) (a:Option Addr) (n m:Nat) (v:Value):eqGuard op t x y (.slice a n m) v=pure ():=by cases op <;> rfl
theorem aoY {op : BinOp} {t : TypeId} {x y : Operand} {a b av : AV} (h : dV P op t x y a b = some av) {u v : Value} (ha : VR P w I ρ a u) (hb : VR P w I ρ b v) :
   l5 P w I ρ (do eqGuard op t x y u v; binOp op t u v) av := by
 unfold dV at h
 split at h
 · simp only [VR] at ha hb
   subst ha; subst hb
   obtain ⟨z, hz, rfl⟩ := awD h
   exact ⟨z, rO P _ _ hz w, by simp only [VR]⟩
 · obtain ⟨u', hu, h⟩ := awC h
   obtain ⟨v', hv, h⟩ := awC h
   obtain ⟨z, hz, rfl⟩ := awD h
   have e1 := yP _ u' u hu ha
   have e2 := yP _ v' v hv hb
   subst e1; subst e2
   exact ⟨z, rO P _ _ hz w, by simp only [VR]⟩
 · obtain ⟨el, hel, h⟩ := awC h
   obtain ⟨n, hn, h⟩ := awC h
   simp only [VR] at hb
   subst hb
   obtain ⟨x', len, cap, rfl, hx⟩ := aoX hn ha
   have hq : ∀ d, (Op.equalIn (d + 1) t (.slice x' len cap) (.slice none 0 0)).run P w = .ok n w := fun d => by
     cases x' with
     | none => simp [Op.equalIn, cX (iC hel)]; simpa using hx
     | some x' => simp [Op.equalIn, cX (iC hel)]; simpa using hx
   split at h
   · cases h
     refine ⟨.bool n, ?_, by simp only [bB, VR]⟩
     simp only [ahZ, pure_bind, binOp]
     simp [Op.equal, Op.maxDepth, hq 9999]
   · cases h
     refine ⟨.bool !n, ?_, by simp only [bB, VR]⟩
     simp only [ahZ, pure_bind, binOp]
     simp [Op.equal, Op.maxDepth, hq 9999]
   · cases h
 · cases h
theorem aoZ {op:UnOp} {a av:AV} (h:yM P op a=some av) {u:Value} (ha:VR P w I ρ a u):l5 P w I ρ (Op.unary op u) av:=by
 unfold yM at h
 split at h
 ·obtain ⟨z,hz,rfl⟩:=awD h
  simp only [VR] at ha
  subst ha
  exact ⟨z,rO P _ _ hz w,by simp only [VR]⟩
 ·cases h
theorem ao0 {i:Nat} {a av:AV} (h:pK i a=some av) {u:Value} (ha:VR P w I ρ a u):l5 P w I ρ (Instr.extract u i) av:=by
 unfold pK at h
 split at h
 ·simp only [VR] at ha
  obtain ⟨vs,rfl,hs,hc⟩:=ha
  obtain ⟨v,h1,h2⟩:=fY hc h
  exact ⟨v,by simp [Instr.extract,h1],h2⟩
 ·cases h
theorem ao1 {s:TypeId} {f:Nat} {a av:AV} (h:rK P s f a=some av) {u:Value} (ha:VR P w I ρ a u):l5 P w I ρ (Instr.fieldAt s u f) av:=by
 unfold rK at h
 obtain ⟨p,hp,h⟩:=awC h
 obtain ⟨fs,fd,h1,h2,h3,h4⟩:=afb hp
 split at h
 ·obtain ⟨n,hn,h⟩:=awC h
  split at h
  ·cases h
  ·rename_i hn0
   cases h
   simp only [VR] at ha
   obtain ⟨g,o,hb,rfl⟩:=ha
   refine ⟨.pointer (some ⟨g,o+(_+p.1),none⟩), ?_,by simp only [VR];exact ⟨g,o,hb,rfl⟩⟩
   rw [←h4] at hn
   simp [Instr.fieldAt,cX h1,h2,Instr.sureAddr,fieldPlace,gX hn,hn0,h3,Addr.add_lit,Nat.add_assoc]
 ·obtain ⟨n,hn,h⟩:=awC h
  split at h
  ·cases h
  ·rename_i hn0
   cases h
   simp only [VR] at ha
   obtain ⟨g,o,rfl,hI,h1',hc⟩:=ha
   refine ⟨.pointer (some ⟨g,o+(_+p.1),none⟩), ?_,by simp only [VR];exact ⟨g,o,rfl,hI,h1',hc⟩⟩
   rw [←h4] at hn
   simp [Instr.fieldAt,cX h1,h2,Instr.sureAddr,fieldPlace,gX hn,hn0,h3,Addr.add_lit,Nat.add_assoc]
 ·cases h
theorem ao2 {s:TypeId} {f:Nat} {a av:AV} (h:pM P s f a=some av) {u:Value} (ha:VR P w I ρ a u):l5 P w I ρ (Instr.field s u f) av:=by
 unfold pM at h
 split at h
 ·obtain ⟨p,hp,h⟩:=awC h
  obtain ⟨fs,fd,h1,h2,h3,h4⟩:=afb hp
  simp only [VR] at ha
  obtain ⟨vs,rfl,hs,hone,hc⟩:=ha
  obtain ⟨v,h5,h6⟩:=ahW (P:=P) (w:=w) h hs hone hc
  exact ⟨v,by simp [Instr.field,cX h1,h2,asAgg,h3,h4,h5],h6⟩
 ·cases h
theorem abQ {a:AV} {k:Nat} (h:iA a=some k) {u:Value} (ha:VR P w I ρ a u):∃ kd,u = .int kd (k:Int):=by
 unfold iA at h
 split at h
 ·split at h
  ·rename_i kd n hn
   simp only [Option.some.injEq] at h
   simp only [VR] at ha
   subst h
   exact ⟨kd,by rw [ha,Int.toNat_of_nonneg hn]⟩
  ·cases h
 ·cases h
theorem ao3 {t:TypeId} {k:Nat} {a av:AV} (h:lZ P t k a=some av) {u:Value} (ha:VR P w I ρ a u) (kd:IntKind):l5 P w I ρ (Instr.indexAt t u (.int kd k)) av:=by
 unfold lZ at h
 split at h
 ·rename_i el hel
  obtain ⟨sz,hsz,h⟩:=awC h
  split at h
  ·split at h
   ·rename_i hk
    cases h
    simp only [VR] at ha
    obtain ⟨g,o,cap,rfl,hI,hl,hf,hone,hc⟩:=ha
    refine ⟨.pointer (some ⟨g,o+k*sz,none⟩), ?_,by simp only [VR];exact ⟨g,o,rfl,hI,hone,hc⟩⟩
    have:(0:Int)≤(k:Int)∧k < _:=⟨by omega,hk⟩
    simp [Instr.indexAt,asIntOf,cX (iC hel),gX hsz,this,Addr.add_lit]
   ·cases h
  ·split at h
   ·rename_i hk
    cases h
    simp only [VR] at ha
    obtain ⟨g,o,cap,ty,n,s,hb,rfl,_⟩:=ha
    refine ⟨.pointer (some ⟨g,o+(_+k*sz),none⟩), ?_,by simp only [VR];exact ⟨g,o,hb,rfl⟩⟩
    have:(0:Int)≤(k:Int)∧k < _:=⟨by omega,hk⟩
    simp [Instr.indexAt,asIntOf,cX (iC hel),gX hsz,this,Addr.add_lit,Nat.add_assoc]
   ·cases h
  ·cases h
 ·obtain ⟨ar,har,h⟩:=awC h
  obtain ⟨sz,hsz,h⟩:=awC h
  split at h
  ·split at h
   ·rename_i hk
    cases h
    simp only [VR] at ha
    obtain ⟨g,o,rfl,hI,hone,hc⟩:=ha
    refine ⟨.pointer (some ⟨g,o+(_+k*sz),none⟩), ?_,by simp only [VR];exact ⟨g,o,rfl,hI,hone,hc⟩⟩
    have:(0:Int)≤(k:Int)∧k < ar.1:=⟨by omega,hk⟩
    simp [Instr.indexAt,asIntOf,cX (yO har),gX hsz,this,Addr.add_lit,Instr.sureAddr,Nat.add_assoc]
   ·cases h
  ·split at h
   ·rename_i hk
    cases h
    simp only [VR] at ha
    obtain ⟨g,o,hb,rfl⟩:=ha
    refine ⟨.pointer (some ⟨g,o+(_+k*sz),none⟩), ?_,by simp only [VR];exact ⟨g,o,hb,rfl⟩⟩
    have:(0:Int)≤(k:Int)∧k < ar.1:=⟨by omega,hk⟩
    simp [Instr.indexAt,asIntOf,cX (yO har),gX hsz,this,Addr.add_lit,Instr.sureAddr,Nat.add_assoc]
   ·cases h
  ·cases h
theorem ao4 {t:TypeId} {k:Nat} {a av:AV} (h:aak P t k a=some av) {u:Value} (ha:VR P w I ρ a u) (kd:IntKind):l5 P w I ρ (Instr.index t u (.int kd k)) av:=by
 unfold aak at h
 split at h
 ·obtain ⟨ar,har,h⟩:=awC h
  obtain ⟨sz,hsz,h⟩:=awC h
  split at h
  ·rename_i hk
   simp only [VR] at ha
   obtain ⟨vs,rfl,hs,hone,hc⟩:=ha
   obtain ⟨v,h5,h6⟩:=ahW (P:=P) (w:=w) h hs hone hc
   have:(0:Int)≤(k:Int)∧k < ar.1:=⟨by omega,hk⟩
   exact ⟨v,by simp [Instr.index,asIntOf,cX (yO har),gX hsz,this,h5],h6⟩
  ·cases h
 ·split at h
  ·rename_i s hstr
   simp only [VR] at ha
   subst ha
   obtain ⟨b,hb,rfl⟩:=awD h
   refine ⟨.int .u8 b.toNat, ?_,by simp only [aU,VR]⟩
   have hlt:k < s.size:=by
    have:=(List.getElem?_eq_some_iff.1 hb).1
    simpa using this
   have hsk:s[k]? = some b:=by
    have h1:s[k]? = some s[k]:=getElem?_pos s k hlt
    rw [h1]
    have h2:=(List.getElem?_eq_some_iff.1 hb).2
    rw [←h2]
    rfl
   simp [Instr.index,asIntOf,cX (aal hstr),hsk]
  ·cases h
 ·cases h
end
section
variable {P:Program} {w:World} {I:Nat→Prop} {ρ:cK} {m:aF}
def j4:Option Nat→Option Value→Prop
 | none,none=>True
 | some n,some v=>∃ kd,v = .int kd (n:Int)
 | _,_=>False
theorem afe {e:bN} {a:Act} (he:ER P w I ρ e a) {x:Option Operand} {n:Option Nat} (h:bH (x.map (opd e))=some n):j4 n (x.map a.eval):=by
 cases x with
 | none=>simp only [Option.map_none,bH,Option.some.injEq] at h;subst h;trivial
 | some x =>
  simp only [Option.map_some,bH] at h
  obtain ⟨k,hk,rfl⟩:=awD h
  exact abQ hk (d9 he x)
theorem vB {kd:IntKind} {n y:Nat} (h:n≤y) (code:BoundsCode):(Instr.sliceBound (.int kd (n:Int)) y code).run P w = .ok n w:=by
 have:(0:Int)≤(n:Int)∧(n:Int)≤(y:Int):=⟨by omega,by omega⟩
 simp [Instr.sliceBound,asIntOf,this]
theorem aao {b : Bool} {len cap : Nat} {lo hi mx : Option Nat} {vl vh vm : Option Value} (hl : j4 lo vl) (hh : j4 hi vh) (hm : j4 mx vm)
   (h1 : lo.getD 0 ≤ hi.getD len) (h2 : hi.getD len ≤ mx.getD cap) (h3 : mx.getD cap ≤ cap) (h4 : (mx.isSome && hi.isNone) = false) :
   (Instr.sliceBounds b len cap vl vh vm).run P w = .ok (lo.getD 0, hi.getD len, mx.getD cap) w := by
 cases lo with
 | none =>
   cases vl with
   | some v => simp [j4] at hl
   | none =>
     cases hi with
     | none =>
       cases vh with
       | some v => simp [j4] at hh
       | none =>
         cases mx with
         | none => cases vm with
           | some v => simp [j4] at hm
           | none => simp [Instr.sliceBounds]
         | some x => simp at h4
     | some y =>
       cases vh with
       | none => simp [j4] at hh
       | some v =>
         obtain ⟨kd, rfl⟩ := hh
         cases mx with
         | none => cases vm with
           | some v => simp [j4] at hm
           | none => simp at h2 h3; simp [Instr.sliceBounds, vB h2]
         | some x => cases vm with
           | none => simp [j4] at hm
           | some v =>
             obtain ⟨kd', rfl⟩ := hm
             simp at h2 h3
             simp [Instr.sliceBounds, vB h2, vB h3]
 | some l =>
   cases vl with
   | none => simp [j4] at hl
   | some v =>
     obtain ⟨kl, rfl⟩ := hl
     cases hi with
     | none =>
       cases vh with
       | some v => simp [j4] at hh
       | none =>
         cases mx with
         | none => cases vm with
           | some v => simp [j4] at hm
           | none => simp at h1; simp [Instr.sliceBounds, vB h1]
         | some x => simp at h4
     | some y =>
       cases vh with
       | none => simp [j4] at hh
       | some v =>
         obtain ⟨kd, rfl⟩ := hh
         cases mx with
         | none => cases vm with
           | some v => simp [j4] at hm
           | none => simp at h1 h2 h3; simp [Instr.sliceBounds, vB h2, vB h1]
         | some x => cases vm with
           | none => simp [j4] at hm
           | some v =>
             obtain ⟨kd', rfl⟩ := hm
             simp at h1 h2 h3
             simp [Instr.sliceBounds, vB h2, vB h3, vB h1]
theorem aff {a:Option Nat} {c cap:Nat} (h:a.getD c≤c) (hc:c≤cap):a.getD cap≤cap:=by
 cases a with
 | none=>exact Nat.le_refl _
 | some x=>simp at h ⊢;omega
theorem abR {a:Option Nat} {c cap x:Nat} (h:x≤a.getD c) (hc:c≤cap):x≤a.getD cap:=by
 cases a with
 | none=>simp at h ⊢;omega
 | some y=>simpa using h
theorem afg {a:Option Nat} {c cap l:Nat} {f:Bool} (hc:c≤cap) (hf:f=true→cap=c):a.getD c - l≤a.getD cap - l∧((f || a.isSome)=true→a.getD cap - l=a.getD c - l):=by
 cases a with
 | none=>simp;refine ⟨by omega,fun h=>by rw [hf h]⟩
 | some y=>simp
theorem ao5 {t el : TypeId} {sz : Nat} (hel : cD P t = some el) (hsz : cH P el = some sz) {lo hi mx : Option Nat} {x av : AV} (h : cutE sz (lo.getD 0) hi mx x = some av) (h4 : (mx.isSome && hi.isNone) = false)
   {v : Value} (hv : VR P w I ρ x v) (hs : ∀ b off n c f, x = .sl b off n c f → ∀ g o, ρ b = some (g, o) → ∀ ty n', w.shape? g = some (ty, n') → cH P ty = some sz) {vl vh vm : Option Value} (hl : j4 lo vl) (hh : j4 hi vh) (hm : j4 mx vm) : l5 P w I ρ (Instr.slice t v vl vh vm) av := by
 unfold cutE at h
 split at h
 · split at h
   · rename_i hc
     simp only [Option.some.injEq] at h
     subst h
     simp only [VR] at hv
     subst hv
     refine ⟨.slice none 0 0, ?_, by simp only [aO, VR]⟩
     have hb := aao (P := P) (w := w) (b := true) (len := 0) (cap := 0) hl hh hm (by omega) (by omega) (by omega) h4
     simp [Instr.slice, cX (iC hel), gX hsz, hb, hc]
   · cases h
 · rename_i n c cs f
   split at h
   · rename_i hc
     obtain ⟨c1, c2, c3⟩ := hc
     simp only [VR] at hv
     obtain ⟨g, o, cap, rfl, hI, ⟨hlc, hcc⟩, hf, hone, hcl⟩ := hv
     have hb := aao (P := P) (w := w) (b := true) (len := n) (cap := cap) hl hh hm c1 (abR c2 hcc) (aff c3 hcc) h4
     have hcap := afg (a := mx) (l := lo.getD 0) hcc hf
     have hrun : (Instr.slice t (.slice (some ⟨g, o, none⟩) n cap) vl vh vm).run P w = .ok (.slice (some (if mx.getD cap = lo.getD 0 then ⟨g, o, none⟩ else ⟨g, o + lo.getD 0 * sz, none⟩)) (hi.getD n - lo.getD 0) (mx.getD cap - lo.getD 0)) w := by
       simp [Instr.slice, cX (iC hel), gX hsz, hb, Addr.add_lit]
       split <;> rfl
     split at h
     · rename_i he
       simp only [Option.some.injEq] at h
       subst h
       refine ⟨_, hrun, ?_⟩
       simp only [VR]
       rw [he]
       by_cases hq : mx.getD cap = hi.getD n
       · rw [if_pos hq]; exact ⟨_, _, by rw [Nat.sub_self], by rw [← he]; exact hcap.1, by rw [← he]; exact hcap.2⟩
       · rw [if_neg hq]; exact ⟨_, _, by rw [Nat.sub_self], by rw [← he]; exact hcap.1, by rw [← he]; exact hcap.2⟩
     · rename_i he
       simp only [Option.some.injEq] at h
       subst h
       refine ⟨_, hrun, ?_⟩
       have hlt : lo.getD 0 < mx.getD cap := Nat.lt_of_lt_of_le (by omega) (abR c2 hcc)
       rw [if_neg (by omega)]
       simp only [VR]
       refine ⟨g, o + lo.getD 0 * sz, _, rfl, hI, ⟨by omega, hcap.1⟩, hcap.2, kJ hone _, ?_⟩
       refine iB (kX hcl _) fun j _ => by rw [Nat.add_assoc]
   · cases h
 · rename_i b off n c f
   split at h
   · rename_i hc
     obtain ⟨c1, c2, c3⟩ := hc
     simp only [VR] at hv
     obtain ⟨g, o, cap, ty, n', s, hb0, rfl, ⟨hlc, hcc⟩, hf, hsh, hs1, hroom⟩ := hv
     have hss := hs b off n c f rfl g o hb0 ty n' hsh
     rw [hs1, Option.some.injEq] at hss
     subst hss
     have hb := aao (P := P) (w := w) (b := true) (len := n) (cap := cap) hl hh hm c1 (abR c2 hcc) (aff c3 hcc) h4
     have hcap := afg (a := mx) (l := lo.getD 0) hcc hf
     have hrun : (Instr.slice t (.slice (some ⟨g, o + off, none⟩) n cap) vl vh vm).run P w = .ok (.slice (some (if mx.getD cap = lo.getD 0 then ⟨g, o + off, none⟩ else ⟨g, o + off + lo.getD 0 * s, none⟩)) (hi.getD n - lo.getD 0) (mx.getD cap - lo.getD 0)) w := by
       simp [Instr.slice, cX (iC hel), gX hsz, hb, Addr.add_lit]
       split <;> rfl
     split at h
     · rename_i he
       simp only [Option.some.injEq] at h
       subst h
       refine ⟨_, hrun, ?_⟩
       simp only [VR]
       by_cases hq : mx.getD cap = lo.getD 0
       · rw [if_pos hq]; exact ⟨_, _, by rw [he.1, Nat.sub_self], hcap.1, hcap.2⟩
       · rw [if_neg hq]; exact ⟨_, _, by rw [he.1, Nat.sub_self], hcap.1, hcap.2⟩
     · rename_i he
       simp only [Option.some.injEq] at h
       subst h
       refine ⟨_, hrun, ?_⟩
       have haddr : (if mx.getD cap = lo.getD 0 then (⟨g, o + off, none⟩ : Addr) else ⟨g, o + off + lo.getD 0 * s, none⟩) = ⟨g, o + (off + lo.getD 0 * s), none⟩ := by
         by_cases h0 : lo.getD 0 = 0
         · rw [h0]; simp
         · have hlt : lo.getD 0 < mx.getD cap := Nat.lt_of_lt_of_le (by omega) (abR c2 hcc)
           rw [if_neg (by omega), Nat.add_assoc]
       rw [haddr]
       simp only [VR]
       refine ⟨g, o, _, ty, n', s, hb0, rfl, ⟨by omega, hcap.1⟩, hcap.2, hsh, hs1, ?_⟩
       have hmc := aff c3 hcc
       have hlm : lo.getD 0 ≤ mx.getD cap := Nat.le_trans c1 (abR c2 hcc)
       have : lo.getD 0 * s + (mx.getD cap - lo.getD 0) * s ≤ cap * s := by
         rw [← Nat.add_mul]
         exact Nat.mul_le_mul_right _ (by omega)
       omega
   · cases h
 · rename_i c f
   split at h
   · rename_i hc
     simp only [Option.some.injEq] at h
     subst h
     obtain ⟨c1, c2, c3⟩ := hc
     simp only [VR] at hv
     obtain ⟨ad, cap, rfl, hcc, hf⟩ := hv
     have hm0 : mx.getD cap ≤ cap := by
       cases mx with
       | none => exact Nat.le_refl _
       | some x => simp at c3; subst c3; simp
     have hb := aao (P := P) (w := w) (b := true) (len := 0) (cap := cap) hl hh hm (by omega) (by omega) hm0 h4
     have hcap := afg (a := mx) (l := 0) hcc hf
     refine ⟨.slice (some ad) 0 (mx.getD cap), ?_, ?_⟩
     · simp [Instr.slice, cX (iC hel), gX hsz, hb, Addr.add, c1, c2]
     · simp only [VR]
       exact ⟨ad, mx.getD cap, rfl, by simpa using hcap.1, by simpa using hcap.2⟩
   · cases h
 · cases h
theorem ao6 {t : TypeId} {lo hi mx : Option Nat} {x av : AV} (h : kI P t lo hi mx x = some av) {v : Value} (hv : VR P w I ρ x v)
   (hs : ∀ b off n c f el sz, x = .sl b off n c f → cD P t = some el → cH P el = some sz → ∀ g o, ρ b = some (g, o) → ∀ ty n', w.shape? g = some (ty, n') → cH P ty = some sz)
   {vl vh vm : Option Value} (hl : j4 lo vl) (hh : j4 hi vh) (hm : j4 mx vm) : l5 P w I ρ (Instr.sliceAt t v vl vh vm) av := by
 unfold kI at h
 split at h
 · cases h
 · rename_i h4
   have h4' : (mx.isSome && hi.isNone) = false := (Bool.not_eq_true _).mp h4
   split at h
   · rename_i el hel
     obtain ⟨sz, hsz, h⟩ := awC h
     obtain ⟨u, h1, h2⟩ := ao5 (P := P) (w := w) hel hsz h h4' hv (fun b off n c f e => hs b off n c f el sz e hel hsz) hl hh hm
     exact ⟨u, by simpa [Instr.sliceAt, cX (iC hel)] using h1, h2⟩
   · split at h
     · rename_i n el har
       obtain ⟨sz, hsz, h⟩ := awC h
       split at h
       · rename_i off cs _h0
         split at h
         · rename_i hn0
           simp only [VR] at hv
           obtain ⟨g, o, rfl, hI, hone, hc⟩ := hv
           have hu := yO har
           simp only at hu
           simp only [cutE] at h
           split at h
           · rename_i hc'
             obtain ⟨c1, c2, c3⟩ := hc'
             have hb := aao (P := P) (w := w) (b := false) (len := n) (cap := n) hl hh hm c1 c2 c3 h4'
             have hrun : (Instr.sliceAt t (.pointer (some ⟨g, o + off, none⟩)) vl vh vm).run P w = .ok (.slice (some (if mx.getD n = lo.getD 0 then ⟨g, o + off, none⟩ else ⟨g, o + off + lo.getD 0 * sz, none⟩)) (hi.getD n - lo.getD 0) (mx.getD n - lo.getD 0)) w := by
               simp [Instr.sliceAt, cX hu, gX hsz, hb, Instr.sureAddr, Addr.add_lit]
             split at h
             · rename_i he
               simp only [Option.some.injEq] at h
               subst h
               refine ⟨_, hrun, ?_⟩
               simp only [VR]
               rw [he]
               by_cases hq : mx.getD n = hi.getD n
               · rw [if_pos hq]; exact ⟨_, _, by rw [Nat.sub_self], Nat.le_refl _, fun _ => rfl⟩
               · rw [if_neg hq]; exact ⟨_, _, by rw [Nat.sub_self], Nat.le_refl _, fun _ => rfl⟩
             · rename_i he
               simp only [Option.some.injEq] at h
               subst h
               refine ⟨_, hrun, ?_⟩
               rw [if_neg (by omega)]
               simp only [VR]
               refine ⟨g, o + off + lo.getD 0 * sz, _, rfl, hI, ⟨by omega, Nat.le_refl _⟩, fun _ => rfl, kJ (kJ hone _) _, ?_⟩
               refine iB (kX (kX hc off) _) fun j _ => by simp [Nat.add_assoc]
           · cases h
         · cases h
       · cases h
     · split at h
       · split at h
         · rename_i s hc
           obtain ⟨c1, c2, c3, rfl⟩ := hc
           simp only [Option.some.injEq] at h
           subst h
           simp only [VR] at hv
           subst hv
           have hb := aao (P := P) (w := w) (b := false) (len := s.size) (cap := s.size) (mx := none) (vm := none) hl hh trivial c2 c3 (Nat.le_refl _) rfl
           have hvm : vm = none := by
             cases vm with
             | none => rfl
             | some v => simp [j4] at hm
           subst hvm
           refine ⟨.string (s.extract (lo.getD 0) (hi.getD s.size)), ?_, by simp only [VR]⟩
           simp [Instr.sliceAt, Instr.slice, cX (aal c1), hb]
         · cases h
       · cases h
theorem ao7 (l : List Value) : ∀ (k off : Nat) (arr : Array Value), ((l.zipIdx k).foldl (fun cs (p : Value × Nat) => cs.setIfInBounds (off + p.2) p.1) arr).size = arr.size ∧
   ∀ i, ((l.zipIdx k).foldl (fun cs (p : Value × Nat) => cs.setIfInBounds (off + p.2) p.1) arr)[i]? = if off + k ≤ i ∧ i < off + k + l.length ∧ i < arr.size then l[i - off - k]? else arr[i]? := by
 induction l with
 | nil => intro k off arr; refine ⟨rfl, fun i => ?_⟩; simp; intro h1 h2; omega
 | cons v l ih =>
   intro k off arr
   simp only [List.zipIdx_cons, List.foldl_cons]
   obtain ⟨h1, h2⟩ := ih (k + 1) off (arr.setIfInBounds (off + k) v)
   refine ⟨by rw [h1]; simp, fun i => ?_⟩
   rw [h2 i]
   simp only [Array.size_setIfInBounds, List.length_cons]
   by_cases hi : off + k = i
   · subst hi
     by_cases hb : off + k < arr.size
     · rw [if_neg (by omega), if_pos (by omega), Array.getElem?_setIfInBounds_self_of_lt hb]
       simp
     · rw [if_neg (by omega), if_neg (by omega), Array.getElem?_eq_none (by simp; omega), Array.getElem?_eq_none (by omega)]
   · by_cases hc : off + (k + 1) ≤ i ∧ i < off + (k + 1) + l.length ∧ i < arr.size
     · rw [if_pos hc, if_pos (by omega)]
       obtain ⟨d, hd⟩ : ∃ d, i - off - k = d + 1 := ⟨i - off - k - 1, by omega⟩
       rw [hd, List.getElem?_cons_succ]
       congr 1
       omega
     · rw [if_neg hc, if_neg (by omega), Array.getElem?_setIfInBounds_ne hi]
theorem afh {av:AV} (hok:fK av=true) {v:Value} (hv:VR P w I ρ av v):v.cells.size=av.cells.length∧eF av.cells∧bK P w I ρ av.cells (fun j=>v.cells[j]?):=by
 by_cases ha:∃ cs,av = .agg cs
 ·obtain ⟨cs,rfl⟩:=ha
  simp only [VR] at hv
  obtain ⟨vs,rfl,hs,hone,hc⟩:=hv
  exact ⟨hs,hone,hc⟩
 ·have h1:av.cells=[av]:=by cases av <;> first | rfl | exact absurd ⟨_,rfl⟩ ha
  have h2:dF av=true:=by cases av <;> first | exact hok | exact absurd ⟨_,rfl⟩ ha
  have h3:=ahV h2 hv
  have h4:v.cells = #[v]:=by cases v <;> first | rfl | simp [Value.oneCell'] at h3
  rw [h1,h4]
  refine ⟨rfl,fun c hc=>by simp at hc;subst hc;exact h2, ?_⟩
  simp only [bK]
  exact ⟨⟨v,by simp,hv⟩,trivial⟩
theorem ah0 (cs:List AV) (off:Nat) (xs:List AV) (h:off+xs.length≤cs.length) (i:Nat):(cN cs off xs)[i]? = if off≤i∧i < off+xs.length then xs[i - off]? else cs[i]? := by
 unfold cN
 by_cases h1:i < off
 ·rw [List.getElem?_append_left (by simp;omega),List.getElem?_append_left (by simp;omega),List.getElem?_take,if_pos h1,if_neg (by omega)]
 ·by_cases h2:i < off+xs.length
  ·rw [List.getElem?_append_left (by simp;omega),List.getElem?_append_right (by simp;omega),if_pos (by omega)]
   congr 1
   simp;omega
  ·rw [List.getElem?_append_right (by simp;omega),List.getElem?_drop,if_neg (by omega)]
   congr 1
   simp;omega
theorem ah1 (cs:List AV) (off:Nat) (xs:List AV) (h:off+xs.length≤cs.length):(cN cs off xs).length=cs.length:=by
 unfold cN;simp;omega
theorem aap {place placeE : Nat → Option (Nat × Nat)} (hp : ∀ i p, placeE i = some p → place i = some p) : ∀ (parts : List (Nat × AV)) (vparts : List (Nat × Value)) (cs cs' : List AV) (arr : Array Value),
   fX placeE cs parts = some cs' → vparts.length = parts.length → (∀ (j i : Nat) (av : AV) (i' : Nat) (v : Value), parts[j]? = some (i, av) → vparts[j]? = some (i', v) → i = i' ∧ VR P w I ρ av v) →
   arr.size = cs.length → eF cs → bK P w I ρ cs (fun j => arr[j]?) →
   ∃ arr', Instr.fill place arr vparts = some arr' ∧ arr'.size = cs'.length ∧ cs'.length = cs.length ∧ eF cs' ∧ bK P w I ρ cs' (fun j => arr'[j]?)
 | [], vparts, cs, cs', arr, h, hl, hv, hs, h1, hc => by
   simp only [fX, Option.some.injEq] at h
   subst h
   obtain rfl : vparts = [] := List.eq_nil_of_length_eq_zero hl
   exact ⟨arr, rfl, hs, rfl, h1, hc⟩
 | (i, av) :: parts, [], cs, cs', arr, h, hl, hv, hs, h1, hc => by simp at hl
 | (i, av) :: parts, (i', v) :: vparts, cs, cs', arr, h, hl, hv, hs, h1, hc => by
   simp only [fX] at h
   obtain ⟨p, hp1, h⟩ := awC h
   split at h
   · rename_i hcd
     obtain ⟨c1, c2, c3⟩ := hcd
     obtain ⟨rfl, hvr⟩ := hv 0 i av i' v rfl rfl
     obtain ⟨g1, g2, g3⟩ := afh c3 hvr
     have hf := ao7 v.cells.toList 0 p.1 arr
     have hfe : v.cells.zipIdx.foldl (fun cs (x : Value × Nat) => cs.setIfInBounds (p.1 + x.2) x.1) arr = (v.cells.toList.zipIdx 0).foldl (fun cs (x : Value × Nat) => cs.setIfInBounds (p.1 + x.2) x.1) arr := by
       rw [← Array.foldl_toList, Array.toList_zipIdx]
     rw [← hfe] at hf
     have hsz : (cN cs p.1 av.cells).length = cs.length := ah1 _ _ _ c2
     obtain ⟨arr', r1, r2, r3, r4, r5⟩ := aap hp parts vparts (cN cs p.1 av.cells) cs' _ h (by simpa using hl) (fun j => hv (j + 1)) (by rw [hf.1, hs, hsz]) (aan h1 g2 _) (by
       refine j2.2 fun j c hj => ?_
       rw [ah0 _ _ _ c2] at hj
       simp only [hf.2 j, Nat.add_zero]
       split at hj
       · rename_i hr
         obtain ⟨u, u1, u2⟩ := fY g3 hj
         refine ⟨u, ?_, u2⟩
         rw [if_pos (by simp; omega)]
         simpa using u1
       · rename_i hr
         obtain ⟨u, u1, u2⟩ := fY hc hj
         refine ⟨u, ?_, u2⟩
         rw [if_neg (by simp; omega)]
         exact u1)
     refine ⟨arr', ?_, r2, r3.trans hsz, r4, r5⟩
     rw [Instr.fill, hp i p hp1]
     simp only
     rw [if_neg (by simp only [ne_eq, decide_not, Bool.or_eq_true, Bool.not_eq_true', decide_eq_false_iff_not, decide_eq_true_eq, not_or, Decidable.not_not]; exact ⟨by rw [g1]; exact c1, by rw [g1, hs]; omega⟩)]
     exact r1
   · cases h
end
end Go.Tw