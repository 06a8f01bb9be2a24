import Derived.Test.YtaekhhlgnbhnpaaGreatOzcG10
import Derived.Lib.Overlaps
set_option linter.unusedVariables false
set_option linter.unusedSimpArgs false
namespace Go.Tw
open Go
structure aaL (P:Program) (m:aF) (v:AV) (m':aF) (v':AV):Prop where
 next:m.next≤m'.next
 to:∀ (w:World) (I:Nat→Prop) (ρ:cK) (x:Value),SR P w I ρ m→VR P w I ρ v x→(∀ b,m.next≤b→ρ b=none)→∃ ρ',SR P w I ρ' m'∧VR P w I ρ' v' x∧cP w I ρ m w I ρ' m'∧∀ b,m'.next≤b→ρ' b=none
section
variable {P:Program} {m m' m'':aF} {v v' v'':AV}
theorem aaL.refl (m:aF) (v:AV):aaL P m v m v:=⟨Nat.le_refl _,fun w I ρ x hS hv hf=>⟨ρ,hS,hv,cP.refl _ _ _ _,hf⟩⟩
theorem aaL.trans (h:aaL P m v m' v') (h':aaL P m' v' m'' v''):aaL P m v m'' v'':=⟨Nat.le_trans h.next h'.next,fun w I ρ x hS hv hf=>by
 obtain ⟨ρ1,a1,a2,a3,a4⟩:=h.to w I ρ x hS hv hf
 obtain ⟨ρ2,b1,b2,b3,b4⟩:=h'.to w I ρ1 x a1 a2 a4
 exact ⟨ρ2,b1,b2,a3.trans b3,b4⟩⟩
end
mutual
def fM (P:Program) (rows:List (TypeId×List AV)):Nat→AV→AV
 | 0,.sl b off n c f => .tree n c ((rows.getD b (0,[])).2.drop off) f
 | d+1,.sl b off n c f => .tree n c ((if bW P (rows.getD b (0,[])).1 = .flat then (rows.getD b (0,[])).2 else iF P rows d (rows.getD b (0,[])).2).drop off) f
 | d,.agg cs => .agg (iF P rows d cs)
 | d,.tup cs => .tup (iF P rows d cs)
 | _,.val v => .val v
 | _,.tree a b c d => .tree a b c d
 | _,.tptr a b => .tptr a b
 | _,.emp a b => .emp a b
 | _,.ptr a b => .ptr a b
 | _,.clo f cs => .clo f cs
 termination_by d v=>(d,SizeOf.sizeOf v)
def iF (P:Program) (rows:List (TypeId×List AV)):Nat→List AV→List AV
 | _,[]=>[]
 | d,c::cs=>fM P rows d c::iF P rows d cs
 termination_by d v=>(d,SizeOf.sizeOf v)
end
mutual
def iU (P:Program) (rows:List (TypeId×List AV)):Nat→AV→Bool
 | _,.val _=>true
 | _,.tree .. => true
 | _,.tptr .. => true
 | _,.emp .. => true
 | 0,.sl b _ _ _ _=>decide (bW P (rows.getD b (0,[])).1 = .flat)
 | d+1,.sl b _ _ _ _=>decide (bW P (rows.getD b (0,[])).1 = .flat) || j5 P rows d (rows.getD b (0,[])).2
 | d,.agg cs=>j5 P rows d cs
 | d,.tup cs=>j5 P rows d cs
 | _,_=>false
 termination_by d v=>(d,SizeOf.sizeOf v)
def j5 (P:Program) (rows:List (TypeId×List AV)):Nat→List AV→Bool
 | _,[]=>true
 | d,c::cs=>iU P rows d c && j5 P rows d cs
 termination_by d v=>(d,SizeOf.sizeOf v)
end
section
variable {P:Program} {w:World} {I:Nat→Prop} {ρ:cK} {rows:List (TypeId×List AV)}
theorem af5 (d:Nat):∀ cs:List AV,(iF P rows d cs).length=cs.length
 | []=>by unfold iF;rfl
 | c::cs=>by unfold iF;simp [af5 d cs]
theorem aqz (d:Nat) (v:AV):dF (fM P rows d v)=dF v:=by
 cases v <;> (cases d <;> (unfold fM;rfl))
theorem af6 (d:Nat):∀ (cs:List AV),eF cs→eF (iF P rows d cs)
 | [],h=>by unfold iF;exact h
 | c::cs,h=>fun x hx=>by
  unfold iF at hx
  rcases List.mem_cons.1 hx with rfl | hx
  ·rw [aqz];exact h c (by simp)
  ·exact af6 d cs (fun y hy=>h y (by simp [hy])) x hx
def aaM (ρ:cK) (g:Nat):Prop:=∃ b o,ρ b=some (g,o)
theorem vM (hS:SR P w I ρ (d8 P aF.empty rows)) (hk:∀ b x,ρ b=some x→b < rows.length) {b g o:Nat} (hg:ρ b=some (g,o)):∃ r,rows.getD b (0,[])=r∧BR P w I ρ ⟨r.2,r.1,bW P r.1,true⟩ g o:=by
 have hb:=hk b _ hg
 have hat:(d8 P aF.empty rows).at_ b=some (dS P 0 rows[b]):=by
  rw [aat,if_pos (by simp [aF.empty];exact hb)]
  simp [aF.empty,List.getElem?_eq_getElem hb]
 have hB:=hS.blk b _ g o hat hg
 rw [afv] at hB
 exact ⟨rows[b],by simp [List.getD_eq_getElem?_getD,List.getElem?_eq_getElem hb],hB⟩
theorem af7:gT w w I (fun g=>I g∨aaM ρ g):=⟨fun _ h => .inl h,fun _ _=>rfl,fun _ _ h=>h⟩
theorem akD {r:TypeId×List AV} {g o off:Nat} (hB:BR P w I ρ ⟨r.2,r.1,bW P r.1,true⟩ g o) (hf:bW P r.1 = .flat):bK P w (fun g=>I g∨aaM ρ g) dL (r.2.drop off) (fun j=>w.cell? ⟨g,o+off+j,none⟩):=by
 have h3:=kX (BR.flatAt hB hf) off
 exact iB (eL af7 (fun _ _ h=>h) _ _ h3) fun j _=>by rw [Nat.add_assoc]
mutual
theorem akE (hS:SR P w I ρ (d8 P aF.empty rows)) (hk:∀ b x,ρ b=some x→b < rows.length):∀ (d:Nat) (av:AV) (v:Value),iU P rows d av=true→VR P w I ρ av v→VR P w (fun g=>I g∨aaM ρ g) dL (fM P rows d av) v
 | d,.val x,v,_,hv=>by unfold fM;simpa only [VR] using hv
 | d,.tree n c cs f,v,_,hv=>by
  rw [show fM P rows d (.tree n c cs f) = .tree n c cs f by cases d <;> (unfold fM;rfl)]
  exact pP af7 (fun _ _ h=>h) _ _ (yR (.tree n c cs f) v rfl hv)
 | d,.tptr o cs,v,_,hv=>by
  rw [show fM P rows d (.tptr o cs) = .tptr o cs by cases d <;> (unfold fM;rfl)]
  exact pP af7 (fun _ _ h=>h) _ _ (yR (.tptr o cs) v rfl hv)
 | d,.emp _ _,v,_,hv=>by unfold fM;simpa only [VR] using hv
 | d,.agg cs,v,h,hv=>by
  unfold iU at h
  unfold fM
  simp only [VR] at hv ⊢
  obtain ⟨vs,h1,h2,h3,h4⟩:=hv
  exact ⟨vs,h1,by rw [h2,af5],af6 d cs h3,adI hS hk d cs _ h h4⟩
 | d,.tup cs,v,h,hv=>by
  unfold iU at h
  unfold fM
  simp only [VR] at hv ⊢
  obtain ⟨vs,h1,h2,h4⟩:=hv
  exact ⟨vs,h1,by rw [h2,af5],adI hS hk d cs _ h h4⟩
 | 0,.sl b off n c f,v,h,hv=>by
  unfold iU at h
  unfold fM
  simp only [VR] at hv ⊢
  obtain ⟨g,o,cap,ty,n',s,hg,rfl,h1,h2,_⟩:=hv
  obtain ⟨r,hr,hB⟩:=vM hS hk hg
  rw [hr] at h ⊢
  exact ⟨g,o+off,cap,rfl,.inr ⟨b,o,hg⟩,h1,h2,kJ hB.one _,akD hB (of_decide_eq_true h)⟩
 | d+1,.sl b off n c f,v,h,hv=>by
  unfold iU at h
  unfold fM
  simp only [VR] at hv ⊢
  obtain ⟨g,o,cap,ty,n',s,hg,rfl,h1,h2,_⟩:=hv
  obtain ⟨r,hr,hB⟩:=vM hS hk hg
  rw [hr] at h ⊢
  by_cases hf:bW P r.1 = .flat
  ·rw [if_pos hf]
   exact ⟨g,o+off,cap,rfl,.inr ⟨b,o,hg⟩,h1,h2,kJ hB.one _,akD hB hf⟩
  ·rw [if_neg hf]
   rw [decide_eq_false hf,Bool.false_or] at h
   refine ⟨g,o+off,cap,rfl,.inr ⟨b,o,hg⟩,h1,h2,kJ (af6 d _ hB.one) _, ?_⟩
   have h3:=kX (adI hS hk d r.2 _ h hB.cellsAt) off
   exact iB h3 fun j _=>by rw [Nat.add_assoc]
 | d,.ptr _ _,v,h,hv=>by unfold iU at h;cases h
 | d,.clo _ _,v,h,hv=>by unfold iU at h;cases h
 termination_by d av=>(d,SizeOf.sizeOf av)
theorem adI (hS:SR P w I ρ (d8 P aF.empty rows)) (hk:∀ b x,ρ b=some x→b < rows.length):∀ (d:Nat) (cs:List AV) (get:Nat→Option Value),j5 P rows d cs=true→bK P w I ρ cs get→bK P w (fun g=>I g∨aaM ρ g) dL (iF P rows d cs) get
 | d,[],get,_,hv=>by unfold iF;simp only [bK]
 | d,c::cs,get,h,hv=>by
  unfold j5 at h
  simp only [Bool.and_eq_true] at h
  unfold iF
  simp only [bK] at hv ⊢
  obtain ⟨⟨v,h1,h2⟩,h3⟩:=hv
  exact ⟨⟨v,h1,akE hS hk d c v h.1 h2⟩,adI hS hk d cs _ h.2 h3⟩
 termination_by d cs=>(d,SizeOf.sizeOf cs)
end
theorem yY {f:FuncId} {args:List AV} {r:gJ} (d:Nat) (h:aX P f args r) (ho:iU P r.rows d r.v=true):aX P f args ⟨fM P r.rows d r.v,[]⟩:=⟨h.1,fun w I vs hI hsz hv=>(h.2 w I vs hI hsz hv).mono fun en w'=>by
 rintro ⟨v,I',ρ',rfl,q1,q2,q3⟩
 have hnoWr:∀ g,¬ Wr dL aF.empty g:=by
  rintro g (⟨b,k,o,h1,_⟩ | h1)
  ·simp [aF.empty] at h1
  ·exact wS h1
 have hk:∀ b x,ρ' b=some x→b < r.rows.length:=fun b x h=>by
  have:=q3.lo b rfl (by rw [h];simp)
  rw [yT] at this
  simp [aF.empty] at this
  exact this
 have hat:∀ b x,ρ' b=some x→∃ k,(d8 P aF.empty r.rows).at_ b=some k∧k.wr=true:=fun b x h=>by
  have hb:=hk b x h
  exact ⟨dS P 0 r.rows[b],by rw [aat,if_pos (by simp [aF.empty];exact hb)];simp [aF.empty,List.getElem?_eq_getElem hb],rfl⟩
 have hnew:∀ g,aaM ρ' g→w.heap.size≤g:=by
  rintro g ⟨b,o,hb⟩
  obtain ⟨k,h1,h2⟩:=hat b _ hb
  rcases q3.own g (.inl ⟨b,k,o,h1,h2,hb⟩) with h | h
  ·exact absurd h (hnoWr g)
  ·exact h
 refine ⟨v,(fun g=>I' g∨aaM ρ' g),dL,rfl,akE q2 hk d r.v v ho q1,⟨fun b k g o h=>by simp [d8,gG,aF.empty] at h,fun b b' k k' g o o' h=>by simp [d8,gG,aF.empty] at h,fun g hg => ?_,j3.none⟩,⟨q3.os,q3.tape,q3.output,q3.size,q3.same,q3.shape,fun g hg => .inl (q3.imm g hg),fun g hg => ?_,fun _ _ h=>h,fun b h1 h2=>absurd h1 h2,fun g hg => ?_,Nat.le_refl _⟩⟩
 ·rcases hg with hg | ⟨b,o,hb⟩
  ·exact q2.lt g hg
  ·obtain ⟨k,h1,h2⟩:=hat b _ hb
   exact q2.ltb h1 hb
 ·rcases hg with hg | hg
  ·exact q3.back g hg
  ·exact .inr (.inr (hnew g hg))
 ·rcases hg with ⟨b,k,o,h1,_⟩ | hg
  ·simp [d8,gG,aF.empty] at h1
  ·exact (wS hg).elim⟩
end
def bJ (n:Nat) (cells:List AV):AV:=if n=0 then aO else .tree n n cells false
theorem dX (n:Nat) (cells:List AV):bC (bJ n cells) n cells:=by
 unfold bJ
 split
 ·rename_i h;exact ⟨.inl ⟨rfl,h⟩⟩
 ·exact ⟨.inr (.inr ⟨n,false,rfl,Nat.le_refl _⟩)⟩
theorem af8 {k n:Nat} {cells:List AV}:shift k (bJ n cells)=bJ n cells:=by
 unfold bJ
 split <;> simp [shift,aO]
theorem akF {P:Program} {t:TypeId} {n:Nat} {cells:List AV} (h:(cD P t).isSome=true):lenE P t (bJ n cells)=some (.val (.int .i64 (n:Nat))):=(dX n cells).len' h
theorem akG {P:Program} {t:TypeId} {n k:Nat} {cells:List AV} (h:(cD P t).isSome=true):lZ P t k (bJ n cells)=(cD P t).bind fun el=>(cH P el).bind fun sz=>if k < n then some (.tptr (k*sz) cells) else none:=(dX n cells).addr' h
theorem aaN {n:Nat} {cells:List AV}:plain (bJ n cells)=true:=(dX n cells).plain
theorem akH {P:Program} {m:aF} {t:TypeId} {n:Nat} {cells:List AV}:slOk P m t (bJ n cells)=true:=(dX n cells).slOk
theorem akI {P:Program} {d c:Bool} {m:aF} {t:TypeId} {n:Nat} {cells:List AV} {lo hi mx:Option AV}:sliceX P d c m t (bJ n cells) lo hi mx=(bH lo).bind fun lo=>(bH hi).bind fun hi=>(bH mx).bind fun mx=>eQ (kI P t lo hi mx (bJ n cells)) m:=(dX n cells).sliceX
theorem bQ:(type_of% @akI)∧(type_of% @af8)∧(type_of% @akF)∧(type_of% @akG)∧(type_of% @akH):=⟨@akI,@af8,@akF,@akG,@akH⟩
theorem aqA {P:Program} (el:TypeId) (n:Nat) (cells:List AV):fM P (i6 el n cells).rows 0 (i6 el n cells).v=bJ n cells:=by
 unfold i6 bJ
 split <;> (unfold fM;simp [aO])
theorem aqB {P:Program} {el:TypeId} (hk:bW P el = .flat) (n:Nat) (cells:List AV):iU P (i6 el n cells).rows 0 (i6 el n cells).v=true:=by
 unfold i6
 split <;> (unfold iU;simp [aO,hk])
structure xD (m:aF) (v:AV) (n:Nat) (cells:List AV):Prop where
 form:bC v n cells∨∃ b off c f k,v = .sl b off n c f∧m.at_ b=some k∧k.kind = .flat∧k.cells.drop off=cells∧n≤c
section
variable {P:Program} {m:aF} {v:AV} {n:Nat} {cells:List AV}
theorem xD.to {m':aF} (h:xD m v n cells) (hm:∀ b k,m.at_ b=some k→∃ wr,m'.at_ b=some ⟨k.cells,k.el,k.kind,wr⟩):xD m' v n cells:=by
 rcases h.form with h | ⟨b,off,c,f,k,h1,h2,h3,h4,h5⟩
 ·exact ⟨.inl h⟩
 ·obtain ⟨wr,h6⟩:=hm b k h2
  exact ⟨.inr ⟨b,off,c,f,_,h1,h6,h3,h4,h5⟩⟩
theorem aqC (h:xD m v n cells) (k:Nat):∃ av,lend k m v=some av∧bC av n cells:=by
 rcases h.form with h | ⟨b,off,c,f,k',rfl,h2,h3,rfl,h5⟩
 ·exact ⟨v,(vK k v h.plain).1,h⟩
 ·refine ⟨.tree n c (k'.cells.drop off) f, ?_,⟨.inr (.inr ⟨c,f,rfl,h5⟩)⟩⟩
  cases k <;> (unfold lend;simp [h2,h3])
theorem lend1 {a:AV} (h:xD m a n cells):∃ av,eM 3 m [a]=some [av]∧bC av n cells:=by
 obtain ⟨av,h1,h2⟩:=aqC h 3
 refine ⟨av, ?_,h2⟩
 unfold eM
 rw [h1]
 unfold eM
 rfl
theorem lend2 {a:AV} (ha:plain a=true) (h:xD m v n cells):∃ av,eM 3 m [a,v]=some [a,av]∧bC av n cells:=by
 obtain ⟨av,h1,h2⟩:=lend1 h
 refine ⟨av, ?_,h2⟩
 unfold eM
 rw [(vK 3 a ha).1,h1]
 rfl
theorem xD.len (h:xD m v n cells) {t:TypeId} (ht:(cD P t).isSome=true):lenE P t v=some (.val (.int .i64 (n:Nat))):=by
 rcases h.form with h | ⟨b,off,c,f,k,rfl,_⟩
 ·exact h.len' ht
 ·obtain ⟨el,hel⟩:=Option.isSome_iff_exists.1 ht
  simp [lenE,hel,rH,aD]
end
def cF:AV→Option Nat
 | .sl b _ _ _ _=>some b
 | _=>none
theorem cQ {v:AV} {n:Nat} {cs:List AV} (h:bC v n cs) (k:Nat):shift k v=v:=by
 rcases h.form with ⟨rfl,_⟩ | ⟨_,_,rfl,_⟩ | ⟨_,_,rfl,_⟩ <;> (try unfold aO) <;> (unfold shift;rfl)
theorem cO.keep {kd:fW} {m m':aF} {el:TypeId} {sz n:Nat} {v:AV} {cells:List AV} (h:cO kd m el sz v n cells) (h1:m.next≤m'.next) (h2:∀ b k,cF v=some b→m.at_ b=some k→m'.at_ b=some k):cO kd m' el sz v n cells:=by
 refine ⟨?_,h.len⟩
 rcases h.form with h1 | ⟨b,rfl,h3,h4,h5⟩
 ·exact .inl h1
 ·exact .inr ⟨b,rfl,h2 b _ rfl h3,by omega,h5⟩
theorem cO.put_kind {kd:fW} {m:aF} {el:TypeId} {sz n:Nat} {v:AV} {cells:List AV} (h:cO kd m el sz v n cells) {j:Nat} {k:eP} {x:Option eP} (hj:m.at_ j=some k) (hk:k.kind≠kd):cO kd (m.put j x) el sz v n cells:=by
 refine ⟨?_,h.len⟩
 rcases h.form with h1 | ⟨b,rfl,h3,h4,h5⟩
 ·exact .inl h1
 ·refine .inr ⟨b,rfl, ?_,h4,h5⟩
  rw [aG,if_neg ?_]
  ·exact h3
  ·rintro rfl
   rw [h3] at hj
   cases hj
   exact hk rfl
theorem cO.ne_kind {kd:fW} {m:aF} {el:TypeId} {sz n:Nat} {v:AV} {cells:List AV} (h:cO kd m el sz v n cells) {j:Nat} {k:eP} (hj:m.at_ j=some k) (hk:k.kind≠kd):cF v≠some j:=by
 intro hb
 rcases h.form with ⟨rfl,_⟩ | ⟨b,rfl,h3,_⟩
 ·cases hb
 ·injection hb with hb
  subst hb
  rw [h3] at hj
  cases hj
  exact hk rfl
theorem cO.sl {kd:fW} {m:aF} {el:TypeId} {sz n:Nat} {v:AV} {cells:List AV} (h:cO kd m el sz v n cells) (hn:0 < n):∃ b,v = .sl b 0 n n false∧m.at_ b=some ⟨cells,el,kd,true⟩∧b < m.next:=by
 rcases h.form with ⟨_,h0,_⟩ | ⟨b,h1,h2,h3,_⟩
 ·omega
 ·exact ⟨b,h1,h2,h3⟩
theorem cO.put_ne {kd:fW} {m:aF} {el:TypeId} {sz n:Nat} {v:AV} {cells:List AV} (h:cO kd m el sz v n cells) {j:Nat} {x:Option eP} (hj:cF v≠some j):cO kd (m.put j x) el sz v n cells:=by
 refine h.keep (Nat.le_refl _) fun b k hb hk => ?_
 rw [aG,if_neg (by rintro rfl;exact hj hb)]
 exact hk
theorem cO.one {kd:fW} {m:aF} {el:TypeId} {sz n:Nat} {v:AV} {cells:List AV} (h:cO kd m el sz v n cells):dF v=true:=by
 rcases h.form with ⟨rfl,_⟩ | ⟨b,rfl,_⟩ <;> rfl
theorem cO.ok {kd:fW} {m:aF} {el:TypeId} {sz n:Nat} {v:AV} {cells:List AV} (h:cO kd m el sz v n cells):fK v=true:=by
 rcases h.form with ⟨rfl,_⟩ | ⟨b,rfl,_⟩ <;> rfl
theorem cO.cells {kd:fW} {m:aF} {el:TypeId} {sz n:Nat} {v:AV} {cells:List AV} (h:cO kd m el sz v n cells):v.cells=[v]:=by
 rcases h.form with ⟨rfl,_⟩ | ⟨b,rfl,_⟩ <;> rfl
theorem uF {P : Program} {kd : fW} {el : TypeId} {m : aF} {v x : AV} {K : bY → Prop} {sz y n cnt : Nat} {zl : List Value} {cells new : List AV} (hkd : bW P el = kd) (ho : cO kd m el sz v n cells) (h1 : cH P el = some sz) (h2 : hY P el = some y) (h3 : eX P el = some zl) (h4 : zl.length = sz) (h5 : eZ P el sz m x = some (new, cnt)) (h6 : new.length = cnt * sz) (h7 : (n + cnt) * y ≤ 140737488355328) (h8 : n + cnt ≤ 140737488355328)
   (hK : ∀ v' m', cO kd m' el sz v' (n + cnt) (cells ++ new) → m.next ≤ m'.next → (∀ j k, m.at_ j = some k → j < m.next → cF v ≠ some j → m'.at_ j = some k) → (∀ j, cF v' = some j → j = m.next ∨ cF v = some j) → m'.mm = m.mm → K ⟨v', m', none⟩) : eG (dW P el m v x) K := by
 have hlen := ho.len
 rcases ho.form with ⟨rfl, rfl, rfl⟩ | ⟨b, rfl, hb, hlt, hn0⟩
 · by_cases hc : cnt = 0
   · subst hc
     have hn : new = [] := List.eq_nil_of_length_eq_zero (by omega)
     subst hn
     have : dW P el m aO x = some ⟨aO, m, none⟩ := by simp [dW, h1, h2, h3, h5, dR, aO, hkd, h4, bO]
     rw [this]
     exact hK _ _ fB (Nat.le_refl _) (fun _ _ h _ _ => h) (fun _ h => .inr h) rfl
   · have : dW P el m aO x = some ⟨.sl m.next 0 (0 + cnt) (0 + cnt) false, m.push ⟨new, el, kd, true⟩, none⟩ := by
       simp only [dW, h1, h2, h3, h5, dR, aO, hkd, Option.bind_some, h7, h8, h4, and_self, if_true, if_neg hc]
       simp [bO]
     rw [this]
     exact hK _ _ ⟨.inr ⟨m.next, rfl, by rw [aH, if_pos rfl]; rfl, by rw [aW]; omega, by omega⟩, by simp [h6]⟩ (by rw [aW]; omega) (fun j k h hj _ => by rw [aH, if_neg (by omega)]; exact h) (fun j h => .inl (by injection h with h; exact h.symm)) rfl
 · have : dW P el m (.sl b 0 n n false) x = some ⟨.sl m.next 0 (n + cnt) (n + cnt) false, (m.put b none).push ⟨cells ++ new, el, kd, true⟩, none⟩ := by
     simp only [dW, h1, h2, h3, h5, dR, hb, hkd, Option.bind_some, h7, h8, h4, and_self, if_true]
     simp [bO, hlen, vA]
   rw [this]
   refine hK _ _ ⟨.inr ⟨m.next, rfl, by rw [aH, aZ, if_pos rfl], by rw [aW, aZ]; omega, by omega⟩, by simp [hlen, h6, Nat.add_mul]⟩ (by rw [aW, aZ]; omega) (fun j k h hj hne => ?_) (fun j h => .inl (by injection h with h; exact h.symm)) rfl
   rw [aH, aZ, if_neg (by omega), aG, if_neg (by rintro rfl; exact hne rfl)]
   exact h
theorem vN {P:Program} {kd:fW} {el:TypeId} {m:aF} {v x:AV} {K:bY→Prop} {sz y n cnt:Nat} {zl:List Value} {cells new:List AV} (hkd:bW P el=kd) (ho:cO kd m el sz v n cells) (h1:cH P el=some sz) (h2:hY P el=some y) (h3:eX P el=some zl) (h4:zl.length=sz) (h5:eZ P el sz m x=some (new,cnt)) (h6:new.length=cnt*sz) (h7:(n+cnt)*y≤140737488355328) (h8:n+cnt≤140737488355328)
 (hK:∀ v' m',cO kd m' el sz v' (n+cnt) (cells++new)→m.next≤m'.next→(∀ j k,m.at_ j=some k→j < m.next→cF v≠some j→m'.at_ j=some k)→(∀ j,cF v'=some j→j=m.next∨cF v=some j)→K ⟨v',m',none⟩):eG (dW P el m v x) K:=uF hkd ho h1 h2 h3 h4 h5 h6 h7 h8 fun v' m' a b c d _=>hK v' m' a b c d
theorem af9 {P : Program} {kd : fW} {el : TypeId} {m : aF} {x : AV} {sz y cnt : Nat} {zl : List Value} {new : List AV} (hkd : bW P el = kd) (h1 : cH P el = some sz) (h2 : hY P el = some y) (h3 : eX P el = some zl) (h4 : zl.length = sz) (h5 : eZ P el sz m x = some (new, cnt)) (h7 : cnt * y ≤ 140737488355328) (h8 : cnt ≤ 140737488355328) (hc : 0 < cnt) :
   dW P el m (.tree 0 0 [] true) x = some ⟨.sl m.next 0 cnt cnt false, m.push ⟨new, el, kd, true⟩, none⟩ := by
 simp only [dW, h1, h2, h3, h5, dR, hkd, Option.bind_some]
 simp [bO, h4, h7, h8, Nat.ne_of_gt hc]
theorem cO.other {kd kd':fW} {m m':aF} {el el':TypeId} {sz sz' n n':Nat} {v v':AV} {cells cells':List AV} (h:cO kd m el sz v n cells) (ho:cO kd' m el' sz' v' n' cells') (hk:kd≠kd') (hn:m.next≤m'.next) (hkeep:∀ j k,m.at_ j=some k→j < m.next→cF v'≠some j→m'.at_ j=some k):cO kd m' el sz v n cells:=by
 refine ⟨?_,h.len⟩
 rcases h.form with h1 | ⟨b,rfl,h3,h4,h5⟩
 ·exact .inl h1
 ·exact .inr ⟨b,rfl,hkeep b _ h3 h4 (ho.ne_kind h3 hk),by omega,h5⟩
def yZ (P:Program) (c:AV):Prop:=∀ (m:aF) (k:Nat) (ids:List (Nat×Nat)) (rows:List (TypeId×List AV)),canon P m k ids rows c=some (c,ids,rows)
theorem adJ {P:Program} (v:Value):yZ P (.val v):=fun m k ids rows=>by cases k <;> (unfold canon;rfl)
theorem aqD {P:Program} (n c:Nat) (cs:List AV) (f:Bool):yZ P (.tree n c cs f):=fun m k ids rows=>by cases k <;> (unfold canon;rfl)
theorem aqE {P:Program} (n:Nat) (cs:List AV):yZ P (bJ n cs):=by
 unfold bJ
 split
 ·exact adJ _
 ·exact aqD _ _ _ _
theorem adK {P:Program} (m:aF) (k:Nat) (ids:List (Nat×Nat)) (rows:List (TypeId×List AV)):∀ (cs:List AV),(∀ c∈cs,yZ P c)→f9 P m k ids rows cs=some (cs,ids,rows)
 | [],_=>by cases k <;> (unfold f9;rfl)
 | c::cs,h=>by
  have h1:=h c (by simp) m k ids rows
  have h2:=adK m k ids rows cs fun x hx=>h x (by simp [hx])
  cases k <;> (unfold f9;simp [h1,h2])
theorem aqF {P:Program} {m:aF} {el:TypeId} {sz n:Nat} {v:AV} {cells:List AV} (hkd:bW P el = .var) (h:cO .var m el sz v n cells) (hs:∀ c∈cells,yZ P c):∃ ids,canon P m 3 [] [] v=some ((i6 el n cells).v,ids,(i6 el n cells).rows):=by
 rcases h.form with ⟨rfl,rfl,rfl⟩ | ⟨b,rfl,hb,hlt,hn⟩
 ·exact ⟨[],by unfold aO canon;rfl⟩
 ·refine ⟨[(b,0)], ?_⟩
  have h1:=adK m 2 [] [] cells hs
  unfold canon
  simp [hb,i6,Nat.ne_of_gt hn,hkd,h1]
theorem aqG {P:Program} {m:aF} {t el el':TypeId} {sz n:Nat} {x:Value} {v:AV} {cells:List AV} {z:List Value} (h:cY m el' sz v n cells) (hx:rF x=true) (h1:cD P t=some el) (h2:cH P el=some 2) (h3:eX P el=some z) (h4:z.length=2):∃ m1,tE P false true m t 1 [(0,.agg [.val x,v])]=some ⟨.tree 1 1 [.val x,bJ n cells] true,m1,none⟩∧m1.next=m.next∧∀ j,cF v≠some j→m1.at_ j=m.at_ j:=by
 match z,h4 with
 | [z1,z2],_ =>
 rcases h.form with ⟨rfl,rfl,rfl⟩ | ⟨b,rfl,hb,hlt,hn⟩
 ·refine ⟨m, ?_,rfl,fun _ _=>rfl⟩
  have:eY P m t 1 [(0,.agg [.val x,aO])]=some ⟨.tree 1 1 [.val x,aO] true,m,none⟩:=by
   simp [eY,h1,h2,h3,i4,List.range_succ,fX,fK,hx,dF,cN,AV.cells,jG,iS,bO,aO,rF]
  rw [afZ (by rw [this];rfl),this]
  rfl
 ·refine ⟨m.put b (some ⟨cells,el',.flat,false⟩), ?_,rfl,fun j hj => ?_⟩
  ·have:eY P m t 1 [(0,.agg [.val x,.sl b 0 n n false])]=none:=by
    simp [eY,h1,h2,h3,i4,List.range_succ,fX,fK,hx,dF,cN,AV.cells,jG,iS]
   rw [aj9 this]
   simp [xA,h1,h2,h3,i4,List.range_succ,fX,fK,hx,dF,cN,AV.cells,fzs,fz,hb,bO,bJ,Nat.ne_of_gt hn]
  ·rw [aG,if_neg (by rintro rfl;exact hj rfl)]
theorem cO.setM {kd:fW} {m:aF} {el:TypeId} {sz n:Nat} {v:AV} {cells:List AV} (h:cO kd m el sz v n cells) (mm:Maps):cO kd (m.setM mm) el sz v n cells:=⟨h.form,h.len⟩
theorem aqH {P:Program} {m:aF} {t el:TypeId} {a:Value} {x:AV} {z:List Value} (hk:bW P el = .var) (ha:rF a=true) (hx:dF x=true) (hx2:x.cells=[x]) (h1:cD P t=some el) (h2:cH P el=some 2) (h3:eX P el=some z) (h4:z.length=2):pH P m t 1 [(0,.agg [.val a,x])]=some ⟨.sl m.next 0 1 1 true,m.push ⟨[.val a,x],el,.var,true⟩,none⟩:=by
 match z,h4 with
 | [z1,z2],_ =>
  simp [pH,hk,h1,h2,h3,i4,List.range_succ,fX,fK,dF,cN,AV.cells,bO]
section
variable {P:Program} {t:TypeId} {k off b:Nat} {cs:List AV}
theorem akJ (h:cD P t=none):lZ P t k (.tptr off cs)=(oN P t).bind fun a=>(cH P a.2).bind fun sz=>if k < a.1 then some (.tptr (off+k*sz) cs) else none:=by simp [lZ,h]
theorem akK (h:cD P t=none):lZ P t k (.ptr b off)=(oN P t).bind fun a=>(cH P a.2).bind fun sz=>if k < a.1 then some (.ptr b (off+k*sz)) else none:=by simp [lZ,h]
theorem d6 {n c:Nat} {f:Bool} (h:(cD P t).isSome=true):lZ P t k (.sl b off n c f)=(cD P t).bind fun el=>(cH P el).bind fun sz=>if k < n then some (.ptr b (off+k*sz)) else none:=by
 obtain ⟨el,hel⟩:=Option.isSome_iff_exists.1 h
 simp [lZ,hel]
theorem akL:aak P t k (.agg cs)=(oN P t).bind fun a=>(cH P a.2).bind fun sz=>if k < a.1 then kV P a.2 cs (k*sz) else none:=rfl
theorem aI:(type_of% @akJ)∧(type_of% @akK)∧(type_of% @akL)∧(type_of% @d6):=⟨@akJ,@akK,@akL,@d6⟩
end
mutual
def fzT:Nat→aF→AV→Option AV
 | _,_,.val v=>some (.val v)
 | _,_,.tree n c cs f=>some (.tree n c cs f)
 | _,_,.tptr o cs=>some (.tptr o cs)
 | _,_,.emp c f=>some (.emp c f)
 | k,m,.agg cs=>(nU k m cs).map .agg
 | k,m,.tup cs=>(nU k m cs).map .tup
 | 0,m,.sl b off len c full=>(m.at_ b).bind fun x=>if x.kind = .flat∧x.wr=true then some (.tree len c (x.cells.drop off) full) else none
 | k+1,m,.sl b off len c full=>(m.at_ b).bind fun x=>if x.wr=true then (match x.kind with
  | .flat=>some (.tree len c (x.cells.drop off) full)
  | .var=>(nU k m (x.cells.drop off)).map fun cs => .tree len c cs full
  | .hole=>none) else none
 | _,_,_=>none
 termination_by k _ v=>(k,SizeOf.sizeOf v)
def nU:Nat→aF→List AV→Option (List AV)
 | _,_,[]=>some []
 | k,m,c::cs=>(fzT k m c).bind fun c'=>(nU k m cs).map (c'::·)
 termination_by k _ v=>(k,SizeOf.sizeOf v)
end
theorem i7 {k:Nat} {m:aF}:nU k m []=some []:=by cases k <;> (rw [nU])
theorem dY {k:Nat} {m:aF} {c:AV} {cs:List AV}:nU k m (c::cs)=(fzT k m c).bind fun c'=>(nU k m cs).map (c'::·):=by cases k <;> (rw [nU])
theorem fZ {k:Nat} {m:aF} {v:Value}:fzT k m (.val v)=some (.val v):=by cases k <;> (rw [fzT])
theorem vO {k:Nat} {m:aF} {n c:Nat} {cs:List AV} {f:Bool}:fzT k m (.tree n c cs f)=some (.tree n c cs f):=by cases k <;> (rw [fzT])
theorem j6 {k:Nat} {m:aF} {cs:List AV}:fzT k m (.tup cs)=(nU k m cs).map .tup:=by cases k <;> (rw [fzT])
theorem aaO {k:Nat} {m:aF} {cs:List AV}:fzT k m (.agg cs)=(nU k m cs).map .agg:=by cases k <;> (rw [fzT])
theorem rU {k:Nat} {m:aF} {b off len c:Nat} {f:Bool} {cells:List AV} {el:TypeId} (h:m.at_ b=some ⟨cells,el,.flat,true⟩):fzT k m (.sl b off len c f)=some (.tree len c (cells.drop off) f):=by
 cases k <;> (rw [fzT];simp [h])
theorem adL {k:Nat} {m:aF} {b off len c:Nat} {f:Bool} {cells cs:List AV} {el:TypeId} (h:m.at_ b=some ⟨cells,el,.var,true⟩) (h2:nU k m (cells.drop off)=some cs):fzT (k+1) m (.sl b off len c f)=some (.tree len c cs f):=by
 rw [fzT];simp [h,h2]
theorem ach {k:Nat} {m:aF} {v:AV} {n:Nat} {cs:List AV} (h:bC v n cs):fzT k m v=some v:=by
 rcases h.form with ⟨rfl,_⟩ | ⟨_,_,rfl,_⟩ | ⟨_,_,rfl,_⟩ <;> (cases k <;> (first | (unfold aO;rw [fzT]) | rw [fzT]))
section
variable {P:Program} {w:World} {I:Nat→Prop} {ρ:cK} {m:aF}
def adM (I:Nat→Prop) (ρ:cK) (m:aF) (g:Nat):Prop:=I g∨∃ b k o,m.at_ b=some k∧k.wr=true∧ρ b=some (g,o)
theorem adN:gT w w I (adM I ρ m):=⟨fun _ h => .inl h,fun _ _=>rfl,fun _ _ h=>h⟩
mutual
theorem aqI:∀ (k:Nat) (av av':AV),fzT k m av=some av'→dF av'=dF av
 | k,.val v,av',hl=>by rw [fZ] at hl;cases hl;rfl
 | k,.tree _ _ _ _,av',hl=>by rw [vO] at hl;cases hl;rfl
 | k,.tptr _ _,av',hl=>by unfold fzT at hl;simp at hl;rw [←hl]
 | k,.emp _ _,av',hl=>by unfold fzT at hl;simp at hl;rw [←hl]
 | k,.agg cs,av',hl=>by rw [aaO] at hl;obtain ⟨cs',hc,rfl⟩:=awD hl;rfl
 | k,.tup cs,av',hl=>by rw [j6] at hl;obtain ⟨cs',hc,rfl⟩:=awD hl;rfl
 | 0,.sl b off len c full,av',hl=>by
  rw [fzT] at hl
  obtain ⟨x,hx,hl⟩:=awC hl
  split at hl
  ·cases hl;rfl
  ·cases hl
 | k+1,.sl b off len c full,av',hl=>by
  rw [fzT] at hl
  obtain ⟨x,hx,hl⟩:=awC hl
  split at hl
  ·split at hl
   ·cases hl;rfl
   ·obtain ⟨cs',hc,rfl⟩:=awD hl;rfl
   ·cases hl
  ·cases hl
 | k,.ptr _ _,av',hl=>by cases k <;> (unfold fzT at hl;cases hl)
 | k,.clo _ _,av',hl=>by cases k <;> (unfold fzT at hl;cases hl)
end
theorem adO:∀ (k:Nat) (cs cs':List AV),nU k m cs=some cs'→cs'.length=cs.length∧(eF cs→eF cs')
 | k,[],cs',hl=>by rw [i7] at hl;cases hl;exact ⟨rfl,fun h=>h⟩
 | k,c::cs,cs',hl=>by
  rw [dY] at hl
  obtain ⟨c',hc,hl⟩:=awC hl
  obtain ⟨cs'',hcs,rfl⟩:=awD hl
  obtain ⟨h1,h2⟩:=adO k cs cs'' hcs
  refine ⟨by simp [h1],fun h x hx => ?_⟩
  rcases List.mem_cons.1 hx with rfl | hx
  ·rw [aqI k c _ hc];exact h c (by simp)
  ·exact h2 (fun y hy=>h y (by simp [hy])) x hx
mutual
theorem akM (hS:SR P w I ρ m):∀ (k:Nat) (av av':AV) (v:Value),fzT k m av=some av'→VR P w I ρ av v→VR P w (adM I ρ m) dL av' v
 | k,.val x,av',v,hl,hv=>by rw [fZ] at hl;cases hl;simpa only [VR] using hv
 | k,.tree a b c d,av',v,hl,hv=>by
  rw [vO] at hl;cases hl
  exact pP adN (fun _ _ h=>h) _ _ (yR _ _ rfl hv)
 | k,.tptr a b,av',v,hl,hv=>by
  unfold fzT at hl;simp at hl;subst hl
  exact pP adN (fun _ _ h=>h) _ _ (yR _ _ rfl hv)
 | k,.emp _ _,av',v,hl,hv=>by unfold fzT at hl;simp at hl;subst hl;simpa only [VR] using hv
 | k,.agg cs,av',v,hl,hv=>by
  rw [aaO] at hl
  obtain ⟨cs',hc,rfl⟩:=awD hl
  simp only [VR] at hv ⊢
  obtain ⟨vs,h1,h2,h3,h4⟩:=hv
  obtain ⟨l1,l2⟩:=adO k cs cs' hc
  exact ⟨vs,h1,by rw [h2,l1],l2 h3,adP hS k cs cs' _ hc h4⟩
 | k,.tup cs,av',v,hl,hv=>by
  rw [j6] at hl
  obtain ⟨cs',hc,rfl⟩:=awD hl
  simp only [VR] at hv ⊢
  obtain ⟨vs,h1,h2,h4⟩:=hv
  obtain ⟨l1,l2⟩:=adO k cs cs' hc
  exact ⟨vs,h1,by rw [h2,l1],adP hS k cs cs' _ hc h4⟩
 | 0,.sl b off len c full,av',v,hl,hv=>by
  rw [fzT] at hl
  obtain ⟨x,hx,hl⟩:=awC hl
  split at hl
  ·rename_i hk
   cases hl
   simp only [VR] at hv ⊢
   obtain ⟨g,o,cap,ty,n,s,hg,rfl,hlc,hf,_⟩:=hv
   have hB:=hS.blk b x g o hx hg
   refine ⟨g,o+off,cap,rfl,.inr ⟨b,x,o,hx,hk.2,hg⟩,hlc,hf,kJ hB.one _, ?_⟩
   exact iB (kX (eL adN (fun _ _ h=>h) _ _ (hB.flatAt hk.1)) off) fun j _=>by rw [Nat.add_assoc]
  ·cases hl
 | k+1,.sl b off len c full,av',v,hl,hv=>by
  rw [fzT] at hl
  obtain ⟨x,hx,hl⟩:=awC hl
  simp only [VR] at hv
  obtain ⟨g,o,cap,ty,n,s,hg,rfl,hlc,hf,_⟩:=hv
  have hB:=hS.blk b x g o hx hg
  split at hl
  ·rename_i hwr
   split at hl
   ·rename_i hk
    cases hl
    simp only [VR]
    refine ⟨g,o+off,cap,rfl,.inr ⟨b,x,o,hx,hwr,hg⟩,hlc,hf,kJ hB.one _, ?_⟩
    exact iB (kX (eL adN (fun _ _ h=>h) _ _ (hB.flatAt hk)) off) fun j _=>by rw [Nat.add_assoc]
   ·obtain ⟨cs',hc,rfl⟩:=awD hl
    simp only [VR]
    obtain ⟨l1,l2⟩:=adO k _ cs' hc
    refine ⟨g,o+off,cap,rfl,.inr ⟨b,x,o,hx,hwr,hg⟩,hlc,hf,l2 (kJ hB.one _), ?_⟩
    exact iB (adP hS k _ cs' _ hc (kX hB.cellsAt off)) fun j _=>by rw [Nat.add_assoc]
   ·cases hl
  ·cases hl
 | k,.ptr _ _,av',v,hl,hv=>by cases k <;> (unfold fzT at hl;cases hl)
 | k,.clo _ _,av',v,hl,hv=>by cases k <;> (unfold fzT at hl;cases hl)
 termination_by k av=>(k,SizeOf.sizeOf av)
theorem adP (hS:SR P w I ρ m):∀ (k:Nat) (cs cs':List AV) (get:Nat→Option Value),nU k m cs=some cs'→bK P w I ρ cs get→bK P w (adM I ρ m) dL cs' get
 | k,[],cs',get,hl,hv=>by rw [i7] at hl;cases hl;simp only [bK]
 | k,c::cs,cs',get,hl,hv=>by
  rw [dY] at hl
  obtain ⟨c',hc,hl⟩:=awC hl
  obtain ⟨cs'',hcs,rfl⟩:=awD hl
  simp only [bK] at hv ⊢
  obtain ⟨⟨v,h1,h2⟩,h3⟩:=hv
  exact ⟨⟨v,h1,akM hS k c c' v hc h2⟩,adP hS k cs cs'' _ hcs h3⟩
 termination_by k cs=>(k,SizeOf.sizeOf cs)
end
theorem eA {f:FuncId} {args:List AV} {r:AV} (h:fA P f args aF.empty fun v m=>∃ k,fzT k m v=some r):aX P f args ⟨r,[]⟩:=⟨h.1,fun w I vs hI hsz hv=>(h.2 w I dL vs ⟨fun b k g o h=>by simp [aF.empty] at h,fun b b' k k' g o o' h=>by simp [aF.empty] at h,hI,j3.none⟩ hsz hv (fun _ _=>rfl)).mono fun en w'=>by
 rintro ⟨v,rv,m',I',ρ',rfl,⟨k,hk⟩,q1,q2,q3,_⟩
 have hnoWr:∀ g,¬ Wr dL aF.empty g:=by
  rintro g (⟨b,k,o,h1,_⟩ | h1)
  ·simp [aF.empty] at h1
  ·exact wS h1
 have hnew:∀ g,(∃ b k o,m'.at_ b=some k∧k.wr=true∧ρ' b=some (g,o))→w.heap.size≤g:=by
  intro g hg
  rcases q3.own g (.inl hg) with h | h
  ·exact absurd h (hnoWr g)
  ·exact h
 refine ⟨v,adM I' ρ' m',dL,rfl,akM q2 k rv r v hk q1,⟨fun b k g o h=>by simp [d8,gG,aF.empty] at h,fun b b' k k' g o o' h=>by simp [d8,gG,aF.empty] at h,fun g hg => ?_,j3.none⟩,⟨q3.os,q3.tape,q3.output,q3.size,q3.same,q3.shape,fun g hg => .inl (q3.imm g hg),fun g hg => ?_,fun _ _ h=>h,fun b h1 h2=>absurd h1 h2,fun g hg => ?_,Nat.le_refl _⟩⟩
 ·rcases hg with hg | ⟨b,k,o,h1,h2,h3⟩
  ·exact q2.lt g hg
  ·exact q2.ltb h1 h3
 ·rcases hg with hg | hg
  ·exact q3.back g hg
  ·exact .inr (.inr (hnew g hg))
 ·rcases hg with ⟨b,k,o,h1,_⟩ | hg
  ·simp [d8,gG,aF.empty] at h1
  ·exact (wS hg).elim⟩
theorem pX {f:FuncId} {args:List AV} {m:aF} {Q Q':AV→aF→Prop} (h:fA P f args m Q) (hq:∀ r m',Q r m'→Q' r m'):fA P f args m Q':=⟨h.1,fun w I ρ vs a b c d=>(h.2 w I ρ vs a b c d).mono fun en w' ⟨v,r,m',I',ρ',e1,e2,e3⟩=>⟨v,r,m',I',ρ',e1,hq _ _ e2,e3⟩⟩
theorem m9 {f:FuncId} {args:List AV} {Q:AV→aF→Prop} {K:bY→Prop} (h:fA P f args m Q) (hk:∀ r m',Q r m'→K ⟨r,m',none⟩):m6 P false f args m K := .inr (.inl ⟨rfl,pX h hk⟩)
theorem pY {f:FuncId} {args:List AV} {r:AV} {m':aF} {d:Bool} {K:bY→Prop} (h:fA P f args m fun v m1=>v=r∧m1=m') (hk:K ⟨r,m',none⟩):m6 P d f args m K := .inr (.inr (.inl ⟨r,m',h,hk⟩))
end
section
variable {P:Program}
theorem aqJ {r:Option bY} {K K':bY→Prop} (hK:∀ o,K o→K' o) (h:eG r K):eG r K':=by
 unfold eG at h ⊢
 split at h
 ·exact hK _ h
 ·exact h
theorem aqK {d:Bool} {f:FuncId} {args:List AV} {m:aF} {K K':bY→Prop} (hK:∀ o,K o→K' o) (h:m6 P d f args m K):m6 P d f args m K':=by
 rcases h with ⟨a,r,h1,h2,h3,h4⟩ | ⟨hd,h⟩ | ⟨r,m',h1,h2⟩ | ⟨r,h1,h2⟩ | ⟨a,m1,r,h1,h2,h3⟩
 ·exact .inl ⟨a,r,h1,h2,h3,hK _ h4⟩
 ·exact .inr (.inl ⟨hd,pX h fun r m' h=>hK _ h⟩)
 ·exact .inr (.inr (.inl ⟨r,m',h1,hK _ h2⟩))
 ·exact .inr (.inr (.inr (.inl ⟨r,h1,hK _ h2⟩)))
 ·exact .inr (.inr (.inr (.inr ⟨a,m1,r,h1,h2,hK _ h3⟩)))
theorem aqL {f:FuncId} {args:List AV} {m:aF} {K K':bY→Prop} (hK:∀ o,K o→K' o) (h:yU P f args m K):yU P f args m K':=by
 obtain ⟨r,h1,h2,h3,h4,h5,h6⟩:=h
 exact ⟨r,h1,h2,h3,h4,h5,hK _ h6⟩
theorem aqM {d c:Bool} {m:aF} {args:List AV} {K K':bY→Prop} (hK:∀ o,K o→K' o) {x:AV} (h:m7 P d c m args K x):m7 P d c m args K' x:=by
 cases x with
 | clo g caps =>
  unfold m7 at h ⊢
  simp only at h ⊢
  split at h
  ·exact aqL hK h
  ·exact aqK hK h
 | _=>exact h.elim
theorem aqN {m:aF} {K K':bY→Prop} (hK:∀ o,K o→K' o) (h:aaz m K):aaz m K':=fun g hg=>hK _ (h g hg)
theorem aqO {m:aF} {t:TypeId} {x:AV} {K K':bY→Prop} (hK:∀ o,K o→K' o) (h:aaA P m t x K):aaA P m t x K':=by
 obtain ⟨gc,h1,h2,h3⟩:=h
 exact ⟨gc,h1,h2,fun r hr=>hK _ (h3 r hr)⟩
theorem aqP {m:aF} {x:AV} {K K':bY→Prop} (hK:∀ o,K o→K' o) (h:aaB m x K):aaB m x K':=by
 obtain ⟨i,h1,h2,h3⟩:=h
 exact ⟨i,h1,fun h=>hK _ (h2 h),fun j e a b=>hK _ (h3 j e a b)⟩
theorem aqQ {d once:Bool} {e:bN} {m:aF} {ty:TypeId} {K K':bY→Prop} (hK:∀ o,K o→K' o) {op:Op} (h:cL P d once e m ty K op):cL P d once e m ty K' op:=by
 unfold cL at h ⊢
 split at h
 all_goals first
  | exact aqJ hK h
  | exact aqM hK h
  | exact h.elim
  | exact ⟨h.1,aqN hK h.2⟩
  | exact ⟨h.1,aqO hK h.2⟩
  | exact ⟨h.1,aqP hK h.2⟩
theorem aga {once:Nat→Bool} {d:Bool} {ops:Array Oper} {Q Q':bN→aF→Prop} (hQ:∀ e m,Q e m→Q' e m):∀ (l:List Oper) (e:bN) (m:aF),iE P once d ops Q l e m→iE P once d ops Q' l e m
 | [],e,m,h=>hQ e m h
 | o::rest,e,m,h=>by
  rw [aiY] at h ⊢
  split at h
  ·rename_i hw
   rw [if_pos hw]
   exact aqQ (fun out ho=>⟨ho.1,aga hQ rest _ _ ho.2⟩) h
  ·rename_i hw
   rw [if_neg hw]
   exact aga hQ rest _ _ h
theorem adQ {K K':bN→aF→Prop} {Q Q':Ex→bN→aF→Prop} (hK:∀ e m,K e m→K' e m) (hQ:∀ x e m,Q x e m→Q' x e m):∀ x e m,pR K Q x e m→pR K' Q' x e m:=by
 intro x e m h
 cases x with
 | normal=>exact hK e m h
 | exit i=>exact hQ _ e m h
 | ret=>exact hQ _ e m h
theorem adR {id:Nat} {Q Q':Ex→bN→aF→Prop} (hQ:∀ x e m,Q x e m→Q' x e m):∀ x e m,oR id Q x e m→oR id Q' x e m:=by
 intro x e m h
 cases x with
 | normal=>exact hQ _ e m h
 | exit i =>
  simp only [oR] at h ⊢
  split at h
  ·rename_i hi;rw [if_pos hi];exact hQ _ e m h
  ·rename_i hi;rw [if_neg hi];exact hQ _ e m h
 | ret=>exact hQ _ e m h
theorem akN {once:Nat→Bool} {n:Nat}:∀ (c:Code) (Q Q':Ex→bN→aF→Prop) (e:bN) (m:aF),(∀ x e m,Q x e m→Q' x e m)→eJ P once n c Q e m→eJ P once n c Q' e m:=by
 intro c
 induction c with
 | skip=>exact fun Q Q' e m hQ h=>hQ _ e m h
 | label l=>exact fun Q Q' e m hQ h=>hQ _ e m h
 | region id ops d=>exact fun Q Q' e m hQ h=>aga (hQ .normal) _ e m h
 | seq x y ihx ihy=>exact fun Q Q' e m hQ h=>ihx _ _ e m (adQ (fun e m h=>ihy _ _ e m hQ h) hQ) h
 | cond c x y ihx ihy =>
  intro Q Q' e m hQ h
  simp only [eJ] at h ⊢
  unfold aaE at h ⊢
  split at h
  ·exact ⟨fun a=>ihx _ _ e m hQ (h.1 a),fun a=>ihy _ _ e m hQ (h.2 a)⟩
  ·exact h
 | block id b ih=>exact fun Q Q' e m hQ h=>ih _ _ e m (adR hQ) h
 | loop b ih =>
  intro Q Q' e m hQ h
  obtain ⟨J,k,h1,h2⟩:=h
  exact ⟨J,k,h1,fun n e m hj=>ih _ _ e m (adQ (fun _ _ h=>h) hQ) (h2 n e m hj)⟩
 | exit id=>exact fun Q Q' e m hQ h=>hQ _ e m h
 | ret=>exact fun Q Q' e m hQ h=>hQ _ e m h
 | scope b ih=>exact fun Q Q' e m hQ h=>ih _ _ e m hQ h
 | goto l=>exact fun Q Q' e m hQ h=>h.elim
 | refuse s=>exact fun Q Q' e m hQ h=>h.elim
 | rangeFunc f ps x y=>exact fun Q Q' e m hQ h=>h.elim
theorem xE {once:Nat→Bool} {n id:Nat} {b:Code} {K:bN→aF→Prop} {Q:Ex→bN→aF→Prop} {e:bN} {m:aF} (R:bN→aF→Prop) (h2:∀ e m,R e m→K e m) (h1:yV (eJ P once n b) (oR id (pR R Q)) e m):yV (eJ P once n b) (oR id (pR K Q)) e m :=
 akN (.loop b) _ _ e m (adR (adQ h2 fun _ _ _ h=>h)) h1
end
end Go.Tw