import Derived.Test.YtgcicholalgbiaaGreatLrcG10
import Derived.Lib.Overlaps
set_option linter.unusedVariables false
set_option linter.unusedSimpArgs false
namespace Go.Tw
open Go
structure Gets (P:Program) (m:Mem) (v:AV) (m':Mem) (v':AV):Prop where
 next:m.next≤m'.next
 to:∀ (w:World) (I:Nat→Prop) (ρ:Real) (x:Value),SR P w I ρ m→VR P w I ρ v x→(∀ b,m.next≤b→ρ b=none)→∃ ρ',SR P w I ρ' m'∧VR P w I ρ' v' x∧Step w I ρ m w I ρ' m'∧∀ b,m'.next≤b→ρ' b=none
section
variable {P:Program} {m m' m'':Mem} {v v' v'':AV}
theorem Gets.refl (m:Mem) (v:AV):Gets P m v m v:=⟨Nat.le_refl _,fun w I ρ x hS hv hf=>⟨ρ,hS,hv,Step.refl _ _ _ _,hf⟩⟩
theorem Gets.trans (h:Gets P m v m' v') (h':Gets P m' v' m'' v''):Gets P m v m'' v'':=⟨Nat.le_trans h.next h'.next,fun w I ρ x hS hv hf=>by
 obtain ⟨ρ1,a1,a2,a3,a4⟩:=h.to w I ρ x hS hv hf
 obtain ⟨ρ2,b1,b2,b3,b4⟩:=h'.to w I ρ1 x a1 a2 a4
 exact ⟨ρ2,b1,b2,a3.trans b3,b4⟩⟩
end
mutual
def fzV (P:Program) (rows:List (TypeId×List AV)):Nat→AV→AV
 | 0,.sl b off n c f => .tree n c ((rows.getD b (0,[])).2.drop off) f
 | d+1,.sl b off n c f => .tree n c ((if kindT P (rows.getD b (0,[])).1 = .flat then (rows.getD b (0,[])).2 else fzVs P rows d (rows.getD b (0,[])).2).drop off) f
 | d,.agg cs => .agg (fzVs P rows d cs)
 | d,.tup cs => .tup (fzVs P rows d cs)
 | _,.val v => .val v
 | _,.tree a b c d => .tree a b c d
 | _,.tptr a b => .tptr a b
 | _,.emp a b => .emp a b
 | _,.ptr a b => .ptr a b
 | _,.clo f cs => .clo f cs
 termination_by d v=>(d,SizeOf.sizeOf v)
def fzVs (P:Program) (rows:List (TypeId×List AV)):Nat→List AV→List AV
 | _,[]=>[]
 | d,c::cs=>fzV P rows d c::fzVs P rows d cs
 termination_by d v=>(d,SizeOf.sizeOf v)
end
mutual
def fzOk (P:Program) (rows:List (TypeId×List AV)):Nat→AV→Bool
 | _,.val _=>true
 | _,.tree .. => true
 | _,.tptr .. => true
 | _,.emp .. => true
 | 0,.sl b _ _ _ _=>decide (kindT P (rows.getD b (0,[])).1 = .flat)
 | d+1,.sl b _ _ _ _=>decide (kindT P (rows.getD b (0,[])).1 = .flat) || fzOks P rows d (rows.getD b (0,[])).2
 | d,.agg cs=>fzOks P rows d cs
 | d,.tup cs=>fzOks P rows d cs
 | _,_=>false
 termination_by d v=>(d,SizeOf.sizeOf v)
def fzOks (P:Program) (rows:List (TypeId×List AV)):Nat→List AV→Bool
 | _,[]=>true
 | d,c::cs=>fzOk P rows d c && fzOks P rows d cs
 termination_by d v=>(d,SizeOf.sizeOf v)
end
section
variable {P:Program} {w:World} {I:Nat→Prop} {ρ:Real} {rows:List (TypeId×List AV)}
theorem fzVs_len (d:Nat):∀ cs:List AV,(fzVs P rows d cs).length=cs.length
 | []=>by unfold fzVs;rfl
 | c::cs=>by unfold fzVs;simp [fzVs_len d cs]
theorem fzV_one (d:Nat) (v:AV):oneA (fzV P rows d v)=oneA v:=by
 cases v <;> (cases d <;> (unfold fzV;rfl))
theorem fzVs_one (d:Nat):∀ (cs:List AV),AllOne cs→AllOne (fzVs P rows d cs)
 | [],h=>by unfold fzVs;exact h
 | c::cs,h=>fun x hx=>by
  unfold fzVs at hx
  rcases List.mem_cons.1 hx with rfl | hx
  ·rw [fzV_one];exact h c (by simp)
  ·exact fzVs_one d cs (fun y hy=>h y (by simp [hy])) x hx
def rowG (ρ:Real) (g:Nat):Prop:=∃ b o,ρ b=some (g,o)
theorem row_at (hS:SR P w I ρ (pushAll P Mem.empty rows)) (hk:∀ b x,ρ b=some x→b < rows.length) {b g o:Nat} (hg:ρ b=some (g,o)):∃ r,rows.getD b (0,[])=r∧BR P w I ρ ⟨r.2,r.1,kindT P r.1,true⟩ g o:=by
 have hb:=hk b _ hg
 have hat:(pushAll P Mem.empty rows).at_ b=some (rowB P 0 rows[b]):=by
  rw [pushAll_at,if_pos (by simp [Mem.empty];exact hb)]
  simp [Mem.empty,List.getElem?_eq_getElem hb]
 have hB:=hS.blk b _ g o hat hg
 rw [rowB_zero] at hB
 exact ⟨rows[b],by simp [List.getD_eq_getElem?_getD,List.getElem?_eq_getElem hb],hB⟩
theorem keeps_or:Keeps w w I (fun g=>I g∨rowG ρ g):=⟨fun _ h => .inl h,fun _ _=>rfl,fun _ _ h=>h⟩
theorem fz_flat {r:TypeId×List AV} {g o off:Nat} (hB:BR P w I ρ ⟨r.2,r.1,kindT P r.1,true⟩ g o) (hf:kindT P r.1 = .flat):VRs P w (fun g=>I g∨rowG ρ g) noneR (r.2.drop off) (fun j=>w.cell? ⟨g,o+off+j,none⟩):=by
 have h3:=VRs_drop (BR.flatAt hB hf) off
 exact VRs_congr (VRs_keep keeps_or (fun _ _ h=>h) _ _ h3) fun j _=>by rw [Nat.add_assoc]
mutual
theorem fzV_VR (hS:SR P w I ρ (pushAll P Mem.empty rows)) (hk:∀ b x,ρ b=some x→b < rows.length):∀ (d:Nat) (av:AV) (v:Value),fzOk P rows d av=true→VR P w I ρ av v→VR P w (fun g=>I g∨rowG ρ g) noneR (fzV P rows d av) v
 | d,.val x,v,_,hv=>by unfold fzV;simpa only [VR] using hv
 | d,.tree n c cs f,v,_,hv=>by
  rw [show fzV P rows d (.tree n c cs f) = .tree n c cs f by cases d <;> (unfold fzV;rfl)]
  exact VR_keep keeps_or (fun _ _ h=>h) _ _ (noRef_VR (.tree n c cs f) v rfl hv)
 | d,.tptr o cs,v,_,hv=>by
  rw [show fzV P rows d (.tptr o cs) = .tptr o cs by cases d <;> (unfold fzV;rfl)]
  exact VR_keep keeps_or (fun _ _ h=>h) _ _ (noRef_VR (.tptr o cs) v rfl hv)
 | d,.emp _ _,v,_,hv=>by unfold fzV;simpa only [VR] using hv
 | d,.agg cs,v,h,hv=>by
  unfold fzOk at h
  unfold fzV
  simp only [VR] at hv ⊢
  obtain ⟨vs,h1,h2,h3,h4⟩:=hv
  exact ⟨vs,h1,by rw [h2,fzVs_len],fzVs_one d cs h3,fzVs_VR hS hk d cs _ h h4⟩
 | d,.tup cs,v,h,hv=>by
  unfold fzOk at h
  unfold fzV
  simp only [VR] at hv ⊢
  obtain ⟨vs,h1,h2,h4⟩:=hv
  exact ⟨vs,h1,by rw [h2,fzVs_len],fzVs_VR hS hk d cs _ h h4⟩
 | 0,.sl b off n c f,v,h,hv=>by
  unfold fzOk at h
  unfold fzV
  simp only [VR] at hv ⊢
  obtain ⟨g,o,cap,ty,n',s,hg,rfl,h1,h2,_⟩:=hv
  obtain ⟨r,hr,hB⟩:=row_at hS hk hg
  rw [hr] at h ⊢
  exact ⟨g,o+off,cap,rfl,.inr ⟨b,o,hg⟩,h1,h2,AllOne_drop hB.one _,fz_flat hB (of_decide_eq_true h)⟩
 | d+1,.sl b off n c f,v,h,hv=>by
  unfold fzOk at h
  unfold fzV
  simp only [VR] at hv ⊢
  obtain ⟨g,o,cap,ty,n',s,hg,rfl,h1,h2,_⟩:=hv
  obtain ⟨r,hr,hB⟩:=row_at hS hk hg
  rw [hr] at h ⊢
  by_cases hf:kindT P r.1 = .flat
  ·rw [if_pos hf]
   exact ⟨g,o+off,cap,rfl,.inr ⟨b,o,hg⟩,h1,h2,AllOne_drop hB.one _,fz_flat hB hf⟩
  ·rw [if_neg hf]
   rw [decide_eq_false hf,Bool.false_or] at h
   refine ⟨g,o+off,cap,rfl,.inr ⟨b,o,hg⟩,h1,h2,AllOne_drop (fzVs_one d _ hB.one) _, ?_⟩
   have h3:=VRs_drop (fzVs_VR hS hk d r.2 _ h hB.cellsAt) off
   exact VRs_congr h3 fun j _=>by rw [Nat.add_assoc]
 | d,.ptr _ _,v,h,hv=>by unfold fzOk at h;cases h
 | d,.clo _ _,v,h,hv=>by unfold fzOk at h;cases h
 termination_by d av=>(d,SizeOf.sizeOf av)
theorem fzVs_VR (hS:SR P w I ρ (pushAll P Mem.empty rows)) (hk:∀ b x,ρ b=some x→b < rows.length):∀ (d:Nat) (cs:List AV) (get:Nat→Option Value),fzOks P rows d cs=true→VRs P w I ρ cs get→VRs P w (fun g=>I g∨rowG ρ g) noneR (fzVs P rows d cs) get
 | d,[],get,_,hv=>by unfold fzVs;simp only [VRs]
 | d,c::cs,get,h,hv=>by
  unfold fzOks at h
  simp only [Bool.and_eq_true] at h
  unfold fzVs
  simp only [VRs] at hv ⊢
  obtain ⟨⟨v,h1,h2⟩,h3⟩:=hv
  exact ⟨⟨v,h1,fzV_VR hS hk d c v h.1 h2⟩,fzVs_VR hS hk d cs _ h.2 h3⟩
 termination_by d cs=>(d,SizeOf.sizeOf cs)
end
theorem fspec_frozen {f:FuncId} {args:List AV} {r:Res} (d:Nat) (h:FSpec P f args r) (ho:fzOk P r.rows d r.v=true):FSpec P f args ⟨fzV P r.rows d r.v,[]⟩:=⟨h.1,fun w I vs hI hsz hv=>(h.2 w I vs hI hsz hv).mono fun en w'=>by
 rintro ⟨v,I',ρ',rfl,q1,q2,q3⟩
 have hnoWr:∀ g,¬ Wr noneR Mem.empty g:=by
  rintro g (⟨b,k,o,h1,_⟩ | h1)
  ·simp [Mem.empty] at h1
  ·exact empty_has h1
 have hk:∀ b x,ρ' b=some x→b < r.rows.length:=fun b x h=>by
  have:=q3.lo b rfl (by rw [h];simp)
  rw [pushAll_next] at this
  simp [Mem.empty] at this
  exact this
 have hat:∀ b x,ρ' b=some x→∃ k,(pushAll P Mem.empty r.rows).at_ b=some k∧k.wr=true:=fun b x h=>by
  have hb:=hk b x h
  exact ⟨rowB P 0 r.rows[b],by rw [pushAll_at,if_pos (by simp [Mem.empty];exact hb)];simp [Mem.empty,List.getElem?_eq_getElem hb],rfl⟩
 have hnew:∀ g,rowG ρ' g→w.heap.size≤g:=by
  rintro g ⟨b,o,hb⟩
  obtain ⟨k,h1,h2⟩:=hat b _ hb
  rcases q3.own g (.inl ⟨b,k,o,h1,h2,hb⟩) with h | h
  ·exact absurd h (hnoWr g)
  ·exact h
 refine ⟨v,(fun g=>I' g∨rowG ρ' g),noneR,rfl,fzV_VR q2 hk d r.v v ho q1,⟨fun b k g o h=>by simp [pushAll,pushFrom,Mem.empty] at h,fun b b' k k' g o o' h=>by simp [pushAll,pushFrom,Mem.empty] at h,fun g hg => ?_,MRs.none⟩,⟨q3.os,q3.tape,q3.output,q3.size,q3.same,q3.shape,fun g hg => .inl (q3.imm g hg),fun g hg => ?_,fun _ _ h=>h,fun b h1 h2=>absurd h1 h2,fun g hg => ?_,Nat.le_refl _⟩⟩
 ·rcases hg with hg | ⟨b,o,hb⟩
  ·exact q2.lt g hg
  ·obtain ⟨k,h1,h2⟩:=hat b _ hb
   exact q2.ltb h1 hb
 ·rcases hg with hg | hg
  ·exact q3.back g hg
  ·exact .inr (.inr (hnew g hg))
 ·rcases hg with ⟨b,k,o,h1,_⟩ | hg
  ·simp [pushAll,pushFrom,Mem.empty] at h1
  ·exact (empty_has hg).elim⟩
end
def treeR (n:Nat) (cells:List AV):AV:=if n=0 then nilS else .tree n n cells false
theorem treeR_rd (n:Nat) (cells:List AV):RdSl (treeR n cells) n cells:=by
 unfold treeR
 split
 ·rename_i h;exact ⟨.inl ⟨rfl,h⟩⟩
 ·exact ⟨.inr (.inr ⟨n,false,rfl,Nat.le_refl _⟩)⟩
theorem shift_treeR {k n:Nat} {cells:List AV}:shift k (treeR n cells)=treeR n cells:=by
 unfold treeR
 split <;> simp [shift,nilS]
theorem len_treeR {P:Program} {t:TypeId} {n:Nat} {cells:List AV} (h:(elE P t).isSome=true):lenE P t (treeR n cells)=some (.val (.int .i64 (n:Nat))):=(treeR_rd n cells).len' h
theorem addr_treeR {P:Program} {t:TypeId} {n k:Nat} {cells:List AV} (h:(elE P t).isSome=true):addrE P t k (treeR n cells)=(elE P t).bind fun el=>(szE P el).bind fun sz=>if k < n then some (.tptr (k*sz) cells) else none:=(treeR_rd n cells).addr' h
theorem plain_treeR {n:Nat} {cells:List AV}:plain (treeR n cells)=true:=(treeR_rd n cells).plain
theorem slOk_treeR {P:Program} {m:Mem} {t:TypeId} {n:Nat} {cells:List AV}:slOk P m t (treeR n cells)=true:=(treeR_rd n cells).slOk
theorem sliceX_treeR {P:Program} {d c:Bool} {m:Mem} {t:TypeId} {n:Nat} {cells:List AV} {lo hi mx:Option AV}:sliceX P d c m t (treeR n cells) lo hi mx=(optNat lo).bind fun lo=>(optNat hi).bind fun hi=>(optNat mx).bind fun mx=>outO (sliceE P t lo hi mx (treeR n cells)) m:=(treeR_rd n cells).sliceX
theorem postFz:(type_of% @sliceX_treeR)∧(type_of% @shift_treeR)∧(type_of% @len_treeR)∧(type_of% @addr_treeR)∧(type_of% @slOk_treeR):=⟨@sliceX_treeR,@shift_treeR,@len_treeR,@addr_treeR,@slOk_treeR⟩
theorem fz_ownR {P:Program} (el:TypeId) (n:Nat) (cells:List AV):fzV P (ownR el n cells).rows 0 (ownR el n cells).v=treeR n cells:=by
 unfold ownR treeR
 split <;> (unfold fzV;simp [nilS])
theorem fz_ownR_ok {P:Program} {el:TypeId} (hk:kindT P el = .flat) (n:Nat) (cells:List AV):fzOk P (ownR el n cells).rows 0 (ownR el n cells).v=true:=by
 unfold ownR
 split <;> (unfold fzOk;simp [nilS,hk])
structure Has (m:Mem) (v:AV) (n:Nat) (cells:List AV):Prop where
 form:RdSl v n cells∨∃ b off c f k,v = .sl b off n c f∧m.at_ b=some k∧k.kind = .flat∧k.cells.drop off=cells∧n≤c
section
variable {P:Program} {m:Mem} {v:AV} {n:Nat} {cells:List AV}
theorem Has.to {m':Mem} (h:Has m v n cells) (hm:∀ b k,m.at_ b=some k→∃ wr,m'.at_ b=some ⟨k.cells,k.el,k.kind,wr⟩):Has m' v n cells:=by
 rcases h.form with h | ⟨b,off,c,f,k,h1,h2,h3,h4,h5⟩
 ·exact ⟨.inl h⟩
 ·obtain ⟨wr,h6⟩:=hm b k h2
  exact ⟨.inr ⟨b,off,c,f,_,h1,h6,h3,h4,h5⟩⟩
theorem has_lend (h:Has m v n cells) (k:Nat):∃ av,lend k m v=some av∧RdSl av n cells:=by
 rcases h.form with h | ⟨b,off,c,f,k',rfl,h2,h3,rfl,h5⟩
 ·exact ⟨v,(plain_lend k v h.plain).1,h⟩
 ·refine ⟨.tree n c (k'.cells.drop off) f, ?_,⟨.inr (.inr ⟨c,f,rfl,h5⟩)⟩⟩
  cases k <;> (unfold lend;simp [h2,h3])
theorem lend1 {a:AV} (h:Has m a n cells):∃ av,lends 3 m [a]=some [av]∧RdSl av n cells:=by
 obtain ⟨av,h1,h2⟩:=has_lend h 3
 refine ⟨av, ?_,h2⟩
 unfold lends
 rw [h1]
 unfold lends
 rfl
theorem lend2 {a:AV} (ha:plain a=true) (h:Has m v n cells):∃ av,lends 3 m [a,v]=some [a,av]∧RdSl av n cells:=by
 obtain ⟨av,h1,h2⟩:=lend1 h
 refine ⟨av, ?_,h2⟩
 unfold lends
 rw [(plain_lend 3 a ha).1,h1]
 rfl
theorem Has.len (h:Has m v n cells) {t:TypeId} (ht:(elE P t).isSome=true):lenE P t v=some (.val (.int .i64 (n:Nat))):=by
 rcases h.form with h | ⟨b,off,c,f,k,rfl,_⟩
 ·exact h.len' ht
 ·obtain ⟨el,hel⟩:=Option.isSome_iff_exists.1 ht
  simp [lenE,hel,slLen,intV]
end
def blkOf:AV→Option Nat
 | .sl b _ _ _ _=>some b
 | _=>none
theorem rd_shift {v:AV} {n:Nat} {cs:List AV} (h:RdSl v n cs) (k:Nat):shift k v=v:=by
 rcases h.form with ⟨rfl,_⟩ | ⟨_,_,rfl,_⟩ | ⟨_,_,rfl,_⟩ <;> (try unfold nilS) <;> (unfold shift;rfl)
theorem OwnK.keep {kd:Kind} {m m':Mem} {el:TypeId} {sz n:Nat} {v:AV} {cells:List AV} (h:OwnK kd m el sz v n cells) (h1:m.next≤m'.next) (h2:∀ b k,blkOf v=some b→m.at_ b=some k→m'.at_ b=some k):OwnK kd m' el sz v n cells:=by
 refine ⟨?_,h.len⟩
 rcases h.form with h1 | ⟨b,rfl,h3,h4,h5⟩
 ·exact .inl h1
 ·exact .inr ⟨b,rfl,h2 b _ rfl h3,by omega,h5⟩
theorem OwnK.put_kind {kd:Kind} {m:Mem} {el:TypeId} {sz n:Nat} {v:AV} {cells:List AV} (h:OwnK kd m el sz v n cells) {j:Nat} {k:Blk} {x:Option Blk} (hj:m.at_ j=some k) (hk:k.kind≠kd):OwnK kd (m.put j x) el sz v n cells:=by
 refine ⟨?_,h.len⟩
 rcases h.form with h1 | ⟨b,rfl,h3,h4,h5⟩
 ·exact .inl h1
 ·refine .inr ⟨b,rfl, ?_,h4,h5⟩
  rw [put_at,if_neg ?_]
  ·exact h3
  ·rintro rfl
   rw [h3] at hj
   cases hj
   exact hk rfl
theorem OwnK.ne_kind {kd:Kind} {m:Mem} {el:TypeId} {sz n:Nat} {v:AV} {cells:List AV} (h:OwnK kd m el sz v n cells) {j:Nat} {k:Blk} (hj:m.at_ j=some k) (hk:k.kind≠kd):blkOf v≠some j:=by
 intro hb
 rcases h.form with ⟨rfl,_⟩ | ⟨b,rfl,h3,_⟩
 ·cases hb
 ·injection hb with hb
  subst hb
  rw [h3] at hj
  cases hj
  exact hk rfl
theorem OwnK.sl {kd:Kind} {m:Mem} {el:TypeId} {sz n:Nat} {v:AV} {cells:List AV} (h:OwnK kd m el sz v n cells) (hn:0 < n):∃ b,v = .sl b 0 n n false∧m.at_ b=some ⟨cells,el,kd,true⟩∧b < m.next:=by
 rcases h.form with ⟨_,h0,_⟩ | ⟨b,h1,h2,h3,_⟩
 ·omega
 ·exact ⟨b,h1,h2,h3⟩
theorem OwnK.put_ne {kd:Kind} {m:Mem} {el:TypeId} {sz n:Nat} {v:AV} {cells:List AV} (h:OwnK kd m el sz v n cells) {j:Nat} {x:Option Blk} (hj:blkOf v≠some j):OwnK kd (m.put j x) el sz v n cells:=by
 refine h.keep (Nat.le_refl _) fun b k hb hk => ?_
 rw [put_at,if_neg (by rintro rfl;exact hj hb)]
 exact hk
theorem OwnK.one {kd:Kind} {m:Mem} {el:TypeId} {sz n:Nat} {v:AV} {cells:List AV} (h:OwnK kd m el sz v n cells):oneA v=true:=by
 rcases h.form with ⟨rfl,_⟩ | ⟨b,rfl,_⟩ <;> rfl
theorem OwnK.ok {kd:Kind} {m:Mem} {el:TypeId} {sz n:Nat} {v:AV} {cells:List AV} (h:OwnK kd m el sz v n cells):okA v=true:=by
 rcases h.form with ⟨rfl,_⟩ | ⟨b,rfl,_⟩ <;> rfl
theorem OwnK.cells {kd:Kind} {m:Mem} {el:TypeId} {sz n:Nat} {v:AV} {cells:List AV} (h:OwnK kd m el sz v n cells):v.cells=[v]:=by
 rcases h.form with ⟨rfl,_⟩ | ⟨b,rfl,_⟩ <;> rfl
theorem app_keepM {P : Program} {kd : Kind} {el : TypeId} {m : Mem} {v x : AV} {K : Out → Prop} {sz y n cnt : Nat} {zl : List Value} {cells new : List AV} (hkd : kindT P el = kd) (ho : OwnK kd m el sz v n cells) (h1 : szE P el = some sz) (h2 : byE P el = some y) (h3 : zeroE P el = some zl) (h4 : zl.length = sz) (h5 : srcE P el sz m x = some (new, cnt)) (h6 : new.length = cnt * sz) (h7 : (n + cnt) * y ≤ 140737488355328) (h8 : n + cnt ≤ 140737488355328)
   (hK : ∀ v' m', OwnK kd m' el sz v' (n + cnt) (cells ++ new) → m.next ≤ m'.next → (∀ j k, m.at_ j = some k → j < m.next → blkOf v ≠ some j → m'.at_ j = some k) → (∀ j, blkOf v' = some j → j = m.next ∨ blkOf v = some j) → m'.mm = m.mm → K ⟨v', m', none⟩) : outW (appE P el m v x) K := by
 have hlen := ho.len
 rcases ho.form with ⟨rfl, rfl, rfl⟩ | ⟨b, rfl, hb, hlt, hn0⟩
 · by_cases hc : cnt = 0
   · subst hc
     have hn : new = [] := List.eq_nil_of_length_eq_zero (by omega)
     subst hn
     have : appE P el m nilS x = some ⟨nilS, m, none⟩ := by simp [appE, h1, h2, h3, h5, slView, nilS, hkd, h4, outV]
     rw [this]
     exact hK _ _ own_nil (Nat.le_refl _) (fun _ _ h _ _ => h) (fun _ h => .inr h) rfl
   · have : appE P el m nilS x = some ⟨.sl m.next 0 (0 + cnt) (0 + cnt) false, m.push ⟨new, el, kd, true⟩, none⟩ := by
       simp only [appE, h1, h2, h3, h5, slView, nilS, hkd, Option.bind_some, h7, h8, h4, and_self, if_true, if_neg hc]
       simp [outV]
     rw [this]
     exact hK _ _ ⟨.inr ⟨m.next, rfl, by rw [push_at, if_pos rfl]; rfl, by rw [push_next]; omega, by omega⟩, by simp [h6]⟩ (by rw [push_next]; omega) (fun j k h hj _ => by rw [push_at, if_neg (by omega)]; exact h) (fun j h => .inl (by injection h with h; exact h.symm)) rfl
 · have : appE P el m (.sl b 0 n n false) x = some ⟨.sl m.next 0 (n + cnt) (n + cnt) false, (m.put b none).push ⟨cells ++ new, el, kd, true⟩, none⟩ := by
     simp only [appE, h1, h2, h3, h5, slView, hb, hkd, Option.bind_some, h7, h8, h4, and_self, if_true]
     simp [outV, hlen, tight]
   rw [this]
   refine hK _ _ ⟨.inr ⟨m.next, rfl, by rw [push_at, put_next, if_pos rfl], by rw [push_next, put_next]; omega, by omega⟩, by simp [hlen, h6, Nat.add_mul]⟩ (by rw [push_next, put_next]; omega) (fun j k h hj hne => ?_) (fun j h => .inl (by injection h with h; exact h.symm)) rfl
   rw [push_at, put_next, if_neg (by omega), put_at, if_neg (by rintro rfl; exact hne rfl)]
   exact h
theorem app_keep {P:Program} {kd:Kind} {el:TypeId} {m:Mem} {v x:AV} {K:Out→Prop} {sz y n cnt:Nat} {zl:List Value} {cells new:List AV} (hkd:kindT P el=kd) (ho:OwnK kd m el sz v n cells) (h1:szE P el=some sz) (h2:byE P el=some y) (h3:zeroE P el=some zl) (h4:zl.length=sz) (h5:srcE P el sz m x=some (new,cnt)) (h6:new.length=cnt*sz) (h7:(n+cnt)*y≤140737488355328) (h8:n+cnt≤140737488355328)
 (hK:∀ v' m',OwnK kd m' el sz v' (n+cnt) (cells++new)→m.next≤m'.next→(∀ j k,m.at_ j=some k→j < m.next→blkOf v≠some j→m'.at_ j=some k)→(∀ j,blkOf v'=some j→j=m.next∨blkOf v=some j)→K ⟨v',m',none⟩):outW (appE P el m v x) K:=app_keepM hkd ho h1 h2 h3 h4 h5 h6 h7 h8 fun v' m' a b c d _=>hK v' m' a b c d
theorem app_none {P : Program} {kd : Kind} {el : TypeId} {m : Mem} {x : AV} {sz y cnt : Nat} {zl : List Value} {new : List AV} (hkd : kindT P el = kd) (h1 : szE P el = some sz) (h2 : byE P el = some y) (h3 : zeroE P el = some zl) (h4 : zl.length = sz) (h5 : srcE P el sz m x = some (new, cnt)) (h7 : cnt * y ≤ 140737488355328) (h8 : cnt ≤ 140737488355328) (hc : 0 < cnt) :
   appE P el m (.tree 0 0 [] true) x = some ⟨.sl m.next 0 cnt cnt false, m.push ⟨new, el, kd, true⟩, none⟩ := by
 simp only [appE, h1, h2, h3, h5, slView, hkd, Option.bind_some]
 simp [outV, h4, h7, h8, Nat.ne_of_gt hc]
theorem OwnK.other {kd kd':Kind} {m m':Mem} {el el':TypeId} {sz sz' n n':Nat} {v v':AV} {cells cells':List AV} (h:OwnK kd m el sz v n cells) (ho:OwnK kd' m el' sz' v' n' cells') (hk:kd≠kd') (hn:m.next≤m'.next) (hkeep:∀ j k,m.at_ j=some k→j < m.next→blkOf v'≠some j→m'.at_ j=some k):OwnK kd m' el sz v n cells:=by
 refine ⟨?_,h.len⟩
 rcases h.form with h1 | ⟨b,rfl,h3,h4,h5⟩
 ·exact .inl h1
 ·exact .inr ⟨b,rfl,hkeep b _ h3 h4 (ho.ne_kind h3 hk),by omega,h5⟩
def Still (P:Program) (c:AV):Prop:=∀ (m:Mem) (k:Nat) (ids:List (Nat×Nat)) (rows:List (TypeId×List AV)),canon P m k ids rows c=some (c,ids,rows)
theorem still_val {P:Program} (v:Value):Still P (.val v):=fun m k ids rows=>by cases k <;> (unfold canon;rfl)
theorem still_all {P:Program} (m:Mem) (k:Nat) (ids:List (Nat×Nat)) (rows:List (TypeId×List AV)):∀ (cs:List AV),(∀ c∈cs,Still P c)→canons P m k ids rows cs=some (cs,ids,rows)
 | [],_=>by cases k <;> (unfold canons;rfl)
 | c::cs,h=>by
  have h1:=h c (by simp) m k ids rows
  have h2:=still_all m k ids rows cs fun x hx=>h x (by simp [hx])
  cases k <;> (unfold canons;simp [h1,h2])
theorem OwnK.setM {kd:Kind} {m:Mem} {el:TypeId} {sz n:Nat} {v:AV} {cells:List AV} (h:OwnK kd m el sz v n cells) (mm:Maps):OwnK kd (m.setM mm) el sz v n cells:=⟨h.form,h.len⟩
theorem build_var1 {P:Program} {m:Mem} {t el:TypeId} {a:Value} {x:AV} {z:List Value} (hk:kindT P el = .var) (ha:oneV a=true) (hx:oneA x=true) (hx2:x.cells=[x]) (h1:elE P t=some el) (h2:szE P el=some 2) (h3:zeroE P el=some z) (h4:z.length=2):buildSliceE P m t 1 [(0,.agg [.val a,x])]=some ⟨.sl m.next 0 1 1 true,m.push ⟨[.val a,x],el,.var,true⟩,none⟩:=by
 match z,h4 with
 | [z1,z2],_ =>
  simp [buildSliceE,hk,h1,h2,h3,zerosE,List.range_succ,fillE,okA,oneA,splice,AV.cells,outV]
section
variable {P:Program} {t:TypeId} {k off b:Nat} {cs:List AV}
theorem addr_arr (h:elE P t=none):addrE P t k (.tptr off cs)=(arrE P t).bind fun a=>(szE P a.2).bind fun sz=>if k < a.1 then some (.tptr (off+k*sz) cs) else none:=by simp [addrE,h]
theorem addr_arrp (h:elE P t=none):addrE P t k (.ptr b off)=(arrE P t).bind fun a=>(szE P a.2).bind fun sz=>if k < a.1 then some (.ptr b (off+k*sz)) else none:=by simp [addrE,h]
theorem addr_slp {n c:Nat} {f:Bool} (h:(elE P t).isSome=true):addrE P t k (.sl b off n c f)=(elE P t).bind fun el=>(szE P el).bind fun sz=>if k < n then some (.ptr b (off+k*sz)) else none:=by
 obtain ⟨el,hel⟩:=Option.isSome_iff_exists.1 h
 simp [addrE,hel]
theorem index_arr:indexE P t k (.agg cs)=(arrE P t).bind fun a=>(szE P a.2).bind fun sz=>if k < a.1 then partE P a.2 cs (k*sz) else none:=rfl
theorem postA:(type_of% @addr_arr)∧(type_of% @addr_arrp)∧(type_of% @index_arr)∧(type_of% @addr_slp):=⟨@addr_arr,@addr_arrp,@index_arr,@addr_slp⟩
end
mutual
def fzT:Nat→Mem→AV→Option AV
 | _,_,.val v=>some (.val v)
 | _,_,.tree n c cs f=>some (.tree n c cs f)
 | _,_,.tptr o cs=>some (.tptr o cs)
 | _,_,.emp c f=>some (.emp c f)
 | k,m,.agg cs=>(fzTs k m cs).map .agg
 | k,m,.tup cs=>(fzTs k m cs).map .tup
 | 0,m,.sl b off len c full=>(m.at_ b).bind fun x=>if x.kind = .flat∧x.wr=true then some (.tree len c (x.cells.drop off) full) else none
 | k+1,m,.sl b off len c full=>(m.at_ b).bind fun x=>if x.wr=true then (match x.kind with
  | .flat=>some (.tree len c (x.cells.drop off) full)
  | .var=>(fzTs k m (x.cells.drop off)).map fun cs => .tree len c cs full
  | .hole=>none) else none
 | _,_,_=>none
 termination_by k _ v=>(k,SizeOf.sizeOf v)
def fzTs:Nat→Mem→List AV→Option (List AV)
 | _,_,[]=>some []
 | k,m,c::cs=>(fzT k m c).bind fun c'=>(fzTs k m cs).map (c'::·)
 termination_by k _ v=>(k,SizeOf.sizeOf v)
end
theorem fzTs_nil {k:Nat} {m:Mem}:fzTs k m []=some []:=by cases k <;> (rw [fzTs])
theorem fzTs_cons {k:Nat} {m:Mem} {c:AV} {cs:List AV}:fzTs k m (c::cs)=(fzT k m c).bind fun c'=>(fzTs k m cs).map (c'::·):=by cases k <;> (rw [fzTs])
theorem fzT_val {k:Nat} {m:Mem} {v:Value}:fzT k m (.val v)=some (.val v):=by cases k <;> (rw [fzT])
theorem fzT_tree {k:Nat} {m:Mem} {n c:Nat} {cs:List AV} {f:Bool}:fzT k m (.tree n c cs f)=some (.tree n c cs f):=by cases k <;> (rw [fzT])
theorem fzT_tup {k:Nat} {m:Mem} {cs:List AV}:fzT k m (.tup cs)=(fzTs k m cs).map .tup:=by cases k <;> (rw [fzT])
theorem fzT_agg {k:Nat} {m:Mem} {cs:List AV}:fzT k m (.agg cs)=(fzTs k m cs).map .agg:=by cases k <;> (rw [fzT])
theorem fzT_flat {k:Nat} {m:Mem} {b off len c:Nat} {f:Bool} {cells:List AV} {el:TypeId} (h:m.at_ b=some ⟨cells,el,.flat,true⟩):fzT k m (.sl b off len c f)=some (.tree len c (cells.drop off) f):=by
 cases k <;> (rw [fzT];simp [h])
theorem fzT_var {k:Nat} {m:Mem} {b off len c:Nat} {f:Bool} {cells cs:List AV} {el:TypeId} (h:m.at_ b=some ⟨cells,el,.var,true⟩) (h2:fzTs k m (cells.drop off)=some cs):fzT (k+1) m (.sl b off len c f)=some (.tree len c cs f):=by
 rw [fzT];simp [h,h2]
theorem fzT_rd {k:Nat} {m:Mem} {v:AV} {n:Nat} {cs:List AV} (h:RdSl v n cs):fzT k m v=some v:=by
 rcases h.form with ⟨rfl,_⟩ | ⟨_,_,rfl,_⟩ | ⟨_,_,rfl,_⟩ <;> (cases k <;> (first | (unfold nilS;rw [fzT]) | rw [fzT]))
section
variable {P:Program} {w:World} {I:Nat→Prop} {ρ:Real} {m:Mem}
def ownG (I:Nat→Prop) (ρ:Real) (m:Mem) (g:Nat):Prop:=I g∨∃ b k o,m.at_ b=some k∧k.wr=true∧ρ b=some (g,o)
theorem keeps_own:Keeps w w I (ownG I ρ m):=⟨fun _ h => .inl h,fun _ _=>rfl,fun _ _ h=>h⟩
mutual
theorem fzT_one:∀ (k:Nat) (av av':AV),fzT k m av=some av'→oneA av'=oneA av
 | k,.val v,av',hl=>by rw [fzT_val] at hl;cases hl;rfl
 | k,.tree _ _ _ _,av',hl=>by rw [fzT_tree] at hl;cases hl;rfl
 | k,.tptr _ _,av',hl=>by unfold fzT at hl;simp at hl;rw [←hl]
 | k,.emp _ _,av',hl=>by unfold fzT at hl;simp at hl;rw [←hl]
 | k,.agg cs,av',hl=>by rw [fzT_agg] at hl;obtain ⟨cs',hc,rfl⟩:=Option.map_eq_some_iff.1 hl;rfl
 | k,.tup cs,av',hl=>by rw [fzT_tup] at hl;obtain ⟨cs',hc,rfl⟩:=Option.map_eq_some_iff.1 hl;rfl
 | 0,.sl b off len c full,av',hl=>by
  rw [fzT] at hl
  obtain ⟨x,hx,hl⟩:=Option.bind_eq_some_iff.1 hl
  split at hl
  ·cases hl;rfl
  ·cases hl
 | k+1,.sl b off len c full,av',hl=>by
  rw [fzT] at hl
  obtain ⟨x,hx,hl⟩:=Option.bind_eq_some_iff.1 hl
  split at hl
  ·split at hl
   ·cases hl;rfl
   ·obtain ⟨cs',hc,rfl⟩:=Option.map_eq_some_iff.1 hl;rfl
   ·cases hl
  ·cases hl
 | k,.ptr _ _,av',hl=>by cases k <;> (unfold fzT at hl;cases hl)
 | k,.clo _ _,av',hl=>by cases k <;> (unfold fzT at hl;cases hl)
end
theorem fzTs_spec:∀ (k:Nat) (cs cs':List AV),fzTs k m cs=some cs'→cs'.length=cs.length∧(AllOne cs→AllOne cs')
 | k,[],cs',hl=>by rw [fzTs_nil] at hl;cases hl;exact ⟨rfl,fun h=>h⟩
 | k,c::cs,cs',hl=>by
  rw [fzTs_cons] at hl
  obtain ⟨c',hc,hl⟩:=Option.bind_eq_some_iff.1 hl
  obtain ⟨cs'',hcs,rfl⟩:=Option.map_eq_some_iff.1 hl
  obtain ⟨h1,h2⟩:=fzTs_spec k cs cs'' hcs
  refine ⟨by simp [h1],fun h x hx => ?_⟩
  rcases List.mem_cons.1 hx with rfl | hx
  ·rw [fzT_one k c _ hc];exact h c (by simp)
  ·exact h2 (fun y hy=>h y (by simp [hy])) x hx
mutual
theorem fzT_sound (hS:SR P w I ρ m):∀ (k:Nat) (av av':AV) (v:Value),fzT k m av=some av'→VR P w I ρ av v→VR P w (ownG I ρ m) noneR av' v
 | k,.val x,av',v,hl,hv=>by rw [fzT_val] at hl;cases hl;simpa only [VR] using hv
 | k,.tree a b c d,av',v,hl,hv=>by
  rw [fzT_tree] at hl;cases hl
  exact VR_keep keeps_own (fun _ _ h=>h) _ _ (noRef_VR _ _ rfl hv)
 | k,.tptr a b,av',v,hl,hv=>by
  unfold fzT at hl;simp at hl;subst hl
  exact VR_keep keeps_own (fun _ _ h=>h) _ _ (noRef_VR _ _ rfl hv)
 | k,.emp _ _,av',v,hl,hv=>by unfold fzT at hl;simp at hl;subst hl;simpa only [VR] using hv
 | k,.agg cs,av',v,hl,hv=>by
  rw [fzT_agg] at hl
  obtain ⟨cs',hc,rfl⟩:=Option.map_eq_some_iff.1 hl
  simp only [VR] at hv ⊢
  obtain ⟨vs,h1,h2,h3,h4⟩:=hv
  obtain ⟨l1,l2⟩:=fzTs_spec k cs cs' hc
  exact ⟨vs,h1,by rw [h2,l1],l2 h3,fzTs_sound hS k cs cs' _ hc h4⟩
 | k,.tup cs,av',v,hl,hv=>by
  rw [fzT_tup] at hl
  obtain ⟨cs',hc,rfl⟩:=Option.map_eq_some_iff.1 hl
  simp only [VR] at hv ⊢
  obtain ⟨vs,h1,h2,h4⟩:=hv
  obtain ⟨l1,l2⟩:=fzTs_spec k cs cs' hc
  exact ⟨vs,h1,by rw [h2,l1],fzTs_sound hS k cs cs' _ hc h4⟩
 | 0,.sl b off len c full,av',v,hl,hv=>by
  rw [fzT] at hl
  obtain ⟨x,hx,hl⟩:=Option.bind_eq_some_iff.1 hl
  split at hl
  ·rename_i hk
   cases hl
   simp only [VR] at hv ⊢
   obtain ⟨g,o,cap,ty,n,s,hg,rfl,hlc,hf,_⟩:=hv
   have hB:=hS.blk b x g o hx hg
   refine ⟨g,o+off,cap,rfl,.inr ⟨b,x,o,hx,hk.2,hg⟩,hlc,hf,AllOne_drop hB.one _, ?_⟩
   exact VRs_congr (VRs_drop (VRs_keep keeps_own (fun _ _ h=>h) _ _ (hB.flatAt hk.1)) off) fun j _=>by rw [Nat.add_assoc]
  ·cases hl
 | k+1,.sl b off len c full,av',v,hl,hv=>by
  rw [fzT] at hl
  obtain ⟨x,hx,hl⟩:=Option.bind_eq_some_iff.1 hl
  simp only [VR] at hv
  obtain ⟨g,o,cap,ty,n,s,hg,rfl,hlc,hf,_⟩:=hv
  have hB:=hS.blk b x g o hx hg
  split at hl
  ·rename_i hwr
   split at hl
   ·rename_i hk
    cases hl
    simp only [VR]
    refine ⟨g,o+off,cap,rfl,.inr ⟨b,x,o,hx,hwr,hg⟩,hlc,hf,AllOne_drop hB.one _, ?_⟩
    exact VRs_congr (VRs_drop (VRs_keep keeps_own (fun _ _ h=>h) _ _ (hB.flatAt hk)) off) fun j _=>by rw [Nat.add_assoc]
   ·obtain ⟨cs',hc,rfl⟩:=Option.map_eq_some_iff.1 hl
    simp only [VR]
    obtain ⟨l1,l2⟩:=fzTs_spec k _ cs' hc
    refine ⟨g,o+off,cap,rfl,.inr ⟨b,x,o,hx,hwr,hg⟩,hlc,hf,l2 (AllOne_drop hB.one _), ?_⟩
    exact VRs_congr (fzTs_sound hS k _ cs' _ hc (VRs_drop hB.cellsAt off)) fun j _=>by rw [Nat.add_assoc]
   ·cases hl
  ·cases hl
 | k,.ptr _ _,av',v,hl,hv=>by cases k <;> (unfold fzT at hl;cases hl)
 | k,.clo _ _,av',v,hl,hv=>by cases k <;> (unfold fzT at hl;cases hl)
 termination_by k av=>(k,SizeOf.sizeOf av)
theorem fzTs_sound (hS:SR P w I ρ m):∀ (k:Nat) (cs cs':List AV) (get:Nat→Option Value),fzTs k m cs=some cs'→VRs P w I ρ cs get→VRs P w (ownG I ρ m) noneR cs' get
 | k,[],cs',get,hl,hv=>by rw [fzTs_nil] at hl;cases hl;simp only [VRs]
 | k,c::cs,cs',get,hl,hv=>by
  rw [fzTs_cons] at hl
  obtain ⟨c',hc,hl⟩:=Option.bind_eq_some_iff.1 hl
  obtain ⟨cs'',hcs,rfl⟩:=Option.map_eq_some_iff.1 hl
  simp only [VRs] at hv ⊢
  obtain ⟨⟨v,h1,h2⟩,h3⟩:=hv
  exact ⟨⟨v,h1,fzT_sound hS k c c' v hc h2⟩,fzTs_sound hS k cs cs'' _ hcs h3⟩
 termination_by k cs=>(k,SizeOf.sizeOf cs)
end
theorem fspec_fzT {f:FuncId} {args:List AV} {r:AV} (h:OSpec P f args Mem.empty fun v m=>∃ k,fzT k m v=some r):FSpec P f args ⟨r,[]⟩:=⟨h.1,fun w I vs hI hsz hv=>(h.2 w I noneR vs ⟨fun b k g o h=>by simp [Mem.empty] at h,fun b b' k k' g o o' h=>by simp [Mem.empty] at h,hI,MRs.none⟩ hsz hv (fun _ _=>rfl)).mono fun en w'=>by
 rintro ⟨v,rv,m',I',ρ',rfl,⟨k,hk⟩,q1,q2,q3,_⟩
 have hnoWr:∀ g,¬ Wr noneR Mem.empty g:=by
  rintro g (⟨b,k,o,h1,_⟩ | h1)
  ·simp [Mem.empty] at h1
  ·exact empty_has h1
 have hnew:∀ g,(∃ b k o,m'.at_ b=some k∧k.wr=true∧ρ' b=some (g,o))→w.heap.size≤g:=by
  intro g hg
  rcases q3.own g (.inl hg) with h | h
  ·exact absurd h (hnoWr g)
  ·exact h
 refine ⟨v,ownG I' ρ' m',noneR,rfl,fzT_sound q2 k rv r v hk q1,⟨fun b k g o h=>by simp [pushAll,pushFrom,Mem.empty] at h,fun b b' k k' g o o' h=>by simp [pushAll,pushFrom,Mem.empty] at h,fun g hg => ?_,MRs.none⟩,⟨q3.os,q3.tape,q3.output,q3.size,q3.same,q3.shape,fun g hg => .inl (q3.imm g hg),fun g hg => ?_,fun _ _ h=>h,fun b h1 h2=>absurd h1 h2,fun g hg => ?_,Nat.le_refl _⟩⟩
 ·rcases hg with hg | ⟨b,k,o,h1,h2,h3⟩
  ·exact q2.lt g hg
  ·exact q2.ltb h1 h3
 ·rcases hg with hg | hg
  ·exact q3.back g hg
  ·exact .inr (.inr (hnew g hg))
 ·rcases hg with ⟨b,k,o,h1,_⟩ | hg
  ·simp [pushAll,pushFrom,Mem.empty] at h1
  ·exact (empty_has hg).elim⟩
theorem ospec_mono {f:FuncId} {args:List AV} {m:Mem} {Q Q':AV→Mem→Prop} (h:OSpec P f args m Q) (hq:∀ r m',Q r m'→Q' r m'):OSpec P f args m Q':=⟨h.1,fun w I ρ vs a b c d=>(h.2 w I ρ vs a b c d).mono fun en w' ⟨v,r,m',I',ρ',e1,e2,e3⟩=>⟨v,r,m',I',ρ',e1,hq _ _ e2,e3⟩⟩
theorem call_open {f:FuncId} {args:List AV} {Q:AV→Mem→Prop} {K:Out→Prop} (h:OSpec P f args m Q) (hk:∀ r m',Q r m'→K ⟨r,m',none⟩):callW P false f args m K := .inr (.inl ⟨rfl,ospec_mono h hk⟩)
theorem call_det {f:FuncId} {args:List AV} {r:AV} {m':Mem} {d:Bool} {K:Out→Prop} (h:OSpec P f args m fun v m1=>v=r∧m1=m') (hk:K ⟨r,m',none⟩):callW P d f args m K := .inr (.inr (.inl ⟨r,m',h,hk⟩))
end
section
variable {P:Program}
theorem outW_mono {r:Option Out} {K K':Out→Prop} (hK:∀ o,K o→K' o) (h:outW r K):outW r K':=by
 unfold outW at h ⊢
 split at h
 ·exact hK _ h
 ·exact h
theorem callW_mono {d:Bool} {f:FuncId} {args:List AV} {m:Mem} {K K':Out→Prop} (hK:∀ o,K o→K' o) (h:callW P d f args m K):callW P d f args m K':=by
 rcases h with ⟨a,r,h1,h2,h3,h4⟩ | ⟨hd,h⟩ | ⟨r,m',h1,h2⟩ | ⟨r,h1,h2⟩ | ⟨a,m1,r,h1,h2,h3⟩
 ·exact .inl ⟨a,r,h1,h2,h3,hK _ h4⟩
 ·exact .inr (.inl ⟨hd,ospec_mono h fun r m' h=>hK _ h⟩)
 ·exact .inr (.inr (.inl ⟨r,m',h1,hK _ h2⟩))
 ·exact .inr (.inr (.inr (.inl ⟨r,h1,hK _ h2⟩)))
 ·exact .inr (.inr (.inr (.inr ⟨a,m1,r,h1,h2,hK _ h3⟩)))
theorem callP_mono {f:FuncId} {args:List AV} {m:Mem} {K K':Out→Prop} (hK:∀ o,K o→K' o) (h:callP P f args m K):callP P f args m K':=by
 obtain ⟨r,h1,h2,h3,h4,h5,h6⟩:=h
 exact ⟨r,h1,h2,h3,h4,h5,hK _ h6⟩
theorem calleeW_mono {d c:Bool} {m:Mem} {args:List AV} {K K':Out→Prop} (hK:∀ o,K o→K' o) {x:AV} (h:calleeW P d c m args K x):calleeW P d c m args K' x:=by
 cases x with
 | clo g caps =>
  unfold calleeW at h ⊢
  simp only at h ⊢
  split at h
  ·exact callP_mono hK h
  ·exact callW_mono hK h
 | _=>exact h.elim
theorem makeW_mono {m:Mem} {K K':Out→Prop} (hK:∀ o,K o→K' o) (h:makeW m K):makeW m K':=fun g hg=>hK _ (h g hg)
theorem rangeW_mono {m:Mem} {t:TypeId} {x:AV} {K K':Out→Prop} (hK:∀ o,K o→K' o) (h:rangeW P m t x K):rangeW P m t x K':=by
 obtain ⟨gc,h1,h2,h3⟩:=h
 exact ⟨gc,h1,h2,fun r hr=>hK _ (h3 r hr)⟩
theorem nextW_mono {m:Mem} {x:AV} {K K':Out→Prop} (hK:∀ o,K o→K' o) (h:nextW m x K):nextW m x K':=by
 obtain ⟨i,h1,h2,h3⟩:=h
 exact ⟨i,h1,fun h=>hK _ (h2 h),fun j e a b=>hK _ (h3 j e a b)⟩
theorem stepW_mono {d once:Bool} {e:Env} {m:Mem} {ty:TypeId} {K K':Out→Prop} (hK:∀ o,K o→K' o) {op:Op} (h:stepW P d once e m ty K op):stepW P d once e m ty K' op:=by
 unfold stepW at h ⊢
 split at h
 all_goals first
  | exact outW_mono hK h
  | exact calleeW_mono hK h
  | exact h.elim
  | exact ⟨h.1,makeW_mono hK h.2⟩
  | exact ⟨h.1,rangeW_mono hK h.2⟩
  | exact ⟨h.1,nextW_mono hK h.2⟩
theorem opsW_mono {once:Nat→Bool} {d:Bool} {ops:Array Oper} {Q Q':Env→Mem→Prop} (hQ:∀ e m,Q e m→Q' e m):∀ (l:List Oper) (e:Env) (m:Mem),opsW P once d ops Q l e m→opsW P once d ops Q' l e m
 | [],e,m,h=>hQ e m h
 | o::rest,e,m,h=>by
  rw [opsW_cons] at h ⊢
  split at h
  ·rename_i hw
   rw [if_pos hw]
   exact stepW_mono (fun out ho=>⟨ho.1,opsW_mono hQ rest _ _ ho.2⟩) h
  ·rename_i hw
   rw [if_neg hw]
   exact opsW_mono hQ rest _ _ h
theorem thenQ_mono {K K':Env→Mem→Prop} {Q Q':Ex→Env→Mem→Prop} (hK:∀ e m,K e m→K' e m) (hQ:∀ x e m,Q x e m→Q' x e m):∀ x e m,thenQ K Q x e m→thenQ K' Q' x e m:=by
 intro x e m h
 cases x with
 | normal=>exact hK e m h
 | exit i=>exact hQ _ e m h
 | ret=>exact hQ _ e m h
theorem blockQ_mono {id:Nat} {Q Q':Ex→Env→Mem→Prop} (hQ:∀ x e m,Q x e m→Q' x e m):∀ x e m,blockQ id Q x e m→blockQ id Q' x e m:=by
 intro x e m h
 cases x with
 | normal=>exact hQ _ e m h
 | exit i =>
  simp only [blockQ] at h ⊢
  split at h
  ·rename_i hi;rw [if_pos hi];exact hQ _ e m h
  ·rename_i hi;rw [if_neg hi];exact hQ _ e m h
 | ret=>exact hQ _ e m h
theorem codeW_mono {once:Nat→Bool} {n:Nat}:∀ (c:Code) (Q Q':Ex→Env→Mem→Prop) (e:Env) (m:Mem),(∀ x e m,Q x e m→Q' x e m)→codeW P once n c Q e m→codeW P once n c Q' e m:=by
 intro c
 induction c with
 | skip=>exact fun Q Q' e m hQ h=>hQ _ e m h
 | label l=>exact fun Q Q' e m hQ h=>hQ _ e m h
 | region id ops d=>exact fun Q Q' e m hQ h=>opsW_mono (hQ .normal) _ e m h
 | seq x y ihx ihy=>exact fun Q Q' e m hQ h=>ihx _ _ e m (thenQ_mono (fun e m h=>ihy _ _ e m hQ h) hQ) h
 | cond c x y ihx ihy =>
  intro Q Q' e m hQ h
  simp only [codeW] at h ⊢
  unfold condW at h ⊢
  split at h
  ·exact ⟨fun a=>ihx _ _ e m hQ (h.1 a),fun a=>ihy _ _ e m hQ (h.2 a)⟩
  ·exact h
 | block id b ih=>exact fun Q Q' e m hQ h=>ih _ _ e m (blockQ_mono hQ) h
 | loop b ih =>
  intro Q Q' e m hQ h
  obtain ⟨J,k,h1,h2⟩:=h
  exact ⟨J,k,h1,fun n e m hj=>ih _ _ e m (thenQ_mono (fun _ _ h=>h) hQ) (h2 n e m hj)⟩
 | exit id=>exact fun Q Q' e m hQ h=>hQ _ e m h
 | ret=>exact fun Q Q' e m hQ h=>hQ _ e m h
 | scope b ih=>exact fun Q Q' e m hQ h=>ih _ _ e m hQ h
 | goto l=>exact fun Q Q' e m hQ h=>h.elim
 | refuse s=>exact fun Q Q' e m hQ h=>h.elim
 | rangeFunc f ps x y=>exact fun Q Q' e m hQ h=>h.elim
theorem loop_cut {once:Nat→Bool} {n id:Nat} {b:Code} {K:Env→Mem→Prop} {Q:Ex→Env→Mem→Prop} {e:Env} {m:Mem} (R:Env→Mem→Prop) (h2:∀ e m,R e m→K e m) (h1:loopW (codeW P once n b) (blockQ id (thenQ R Q)) e m):loopW (codeW P once n b) (blockQ id (thenQ K Q)) e m :=
 codeW_mono (.loop b) _ _ e m (blockQ_mono (thenQ_mono h2 fun _ _ _ h=>h)) h1
end
end Go.Tw