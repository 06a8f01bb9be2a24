import Derived.Test.YtgcicholalgbiaaGreatLrcG24
import Derived.WalkKit
import Derived.Lib.Strings
import Derived.Lib.Walk
import Derived.Lib.Bytealg
set_option linter.unusedVariables false
set_option linter.unusedSimpArgs false
set_option maxRecDepth 100000
namespace Go.Proofs.YtgcicholalgbiaaGreat
open Go Go.Tw Go.Proofs Go.Gf Go.RowKit
end Go.Proofs.YtgcicholalgbiaaGreat
set_option maxRecDepth 10000
namespace Go.Proofs.YtgcicholalgbiaaGreat
open Go Go.Tw Go.Proofs Go.Gf
theorem app_ents {m : Mem} {v x : AV} {K : Out → Prop} {n cnt : Nat} {cells new : List AV} (ho : Own m 42 2 v n cells) (h5 : srcE Tryz.prog 42 2 m x = some (new, cnt)) (h6 : new.length = cnt * 2) (h7 : n + cnt ≤ 1000000000000)
   (hK : ∀ v' m', Own m' 42 2 v' (n + cnt) (cells ++ new) → m.next ≤ m'.next → K ⟨v', m', none⟩) : outW (appE Tryz.prog 42 m v x) K :=
 app_rule (by kernel_rfl) ho (sz := 2) (y := 24) (zl := [.string .empty, .int .i64 0]) (by kernel_rfl) (by kernel_rfl) (by kernel_rfl) rfl h5 h6 (by omega) (by omega) hK
theorem entCells_len (l:List Ent):(entCells l).length=l.length*2:=by
 induction l with
 | nil=>rfl
 | cons e l ih=>simp only [entCells,List.length_cons,ih];omega
theorem entCells_app (a b:List Ent):entCells (a++b)=entCells a++entCells b:=by
 induction a with
 | nil=>rfl
 | cons e a ih=>simp [entCells,ih]
def entOf (n:Nat) (r:List UInt8):Ent:=(⟨(r.take n).toArray⟩,(((r.getD n 0).toNat*256+(r.getD (n+1) 0).toNat:Nat):Int))
def parseL (bs:List UInt8):Option (List Ent):=match bs with
 | []=>some []
 | n::r=>if h:r.length < n.toNat+2 then none else (parseL (r.drop (n.toNat+2))).map (entOf n.toNat r::·)
 termination_by bs.length
 decreasing_by simp only [List.length_drop,List.length_cons];omega
theorem parse_nil:parseL []=some []:=by rw [parseL]
theorem parse_bad {n:UInt8} {r:List UInt8} (h:r.length < n.toNat+2):parseL (n::r)=none:=by rw [parseL,dif_pos h]
theorem parse_cons {n:UInt8} {r:List UInt8} (h:¬ r.length < n.toNat+2):parseL (n::r)=(parseL (r.drop (n.toNat+2))).map (entOf n.toNat r::·):=by rw [parseL,dif_neg h]
theorem entOf_size {n:Nat} {r:List UInt8} (h:n≤r.length):(entOf n r).1.size=n:=by
 simp [entOf,ByteArray.size,h]
theorem longN_app (a b:List Ent):longN (a++b)=longN a+longN b:=by simp [longN]
theorem parse_longK:∀ (k:Nat) (bs:List UInt8) (l:List Ent),bs.length≤k→parseL bs=some l→longN l=bs.length
 | _,[],l,_,h=>by rw [parse_nil] at h;cases h;rfl
 | 0,_::_,_,hk,_=>by simp at hk
 | k+1,n::r,l,hk,h=>by
  by_cases hb:r.length < n.toNat+2
  ·rw [parse_bad hb] at h;cases h
  ·rw [parse_cons hb] at h
   obtain ⟨l',h1,rfl⟩:=Option.map_eq_some_iff.1 h
   have ih:=parse_longK k _ l' (by simp only [List.length_drop,List.length_cons] at hk ⊢;omega) h1
   have e:=entOf_size (n:=n.toNat) (r:=r) (by omega)
   rw [List.length_drop] at ih
   simp only [longN,List.map_cons,List.sum_cons,List.length_cons,e] at ih ⊢
   omega
theorem parse_long {bs:List UInt8} {l:List Ent} (h:parseL bs=some l):longN l=bs.length:=parse_longK _ bs l (Nat.le_refl _) h
theorem long_num (l:List Ent):l.length≤longN l:=by
 induction l with
 | nil=>simp
 | cons a l ih=>simp only [longN,List.map_cons,List.sum_cons,List.length_cons] at ih ⊢;omega
theorem parse_num {bs:List UInt8} {l:List Ent} (h:parseL bs=some l):l.length≤bs.length:=by
 have:=parse_long h
 have:=long_num l
 omega
def entsRes (l:List Ent) (e:Int):Res:=⟨.tup [(ownR 42 l.length (entCells l)).v,intV e],(ownR 42 l.length (entCells l)).rows⟩
def prsE (k r c w:Int) (bs:List UInt8):Int:=if mayB k r c w=true then (if mI k c < (bs.length:Int) then 3 else (match parseL bs with | some l=>(if entsOk w l=true then 0 else 220) | none=>220)) else 2
def prsL (bs:List UInt8):List Ent:=(parseL bs).getD []
theorem name_conv {m:Mem} {v:AV} {n:Nat} {r:List UInt8} {x:List AV} (hv:RdSl v n (bytesA r++x)) (h:n≤r.length):convE Tryz.prog m 54 9 v=some ⟨.val (.string (entOf n r).1),m,none⟩:=by
 have hr:r=r.take n++r.drop n:=(List.take_append_drop n r).symm
 have e:bytesA r++x=(r.take n).map byteV++(bytesA (r.drop n)++x):=by
  conv=>lhs;rw [hr]
  unfold bytesA
  rw [List.map_append,List.append_assoc]
 have hl:(r.take n).length=n:=by rw [List.length_take];omega
 have hv2:RdSl v (r.take n).length ((r.take n).map byteV++(bytesA (r.drop n)++x)):=by rw [hl,←e];exact hv
 exact hv2.str (P:=Tryz.prog) (m:=m) (el:=5) (src:=54) (dst:=9) (by kernel_rfl) (by kernel_rfl) (by kernel_rfl) (by kernel_rfl)
theorem name_convX {d c:Bool} {m:Mem} {v:AV} {n:Nat} {r:List UInt8} {x:List AV} (hv:RdSl v n (bytesA r++x)) (h:n≤r.length):convX Tryz.prog d c m 54 9 v=some ⟨.val (.string (entOf n r).1),m,none⟩:=by
 have h1:=name_conv (m:=m) hv h
 have h2:elE Tryz.prog 9=none:=by kernel_rfl
 rcases hv.form with ⟨rfl,_⟩ | ⟨c2,f,rfl,_⟩ | ⟨c2,f,rfl,_⟩
 ·rw [←h1];exact convX_p h2
 ·rw [←h1]
  have:convX Tryz.prog d c m 54 9 (.emp c2 f)=convY Tryz.prog c m 54 9 (.emp c2 f):=by cases d <;> cases c <;> rfl
  rw [this,convY_o h2]
 ·rw [←h1];exact convX_r h2
theorem dir_Parse (k r c w:Int) (v:AV) (bs:List UInt8) (x:List AV) (hv:RdSl v bs.length (bytesA bs++x)) (hn:bs.length≤1000000000):FSpec Tryz.prog 47 [parV k r c w,v] (if prsE k r c w bs=0 then entsRes (prsL bs) 0 else entsRes [] (prsE k r c w bs)):=by
 refine fspec_of_body follows Tryz.func47 (by unfold Tryz.f47;rfl) (by unfold Tryz.f47;simp) onceA (by unfold Tryz.f47;simp) (by kernel_rfl) ?_;unfold Tryz.f47
 have hp:=hv.plain
 cases h:mayB k r c w with
 | false =>
  have he:prsE k r c w bs=2:=by simp [prsE,h]
  rw [if_neg (by rw [he];decide),he]
  simp only [↓pre,simprocAttr,parV,sx,tys47,onceA,postU,h,Bool.false_eq_true];repeat' ((first | refine guard_dec (fun _ => ?_) (fun _ => ?_) | refine cond_dec (fun _ => ?_) (fun _ => ?_) | refine guard_ndec (fun _ => ?_) (fun _ => ?_) | refine cond_ndec (fun _ => ?_) (fun _ => ?_) | refine guard_split (fun _ => ?_) (fun _ => ?_) | refine cond_split (fun _ => ?_) (fun _ => ?_) | refine call_plain (layout_Most _ _ _ _) (by first | rfl | simp only [parV,plQ, *]) ?_ | refine call_pure (layout_Most _ _ _ _) (by first | rfl | simp only [parV,plQ, *]) (by intro k;first | rfl | simp only [sq,sr, *]) ?_) <;> simp only [↓pre,simprocAttr,parV,sx,tys47,onceA,postU,h,Bool.false_eq_true, *])
  rfl
 | true =>
  by_cases hbig:mI k c < (bs.length:Int)
  ·have he:prsE k r c w bs=3:=by simp [prsE,h,hbig]
   rw [if_neg (by rw [he];decide),he]
   simp only [↓pre,simprocAttr,parV,sx,tys47,onceA,postU,h,hv.len',hbig];repeat' ((first | refine guard_dec (fun _ => ?_) (fun _ => ?_) | refine cond_dec (fun _ => ?_) (fun _ => ?_) | refine guard_ndec (fun _ => ?_) (fun _ => ?_) | refine cond_ndec (fun _ => ?_) (fun _ => ?_) | refine guard_split (fun _ => ?_) (fun _ => ?_) | refine cond_split (fun _ => ?_) (fun _ => ?_) | refine call_plain (layout_Most _ _ _ _) (by first | rfl | simp only [parV,plQ, *]) ?_ | refine call_pure (layout_Most _ _ _ _) (by first | rfl | simp only [parV,plQ, *]) (by intro k;first | rfl | simp only [sq,sr, *]) ?_) <;> simp only [↓pre,simprocAttr,parV,sx,tys47,onceA,postU,h,hv.len',hbig, *])
   rfl
  ·have hM:(bs.length:Int)≤mI k c:=by omega
   replace hM:=Hid.mk hM
   simp only [↓pre,simprocAttr,parV,sx,tys47,onceA,postU,h,hv.len',hbig];repeat' ((first | refine guard_dec (fun _ => ?_) (fun _ => ?_) | refine cond_dec (fun _ => ?_) (fun _ => ?_) | refine guard_ndec (fun _ => ?_) (fun _ => ?_) | refine cond_ndec (fun _ => ?_) (fun _ => ?_) | refine guard_split (fun _ => ?_) (fun _ => ?_) | refine cond_split (fun _ => ?_) (fun _ => ?_) | refine call_plain (layout_Most _ _ _ _) (by first | rfl | simp only [parV,plQ, *]) ?_ | refine call_pure (layout_Most _ _ _ _) (by first | rfl | simp only [parV,plQ, *]) (by intro k;first | rfl | simp only [sq,sr, *]) ?_) <;> simp only [↓pre,simprocAttr,parV,sx,tys47,onceA,postU,h,hv.len',hbig, *])
   rw [codeW_loop]
   refine loop_intro (fun n e m=>∃ (es:List Ent) (rest:List UInt8) (v':AV) (y:List AV),rest.length=n∧e 1=v'∧RdSl v' rest.length (bytesA rest++y)∧e 2 = .tptr 0 [intV k,intV r,intV c,intV w]∧Own m 42 2 (e 8) es.length (entCells es)∧parseL bs=(parseL rest).map (es++·)∧longN es+rest.length=bs.length∧es.length≤longN es) bs.length ⟨[],bs,v,x,rfl, ?_,hv, ?_, ?_, ?_, ?_, ?_⟩ ?_
   ·simp [Env.set,entryE]
   ·simp [Env.set,intV]
   ·simp [Env.set,entCells]
    exact own_nil
   ·simp
   ·simp [longN]
   ·simp
   ·rintro n e m ⟨es,rest,v',y,hi,e1,hv',e2,ho,hpar,hlen,hpl⟩
    have hp':=hv'.plain
    replace hpar:=Hid.mk hpar
    replace hlen:=Hid.mk hlen
    cases rest with
    | nil =>
     have z0:((0:Nat):Int)=0:=rfl
     have hpr:parseL bs=some es:=by rw [hpar.out,parse_nil];simp
     have hle:chk k r c w es=if entsOk w es=true then 0 else 220:=by
      have h1:=parse_long hpr
      have h2:=hM.out
      simp only [chk,h,if_true]
      split
      ·rw [if_neg (by omega)]
      ·rfl
     have hpe:prsE k r c w bs=chk k r c w es:=by
      rw [hle]
      simp [prsE,h,hbig,hpr]
     have hpL:prsL bs=es:=by simp [prsL,hpr]
     have hnum:=parse_num hpr
     have hlng:=parse_long hpr
     replace hpr:=Hid.mk hpr
     replace hle:=Hid.mk hle
     replace hlng:=Hid.mk hlng
     obtain ⟨av,hlend,hrd⟩:=own_lend2 ho (a:=parV k r c w) rfl
     have hck:=dir_Check k r c w av es [] (by rw [List.append_nil];exact hrd) (by have:=hlng.out;omega) (by omega)
     simp only [↓pre,simprocAttr,parV,sx,tys47,onceA,postU,e1,e2,hv'.len',z0];repeat' ((first | refine guard_dec (fun _ => ?_) (fun _ => ?_) | refine cond_dec (fun _ => ?_) (fun _ => ?_) | refine guard_ndec (fun _ => ?_) (fun _ => ?_) | refine cond_ndec (fun _ => ?_) (fun _ => ?_) | refine guard_split (fun _ => ?_) (fun _ => ?_) | refine cond_split (fun _ => ?_) (fun _ => ?_)) <;> simp only [↓pre,simprocAttr,parV,sx,tys47,onceA,postU,e1,e2,hv'.len',z0, *])
     refine call_lent hck hlend rfl rfl ?_
     by_cases he:chk k r c w es=0
     ·rw [hpe,if_pos he,hpL]
      simp only [↓pre,simprocAttr,parV,sx,tys47,onceA,postU,e1,e2,he];repeat' ((first | refine guard_dec (fun _ => ?_) (fun _ => ?_) | refine cond_dec (fun _ => ?_) (fun _ => ?_) | refine guard_ndec (fun _ => ?_) (fun _ => ?_) | refine cond_ndec (fun _ => ?_) (fun _ => ?_) | refine guard_split (fun _ => ?_) (fun _ => ?_) | refine cond_split (fun _ => ?_) (fun _ => ?_)) <;> simp only [↓pre,simprocAttr,parV,sx,tys47,onceA,postU,e1,e2,he, *])
      rw [own_canon (by kernel_rfl) ho]
      rfl
     ·have he2:chk k r c w es=220:=by
       have:=hle.out
       rw [this] at he ⊢
       split at he
       ·exact absurd rfl he
       ·rename_i hq;rw [if_neg hq]
      rw [hpe,if_neg he,he2]
      simp only [↓pre,simprocAttr,parV,sx,tys47,onceA,postU,e1,e2,he,he2];repeat' ((first | refine guard_dec (fun _ => ?_) (fun _ => ?_) | refine cond_dec (fun _ => ?_) (fun _ => ?_) | refine guard_ndec (fun _ => ?_) (fun _ => ?_) | refine cond_ndec (fun _ => ?_) (fun _ => ?_) | refine guard_split (fun _ => ?_) (fun _ => ?_) | refine cond_split (fun _ => ?_) (fun _ => ?_)) <;> simp only [↓pre,simprocAttr,parV,sx,tys47,onceA,postU,e1,e2,he,he2, *])
      rfl
    | cons a q =>
     have ha:=a.toNat_lt
     have hlq:(a::q).length=q.length+1:=rfl
     have w1:IntKind.i64.wrap (a.toNat:Int)=(a.toNat:Int):=wrap_nat (by omega)
     have w2:IntKind.i64.wrap ((a.toNat:Int)+3)=((a.toNat+3:Nat):Int):=by rw [←wrap_nat (n:=a.toNat+3) (by omega)];rfl
     have hne:¬ (((q.length+1:Nat):Int)=0):=by omega
     have hb0:=byte_at (bs:=a::q) (x:=y) (i:=0) (a:=a) rfl
     have hlt0:0 < q.length+1:=by omega
     have hq1:q.length+1≤bs.length:=by have:=hlen.out;simp only [List.length_cons] at this;omega
     by_cases hbad:q.length < a.toNat+2
     ·have hbad':((q.length+1:Nat):Int) < ((a.toNat+3:Nat):Int):=by omega
      have he:prsE k r c w bs=220:=by
       have h1:parseL bs=none:=by rw [hpar.out,parse_bad hbad];rfl
       simp [prsE,h,hbig,h1]
      rw [if_neg (by rw [he];decide),he]
      replace hlq:=Hid.mk hlq
      simp only [↓pre,simprocAttr,parV,sx,tys47,onceA,postU,postV,e1,e2,hv'.len',hv'.addr',hne,hb0,hlt0,w1,w2,hbad'];repeat' ((first | refine guard_dec (fun _ => ?_) (fun _ => ?_) | refine cond_dec (fun _ => ?_) (fun _ => ?_) | refine guard_ndec (fun _ => ?_) (fun _ => ?_) | refine cond_ndec (fun _ => ?_) (fun _ => ?_) | refine guard_split (fun _ => ?_) (fun _ => ?_) | refine cond_split (fun _ => ?_) (fun _ => ?_)) <;> simp only [↓pre,simprocAttr,parV,sx,tys47,onceA,postU,postV,e1,e2,hv'.len',hv'.addr',hne,hb0,hlt0,w1,w2,hbad', *])
      rfl
     ·have hbad':¬ ((q.length+1:Nat):Int) < ((a.toNat+3:Nat):Int):=by omega
      have w3:IntKind.i64.wrap (1+(a.toNat:Int))=((1+a.toNat:Nat):Int):=by rw [←wrap_nat (n:=1+a.toNat) (by omega)];rfl
      have w4:IntKind.i64.wrap (2+(a.toNat:Int))=((2+a.toNat:Nat):Int):=by rw [←wrap_nat (n:=2+a.toNat) (by omega)];rfl
      obtain ⟨v1,s1,r1⟩:=hv'.slice (P:=Tryz.prog) (t:=54) (sz:=1) (lo:=some 1) (hi:=some (1+a.toNat)) (by kernel_rfl) (by simp) (by simp only [Option.getD_some,hlq];omega)
      obtain ⟨v2,s2,r2⟩:=hv'.slice (P:=Tryz.prog) (t:=54) (sz:=1) (lo:=some (a.toNat+3)) (hi:=none) (by kernel_rfl) (by simp only [Option.getD_some,Option.getD_none,hlq];omega) (Nat.le_refl _)
      have r1':RdSl v1 a.toNat (bytesA q++y):=by
       have e1:(some (1+a.toNat)).getD (a::q).length - (some 1).getD 0=a.toNat:=by simp
       rw [e1] at r1
       simpa [bytesA] using r1
      have r2':RdSl v2 (q.drop (a.toNat+2)).length (bytesA (q.drop (a.toNat+2))++y):=by
       have e1:(none:Option Nat).getD (a::q).length - (some (a.toNat+3)).getD 0=(q.drop (a.toNat+2)).length:=by simp
       rw [e1] at r2
       simp only [Option.getD_some,Nat.mul_one] at r2
       rw [bytesA_drop (a::q) y (a.toNat+3) (by rw [hlq];omega)] at r2
       exact r2
      have hcv:=fun (d c:Bool) (m:Mem)=>name_convX (d:=d) (c:=c) (m:=m) r1' (by omega)
      have hi1:q[a.toNat]? = some (q.getD a.toNat 0):=by rw [List.getD_eq_getElem?_getD,List.getElem?_eq_getElem (by omega)];rfl
      have hi2:q[a.toNat+1]? = some (q.getD (a.toNat+1) 0):=by rw [List.getD_eq_getElem?_getD,List.getElem?_eq_getElem (by omega)];rfl
      have hb1:=byte_at (bs:=a::q) (x:=y) (i:=1+a.toNat) (a:=q.getD a.toNat 0) (by rw [Nat.add_comm];simpa using hi1)
      have hb2:=byte_at (bs:=a::q) (x:=y) (i:=2+a.toNat) (a:=q.getD (a.toNat+1) 0) (by rw [show 2+a.toNat=a.toNat+1+1 by omega];simpa using hi2)
      have hlt1:1+a.toNat < q.length+1:=by omega
      have hlt2:2+a.toNat < q.length+1:=by omega
      generalize hh:q.getD a.toNat 0=x1 at hb1 hi1
      generalize hl:q.getD (a.toNat+1) 0=x2 at hb2 hi2
      have hx1:=x1.toNat_lt
      have hx2:=x2.toNat_lt
      have w5:IntKind.i64.wrap (x1.toNat:Int)=(x1.toNat:Int):=wrap_nat (by omega)
      have w6:IntKind.i64.wrap (x2.toNat:Int)=(x2.toNat:Int):=wrap_nat (by omega)
      have w7:IntKind.i64.wrap ((x1.toNat:Int)*2 ^ min 8 64)=((x1.toNat*256:Nat):Int):=by
       rw [show ((x1.toNat:Int)*2 ^ min 8 64)=((x1.toNat*256:Nat):Int) by simp];exact wrap_nat (by omega)
      have w8:borI .i64 ((x1.toNat*256:Nat):Int) (x2.toNat:Int)=((x1.toNat*256+x2.toNat:Nat):Int):=by
       rw [borI_i64 (by omega) (by omega),or_add hx2]
      have hbT:=fun (m:Mem) (s:ByteArray) (z:Int)=>buildT1a (P:=Tryz.prog) (m:=m) (t:=38) (a := .string s) (b := .int .i64 z) rfl rfl (by kernel_rfl) (by kernel_rfl)
      have hok:=fun m:Mem=>hv'.slOk (P:=Tryz.prog) (m:=m) (t:=54)
      have hsx:=fun d c m lo hi mx=>hv'.sliceX (P:=Tryz.prog) (m:=m) (t:=54) (d:=d) (c:=c) (lo:=lo) (hi:=hi) (mx:=mx)
      have hent:entOf a.toNat q=((entOf a.toNat q).1,((x1.toNat*256+x2.toNat:Nat):Int)):=by rw [←hh,←hl];rfl
      replace hlq:=Hid.mk hlq
      replace hh:=Hid.mk hh
      replace hl:=Hid.mk hl
      replace hi1:=Hid.mk hi1
      replace hi2:=Hid.mk hi2
      replace hent:=Hid.mk hent
      replace ho:=Hid.mk ho
      simp only [↓pre,simprocAttr,parV,sx,tys47,onceA,postU,postV,postX,e1,e2,hv'.len',hv'.addr',hne,hb0,hlt0,w1,w2,hbad',w3,w4,s1,s2,hok,hsx,hcv,hb1,hb2,hlt1,hlt2,w5,w6,w7,w8,IntKind.bits,optNat,Option.map_some,Option.map_none,Nat.mul_one,hbT];repeat' ((first | refine guard_dec (fun _ => ?_) (fun _ => ?_) | refine cond_dec (fun _ => ?_) (fun _ => ?_) | refine guard_ndec (fun _ => ?_) (fun _ => ?_) | refine cond_ndec (fun _ => ?_) (fun _ => ?_) | refine guard_split (fun _ => ?_) (fun _ => ?_) | refine cond_split (fun _ => ?_) (fun _ => ?_)) <;> simp only [↓pre,simprocAttr,parV,sx,tys47,onceA,postU,postV,postX,e1,e2,hv'.len',hv'.addr',hne,hb0,hlt0,w1,w2,hbad',w3,w4,s1,s2,hok,hsx,hcv,hb1,hb2,hlt1,hlt2,w5,w6,w7,w8,IntKind.bits,optNat,Option.map_some,Option.map_none,Nat.mul_one,hbT, *])
      refine app_ents ho.out srcT1a rfl (by have:=hlen.out;omega) (fun v3 m3 ho3 hn3 => ?_)
      refine contW_fixed (by kernel_rfl) ?_
      simp only [↓pre,simprocAttr,parV,sx,tys47,onceA,postU,postV,e1,e2,hok,hsx,w2,s2,optNat,Option.map_some,Option.map_none]
      have hsz:=entOf_size (n:=a.toNat) (r:=q) (by omega)
      have hlng:longN (es++[entOf a.toNat q])=longN es+(3+a.toNat):=by
       rw [longN_app]
       simp [longN,hsz]
      refine ⟨n - (a.toNat+3),by simp only [List.length_cons] at hi;omega,es++[entOf a.toNat q],q.drop (a.toNat+2),v2,y, ?_, ?_,r2', ?_, ?_, ?_, ?_⟩
      ·rw [List.length_drop];simp only [List.length_cons] at hi;omega
      ·simp [Env.set]
      ·have hcells:entCells (es++[entOf a.toNat q])=entCells es++[.val (.string (entOf a.toNat q).1),.val (.int .i64 ((x1.toNat*256+x2.toNat:Nat):Int))]:=by
        rw [entCells_app,hent.out];simp [entCells,intV]
       rw [hcells,List.length_append]
       exact ho3
      ·rw [hpar.out,parse_cons hbad]
       cases parseL (q.drop (a.toNat+2)) <;> simp
      ·rw [hlng,List.length_drop]
       have:=hlen.out
       simp only [List.length_cons] at this
       omega
      ·rw [hlng,List.length_append]
       simp only [List.length_cons,List.length_nil]
       omega
def entsT (l:List Ent) (e:Int):AV := .tup [treeR l.length (entCells l),intV e]
theorem fz_ents (l:List Ent) (e:Int):fzV Tryz.prog (entsRes l e).rows 0 (entsRes l e).v=entsT l e∧fzOk Tryz.prog (entsRes l e).rows 0 (entsRes l e).v=true:=by
 have h1:=fz_ownR (P:=Tryz.prog) 42 l.length (entCells l)
 have h2:=fz_ownR_ok (P:=Tryz.prog) (el:=42) (by kernel_rfl) l.length (entCells l)
 exact ⟨by simp only [entsRes,fzV,fzVs,intV,entsT];rw [h1],by simp [entsRes,fzOk,fzOks,intV,h2]⟩
def prsT (k r c w:Int) (bs:List UInt8):AV:=entsT (if prsE k r c w bs=0 then prsL bs else []) (prsE k r c w bs)
theorem dir_ParseT (k r c w:Int) (v:AV) (bs:List UInt8) (x:List AV) (hv:RdSl v bs.length (bytesA bs++x)) (hn:bs.length≤1000000000):FSpec Tryz.prog 47 [parV k r c w,v] ⟨prsT k r c w bs,[]⟩:=by
 have h:=dir_Parse k r c w v bs x hv hn
 unfold prsT
 split at h
 ·rename_i hc
  have h2:=fspec_frozen 0 h (fz_ents _ _).2
  rw [(fz_ents _ _).1] at h2
  rw [if_pos hc,hc]
  exact h2
 ·rename_i hc
  have h2:=fspec_frozen 0 h (fz_ents _ _).2
  rw [(fz_ents _ _).1] at h2
  rw [if_neg hc]
  exact h2
end Go.Proofs.YtgcicholalgbiaaGreat