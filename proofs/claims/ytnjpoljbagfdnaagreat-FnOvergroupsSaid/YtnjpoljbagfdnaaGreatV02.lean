/- Parts of the proof: GrD, GrC, GrF, Let, CanP, Walk, IsWord, UpW, Whole, LoW, Cpy, UpI, Word, Prod, Subst, Eqn, Sol, SolU, Mark, Put, IIL, SolM, Fmt, EqP, Parts, Sing, Par, ParS, CycP, EqnM, DrawW, Fre, Rgn. -/
import Derived.Test.YtnjpoljbagfdnaaGreatV01
import Derived.Deep.RegionHeld3
import Derived.Outline
namespace Go.Proofs.YtnjpoljbagfdnaaGreat
set_option maxRecDepth 20000
set_option linter.unusedVariables false
set_option linter.unusedSimpArgs false
open Go.RowKit
def insA (y:Int) (xs:List Int) (k:Nat):List Int×Bool:=(xs.take k).foldl (insS cmpI y) ([],false)
theorem insA_succ (y:Int) (xs:List Int) (k:Nat) (h:k<xs.length):insA y xs (k+1)=insS cmpI y (insA y xs k) xs[k]:=by
 unfold insA
 rw[List.take_succ_eq_append_getElem h,List.foldl_append]
 rfl
theorem insA_len (y:Int) (xs:List Int) (k:Nat) (h:k≤xs.length):(insA y xs k).1.length≤2*k:=by
 induction k with
 | zero=>simp[insA]
 | succ k ih=>
   rw[insA_succ y xs k (by omega)]
   have:=ih (by omega)
   unfold insS
   split
   ·simp;omega
   ·split<;>(simp;omega)
set_option maxHeartbeats 1000000 in
theorem l4Add_any (v:Value) (xs:List Int) (y:Int) (w:World) (h:RdI w v xs) (hy:I64 y) (hl:xs.length≤1073741824):
  Calls Tryz.prog 211 #[v, .int .i64 y] w fun e w'=> ∃r,e= .returned r∧OwI w' w.heap.size r (insF cmpI xs y)∧Below w.heap.size w w':=by
 have H:=hDD h
 obtain⟨A,cap,rfl,hcap,hm,hr,hb⟩:=h.arg
 have HR:=hDD hr
 have HY:=hDD hy
 clear h hb hr hy
 go_enter Tryz.func211,Tryz.ntmps211
 go_wp2
 go_loopw [5,6,7] (fun out p i wr=> ∃k:Nat,k≤xs.length∧i= .int .i64 k∧p= .bool (insA y xs k).2∧OwI wr w.heap.size out (insA y xs k).1∧Below w.heap.size w wr)
  (fun _ _ i _=>xs.length-(intOf i).toNat)
 case atStart=>exact⟨0,Nat.zero_le _,rfl,rfl,OwI_lit _ [] I64s_nil (by simp) (Nat.le_refl _),(Below.refl _ _).alloc (Nat.le_refl _) _⟩
 case round=>
  obtain⟨k,hk,rfl,rfl,hown,hbel⟩:=hrel
  have hsz:=hbel.size
  have hal:=insA_len y xs k hk
  by_cases hlt:k<xs.length
  ·obtain⟨b,off,rfl,hbw,hc⟩:=H.out.at (by omega)
   have hcw:=hc k hlt
   have hbl:b<wr.heap.size:=by omega
   have hcell:=(hbel.cell (p:=⟨b,off+k,none⟩) hbw).trans hcw
   have HS:=hDD (insA_succ y xs k hlt)
   have HX:=hDD (HR.out xs[k] (by simp))
   generalize hs:insA y xs k=s at hown HS hal⊢
   obtain⟨o,p⟩:=s
   generalize xs[k]=z at hcell hcw HS HX
   have HCW:=hDD hcw
   clear hc hs hcw
   have HO:=hDD hown
   obtain⟨A1,cap1,rfl,hcap1,hm1,_,_⟩:=hown.form
   clear hown
   simp only at hal
   rcases e1:(z==y) with _ | _
   ·have hzy:z≠y:=by simpa using e1
    by_cases h2:y<z
    ·cases p
     ·have F:Hid (insA y xs (k+1)=(o++ [y,z],true)):=hDD (by rw[HS.out];unfold insS;rw[if_neg (fun e=>hzy (cmpI_zero.1 e).symm),if_pos ⟨cmpI_neg.2 h2,rfl⟩])
      clear hzy
      go_wp2_with (first | ((at_builtin;refine push_int rfl (.tmp 31) (.tmp 33) rfl _ _ _ (OwI.alloc HO.out _) rfl _ _ rfl (cell_new1 _ _ _) HY.out (by first | omega | (simp<;>omega)) (by first | omega | (simp<;>omega)) ?_;intro v1 wv1 o1 g1 p1);have hz1:=g1.size;simp at hz1;have hb1:=bel_push hbel hsz HO.out.1 (Nat.le_refl _) g1;have hcell2:=(hb1.cell (p:=⟨b,off+k,none⟩) hbw).trans HCW.out;clear hb1) | (at_builtin;refine push_int rfl (.tmp 35) (.tmp 40) rfl _ _ _ (OwI.alloc o1 _) rfl _ _ rfl (cell_new1 _ _ _) HX.out (by first | omega | (simp<;>omega)) (by first | omega | (simp<;>omega)) ?_;intro v2 wv2 o2 g2 p2))
      go_roundw
      case rel=>
       have hb1:=bel_push hbel hsz HO.out.1 (Nat.le_refl _) g1
       exact⟨k+1,by omega,by go_num,by rw[F.out],by rw[F.out];simpa using o2,bel_push hb1 hb1.size o1.1 (Nat.le_refl _) g2⟩
      case measure=>simp[intOf];omega
     ·have F:Hid (insA y xs (k+1)=(o++ [z],true)):=hDD (by rw[HS.out];unfold insS;rw[if_neg (fun e=>hzy (cmpI_zero.1 e).symm),if_neg (by simp)])
      clear hzy
      go_wp2_with (at_builtin;refine push_int rfl (.tmp 35) (.tmp 40) rfl _ _ _ (OwI.alloc HO.out _) rfl _ _ rfl (cell_new1 _ _ _) HX.out (by first | omega | (simp<;>omega)) (by first | omega | (simp<;>omega)) ?_;intro v2 wv2 o2 g2 p2)
      go_roundw
      case rel=>exact⟨k+1,by omega,by go_num,by rw[F.out],by rw[F.out];exact o2,bel_push hbel hsz HO.out.1 (Nat.le_refl _) g2⟩
      case measure=>simp[intOf];omega
    ·have F:Hid (insA y xs (k+1)=(o++ [z],p)):=hDD (by rw[HS.out];unfold insS;rw[if_neg (fun e=>hzy (cmpI_zero.1 e).symm),if_neg (fun e=>h2 (cmpI_neg.1 e.1))])
     clear hzy
     go_wp2_with (at_builtin;refine push_int rfl (.tmp 35) (.tmp 40) rfl _ _ _ (OwI.alloc HO.out _) rfl _ _ rfl (cell_new1 _ _ _) HX.out (by first | omega | (simp<;>omega)) (by first | omega | (simp<;>omega)) ?_;intro v2 wv2 o2 g2 p2)
     go_roundw
     case rel=>exact⟨k+1,by omega,by go_num,by rw[F.out],by rw[F.out];exact o2,bel_push hbel hsz HO.out.1 (Nat.le_refl _) g2⟩
     case measure=>simp[intOf];omega
   ·have hzy:z=y:=by simpa using e1
    have F:Hid (insA y xs (k+1)=(o++ [z],true)):=hDD (by rw[HS.out];unfold insS;rw[if_pos (cmpI_zero.2 hzy.symm)])
    have h2: ¬y<z:=by omega
    clear hzy
    go_wp2_with (at_builtin;refine push_int rfl (.tmp 35) (.tmp 40) rfl _ _ _ (OwI.alloc HO.out _) rfl _ _ rfl (cell_new1 _ _ _) HX.out (by first | omega | (simp<;>omega)) (by first | omega | (simp<;>omega)) ?_;intro v2 wv2 o2 g2 p2)
    go_roundw
    case rel=>exact⟨k+1,by omega,by go_num,by rw[F.out],by rw[F.out];exact o2,bel_push hbel hsz HO.out.1 (Nat.le_refl _) g2⟩
    case measure=>simp[intOf];omega
  ·obtain rfl:k=xs.length:=by omega
   have HF:Hid (insF cmpI xs y=if(insA y xs xs.length).2 then(insA y xs xs.length).1 else(insA y xs xs.length).1++ [y]):=hDD (by unfold insF insA;rw[List.take_length])
   generalize insA y xs xs.length=s at hown HF hal⊢
   obtain⟨o,p⟩:=s
   have HO:=hDD hown
   obtain⟨A1,cap1,rfl,hcap1,hm1,_,_⟩:=hown.form
   clear hown
   simp only at hal
   cases p
   ·go_wp2_with (at_builtin;refine push_int rfl (.tmp 44) (.tmp 46) rfl _ _ _ (OwI.alloc HO.out _) rfl _ _ rfl (cell_new1 _ _ _) HY.out (by first | omega | (simp<;>omega)) (by first | omega | (simp<;>omega)) ?_;intro v2 wv2 o2 g2 p2)
    go_ret
    exact⟨_,rfl,by rw[HF.out];exact o2,bel_push hbel hsz HO.out.1 (Nat.le_refl _) g2⟩
   ·go_wp2
    go_ret
    exact⟨_,rfl,by rw[HF.out];exact HO.out,hbel⟩
def mt (v x:Int) (e:EdD):Option Int:=
 if 0<x then(if e.2.1=x∧e.1=v then some e.2.2 else none) else if x<0 then(if e.2.1=wrap64 (-x)∧e.2.2=v then some e.1 else none) else none
def stepsL (es:List EdD) (v x:Int):List Int:=es.filterMap (mt v x)
def nextV (es:List EdD) (v x:Int):Int:=(stepsL es v x).headD (-1)
theorem stepsL_succ (es:List EdD) (v x:Int) (k:Nat) (h:k<es.length):stepsL (es.take (k+1)) v x=stepsL (es.take k) v x++(mt v x es[k]).toList:=by
 unfold stepsL
 rw[List.take_succ_eq_append_getElem h,List.filterMap_append]
 congr 1
theorem stepsL_take (es:List EdD) (v x:Int) (k:Nat):(stepsL (es.take k) v x).length≤(stepsL es v x).length:=by
 unfold stepsL
 conv=>rhs;rw[←List.take_append_drop k es,List.filterMap_append]
 simp
theorem insF_one (y:Int):insF cmpI [] y= [y]:=by rw[insF_eq];rfl
set_option maxHeartbeats 2000000 in
theorem specStepsFrom_any (v:Value) (g:GrD) (u x:Int) (w:World) (h:ArgG w v g) (hone:(stepsL g.2.2 u x).length≤1):
  Calls Tryz.prog 164 #[v, .int .i64 u, .int .i64 x] w fun e w'=> ∃r,e= .returned r∧OwI w' w.heap.size r (stepsL g.2.2 u x)∧Below w.heap.size w w':=by
 obtain⟨s,rfl,_,_,ha⟩:=h
 have H:=hDD ha
 obtain⟨A,cap,rfl,hcap,hm,_,hr,_⟩:=ha
 have HR:=hDD hr
 unfold maxLen at hm
 clear hr
 go_enter Tryz.func164,Tryz.ntmps164
 go_wp2
 have hb:Below w.heap.size w ((w.alloc (Obj.cells #[Value.int IntKind.i64 g.1,Value.int IntKind.i64 g.2.1, .slice A g.2.2.length cap] 26)).alloc (Obj.cells #[] 3)):=(by repeat(first | exact Below.refl _ _ | (refine Below.setCell ?_ (by first | omega | (simp<;>omega)) _) | (refine bel_drewN ?_ _) | (refine Below.drew ?_) | (refine Below.alloc ?_ (by first | omega | (simp<;>omega)) _)))
 have k2:((w.alloc (Obj.cells #[Value.int IntKind.i64 g.1,Value.int IntKind.i64 g.2.1, .slice A g.2.2.length cap] 26)).alloc (Obj.cells #[] 3)).cell? ⟨w.heap.size,2,none⟩=some (.slice A g.2.2.length cap):=by simp[go_sem]
 have hs0:w.heap.size+1<((w.alloc (Obj.cells #[Value.int IntKind.i64 g.1,Value.int IntKind.i64 g.2.1, .slice A g.2.2.length cap] 26)).alloc (Obj.cells #[] 3)).heap.size:=by simp
 have o0:OwI ((w.alloc (Obj.cells #[Value.int IntKind.i64 g.1,Value.int IntKind.i64 g.2.1, .slice A g.2.2.length cap] 26)).alloc (Obj.cells #[] 3)) (w.heap.size+1) (.slice (some ⟨w.heap.size+1,0,none⟩) 0 0) []:=OwI_litN (w.alloc (Obj.cells #[Value.int IntKind.i64 g.1,Value.int IntKind.i64 g.2.1, .slice A g.2.2.length cap] 26)) [] (w.heap.size+1) (by simp) I64s_nil (by simp) (Nat.le_refl _)
 generalize (w.alloc (Obj.cells #[Value.int IntKind.i64 g.1,Value.int IntKind.i64 g.2.1, .slice A g.2.2.length cap] 26)).alloc (Obj.cells #[] 3)=w1 at hb k2 hs0 o0⊢
 have HB:=hDD hb
 have K2:=hDD k2
 have O0:=hDD o0
 clear hb k2 o0
 go_loopw [7,8] (fun out i wr=> ∃k:Nat,k≤g.2.2.length∧i= .int .i64 k∧OwI wr (w.heap.size+1) out (stepsL (g.2.2.take k) u x)∧Below (w.heap.size+1) w1 wr) (fun _ i _=>g.2.2.length-(intOf i).toNat)
 case atStart=>exact⟨0,Nat.zero_le _,rfl,O0.out,Below.refl _ _⟩
 case round=>
  obtain⟨k,hk,rfl,hown,hbel⟩:=hrel
  have hsz:=hbel.size
  have HB3:=hDD (HB.out.trans (hbel.mono (by omega)))
  have p2:=(hbel.cell (p:=⟨w.heap.size,2,none⟩) (show w.heap.size<w.heap.size+1 by omega)).trans K2.out
  have HO:=hDD hown
  have HB2:=hDD hbel
  obtain⟨A1,cap1,rfl,hcap1,hm1,_,_⟩:=hown.form
  clear hbel
  by_cases hlt:k<g.2.2.length
  ·obtain⟨b,off,rfl,hbl,c0,c1,c2,_⟩:=(H.out.below HB3.out).at hlt
   have HS:=hDD (stepsL_succ g.2.2 u x k hlt)
   have HX:=hDD (HR.out g.2.2[k] (by simp))
   have hl1:=stepsL_take g.2.2 u x (k+1)
   have HL1:Hid ((stepsL (g.2.2.take (k+1)) u x).length≤1):=hDD (by omega)
   clear hl1 hown
   generalize g.2.2[k]=e at*
   obtain⟨f,l,t⟩:=e
   simp only at c0 c1 c2
   have keep:mt u x (f,l,t)=none→stepsL (g.2.2.take (k+1)) u x=stepsL (g.2.2.take k) u x:=fun e=>by rw[HS.out,e];simp
   have KE:=hDD keep
   have put: ∀y,mt u x (f,l,t)=some y→stepsL (g.2.2.take k) u x= []∧stepsL (g.2.2.take (k+1)) u x= [y]:=fun y e=>by
    have h1:=HS.out
    have h2:=HL1.out
    rw[e] at h1
    rw[h1] at h2
    simp at h2
    refine⟨h2,by rw[h1,h2];rfl⟩
   have PU:=hDD put
   clear keep put
   by_cases hp:0<x
   ·have hn: ¬x<0:=by omega
    rcases e1:(l==x) with _ | _
    ·have F:=hDD (KE.out (by simp at e1;simp[mt,hp,e1]))
     go_wp2
     go_roundw
     case rel=>exact⟨k+1,by omega,by go_num,by rw[F.out];exact HO.out.alloc _,HB2.out.alloc (by omega) _⟩
     case measure=>simp[intOf];omega
    ·rcases e2:(f==u) with _ | _
     ·have F:=hDD (KE.out (by simp at e2;simp[mt,hp,e2]))
      go_wp2
      go_roundw
      case rel=>exact⟨k+1,by omega,by go_num,by rw[F.out];exact HO.out.alloc _,HB2.out.alloc (by omega) _⟩
      case measure=>simp[intOf];omega
     ·have F:=hDD (PU.out t (by simp at e1 e2;simp[mt,hp,e1,e2]))
      have HO2:=HO.out
      rw[F.out.1] at HO2
      have HO3:=hDD HO2
      clear HO2
      have hz:(stepsL (g.2.2.take k) u x).length=0:=by rw[F.out.1];rfl
      rw[hz]
      go_wp2_with fail
      refine(l4Add_any _ [] t _ ((HO3.out.alloc _).rd) HX.out.2.2 (by simp)).mono ?_
      rintro e w9 ⟨r9,rfl,o9,b9⟩
      rw[insF_one] at o9
      have O9:=hDD (o9.mono (base':=w.heap.size+1) (by simp;omega))
      have B9:Hid (Below (w.heap.size+1) w1 w9):=hDD ((HB2.out.alloc (by omega) _).trans (b9.mono (by simp;omega)))
      obtain⟨A9,cap9,rfl,_⟩:=o9.form
      clear o9 b9
      go_wp2
      go_roundw
      case rel=>exact⟨k+1,by omega,by go_num,by rw[F.out.2];exact O9.out,B9.out⟩
      case measure=>simp[intOf];omega
   ·by_cases hn:x<0
    ·rcases e1:(l==wrap64 (-x)) with _ | _
     ·have F:=hDD (KE.out (by simp at e1;simp[mt,hp,hn,e1]))
      go_wp2
      go_roundw
      case rel=>exact⟨k+1,by omega,by go_num,by rw[F.out];exact HO.out.alloc _,HB2.out.alloc (by omega) _⟩
      case measure=>simp[intOf];omega
     ·rcases e2:(t==u) with _ | _
      ·have F:=hDD (KE.out (by simp at e2;simp[mt,hp,hn,e2]))
       go_wp2
       go_roundw
       case rel=>exact⟨k+1,by omega,by go_num,by rw[F.out];exact HO.out.alloc _,HB2.out.alloc (by omega) _⟩
       case measure=>simp[intOf];omega
      ·have F:=hDD (PU.out f (by simp at e1 e2;simp[mt,hp,hn,e1,e2]))
       have HO2:=HO.out
       rw[F.out.1] at HO2
       have HO3:=hDD HO2
       clear HO2
       have hz:(stepsL (g.2.2.take k) u x).length=0:=by rw[F.out.1];rfl
       rw[hz]
       go_wp2_with fail
       refine(l4Add_any _ [] f _ ((HO3.out.alloc _).rd) HX.out.1 (by simp)).mono ?_
       rintro e w9 ⟨r9,rfl,o9,b9⟩
       rw[insF_one] at o9
       have O9:=hDD (o9.mono (base':=w.heap.size+1) (by simp;omega))
       have B9:Hid (Below (w.heap.size+1) w1 w9):=hDD ((HB2.out.alloc (by omega) _).trans (b9.mono (by simp;omega)))
       obtain⟨A9,cap9,rfl,_⟩:=o9.form
       clear o9 b9
       go_wp2
       go_roundw
       case rel=>exact⟨k+1,by omega,by go_num,by rw[F.out.2];exact O9.out,B9.out⟩
       case measure=>simp[intOf];omega
    ·have F:=hDD (KE.out (by simp[mt,hp,hn]))
     go_wp2
     go_roundw
     case rel=>exact⟨k+1,by omega,by go_num,by rw[F.out];exact HO.out.alloc _,HB2.out.alloc (by omega) _⟩
     case measure=>simp[intOf];omega
  ·obtain rfl:k=g.2.2.length:=by omega
   clear hown
   go_wp2
   go_ret
   exact⟨_,rfl,by have:=HO.out.mono (base':=w.heap.size) (by omega);rw[List.take_length] at this;rw[List.take_length];exact this,HB3.out⟩
set_option maxHeartbeats 1000000 in
theorem specNextVertex_any (v:Value) (g:GrD) (u x:Int) (w:World) (h:ArgG w v g) (hone:(stepsL g.2.2 u x).length≤1):
  Calls Tryz.prog 86 #[v, .int .i64 u, .int .i64 x] w fun e w'=>e= .returned (.int .i64 (nextV g.2.2 u x))∧Below w.heap.size w w':=by
 have H:=hDD h
 obtain⟨s,rfl,_,_,ha⟩:=h
 obtain⟨A,cap,rfl⟩:=ha.form
 obtain⟨R,hR⟩: ∃R,R=nextV g.2.2 u x:=⟨_,rfl⟩
 rw[←hR]
 unfold nextV at hR
 have HR:=hDD hR
 clear hR
 go_enter Tryz.func86,Tryz.ntmps86
 go_wp2_with fail
 have hb:Below w.heap.size w (w.alloc (Obj.cells #[Value.int IntKind.i64 g.1,Value.int IntKind.i64 g.2.1, .slice A g.2.2.length cap] 26)):=(by repeat(first | exact Below.refl _ _ | (refine Below.setCell ?_ (by first | omega | (simp<;>omega)) _) | (refine bel_drewN ?_ _) | (refine Below.drew ?_) | (refine Below.alloc ?_ (by first | omega | (simp<;>omega)) _)))
 refine(specStepsFrom_any _ g u x _ (H.out.below hb) hone).mono ?_
 rintro e w1 ⟨r,rfl,o1,b1⟩
 have B1:=hDD (hb.trans (b1.mono hb.size))
 generalize stepsL g.2.2 u x=L at o1 HR
 clear hb b1 ha
 obtain⟨A1,cap1,rfl,hc1,hm1,_,_⟩:=o1.form
 match L,o1,HR with
 | [],o1,HR=>
   have F:Hid (R= -1):=HR
   clear o1
   go_wp2
   go_ret
   exact⟨ret_int F.out.symm,B1.out⟩
 | y::L,o1,HR=>
   obtain rfl:R=y:=HR.out
   clear HR
   obtain⟨b,off,rfl,hbl,hc⟩:=o1.rd.at (by simp)
   have c0:=hc 0 (by simp)
   simp only[List.getElem_cons_zero,Nat.add_zero] at c0
   clear o1 hc
   go_wp2
   go_ret
   exact⟨rfl,B1.out⟩
end Go.Proofs.YtnjpoljbagfdnaaGreat
namespace Go.Proofs.YtnjpoljbagfdnaaGreat
set_option maxRecDepth 20000
set_option linter.unusedVariables false
set_option linter.unusedSimpArgs false
open Go.RowKit
set_option maxHeartbeats 2000000 in
theorem implIsGraph_any (v:Value) (g:GrD) (w:World) (h:ArgG w v g):
  Calls Tryz.prog 187 #[v] w fun e w'=>e= .returned (.bool (grB g))∧Below w.heap.size w w':=by
 obtain⟨s,rfl,_,_,ha⟩:=h
 have H:=hDD ha
 obtain⟨A,cap,rfl,hcap,hm,_⟩:=ha
 unfold maxLen at hm
 rcases t1:inB g.1 1 3 with _ | _
 ·go_enter Tryz.func187,Tryz.ntmps187
  go_wp2_with (go_at_call 137;refine(within_any _ _ _ _).mono ?_;rintro e w' ⟨rfl,rfl⟩)
  go_ret
  exact⟨ret_bool (by unfold grB;rw[t1];rfl),(by repeat(first | exact Below.refl _ _ | (refine Below.setCell ?_ (by first | omega | (simp<;>omega)) _) | (refine bel_drewN ?_ _) | (refine Below.drew ?_) | (refine Below.alloc ?_ (by first | omega | (simp<;>omega)) _)))⟩
 rcases t2:inB g.2.1 1 40 with _ | _
 ·go_enter Tryz.func187,Tryz.ntmps187
  go_wp2_with (go_at_call 137;refine(within_any _ _ _ _).mono ?_;rintro e w' ⟨rfl,rfl⟩)
  go_ret
  exact⟨ret_bool (by unfold grB;rw[t1,t2];rfl),(by repeat(first | exact Below.refl _ _ | (refine Below.setCell ?_ (by first | omega | (simp<;>omega)) _) | (refine bel_drewN ?_ _) | (refine Below.drew ?_) | (refine Below.alloc ?_ (by first | omega | (simp<;>omega)) _)))⟩
 by_cases t3:120<g.2.2.length
 ·go_enter Tryz.func187,Tryz.ntmps187
  go_wp2_with (go_at_call 137;refine(within_any _ _ _ _).mono ?_;rintro e w' ⟨rfl,rfl⟩)
  go_ret
  exact⟨ret_bool (by unfold grB;rw[t1,t2,decide_eq_false (by omega)];rfl),(by repeat(first | exact Below.refl _ _ | (refine Below.setCell ?_ (by first | omega | (simp<;>omega)) _) | (refine bel_drewN ?_ _) | (refine Below.drew ?_) | (refine Below.alloc ?_ (by first | omega | (simp<;>omega)) _)))⟩
 go_enter Tryz.func187,Tryz.ntmps187
 go_wp2_with (go_at_call 137;refine(within_any _ _ _ _).mono ?_;rintro e w' ⟨rfl,rfl⟩)
 have hb:Below w.heap.size w (w.alloc (Obj.cells #[Value.int IntKind.i64 g.1,Value.int IntKind.i64 g.2.1, .slice A g.2.2.length cap] 26)):=(by repeat(first | exact Below.refl _ _ | (refine Below.setCell ?_ (by first | omega | (simp<;>omega)) _) | (refine bel_drewN ?_ _) | (refine Below.drew ?_) | (refine Below.alloc ?_ (by first | omega | (simp<;>omega)) _)))
 have k0:(w.alloc (Obj.cells #[Value.int IntKind.i64 g.1,Value.int IntKind.i64 g.2.1, .slice A g.2.2.length cap] 26)).cell? ⟨w.heap.size,0,none⟩=some (.int .i64 g.1):=by simp[go_sem]
 have k1:(w.alloc (Obj.cells #[Value.int IntKind.i64 g.1,Value.int IntKind.i64 g.2.1, .slice A g.2.2.length cap] 26)).cell? ⟨w.heap.size,1,none⟩=some (.int .i64 g.2.1):=by simp[go_sem]
 have k2:(w.alloc (Obj.cells #[Value.int IntKind.i64 g.1,Value.int IntKind.i64 g.2.1, .slice A g.2.2.length cap] 26)).cell? ⟨w.heap.size,2,none⟩=some (.slice A g.2.2.length cap):=by simp[go_sem]
 have hs0:w.heap.size<(w.alloc (Obj.cells #[Value.int IntKind.i64 g.1,Value.int IntKind.i64 g.2.1, .slice A g.2.2.length cap] 26)).heap.size:=by simp
 generalize w.alloc (Obj.cells #[Value.int IntKind.i64 g.1,Value.int IntKind.i64 g.2.1, .slice A g.2.2.length cap] 26)=w1 at hb k0 k1 k2 hs0⊢
 have HB:=hDD hb
 have K0:=hDD k0
 have K1:=hDD k1
 have K2:=hDD k2
 clear hb
 clear k0 k1 k2
 go_loopw [24] (fun i wr=> ∃k:Nat,k≤g.2.2.length∧i= .int .i64 k∧(∀j,j<k→okE g j=true)∧Below w1.heap.size w1 wr) (fun i _=>g.2.2.length-(intOf i).toNat)
 case atStart=>exact⟨0,Nat.zero_le _,rfl,fun j hj=>absurd hj (by omega),Below.refl _ _⟩
 case round=>
  obtain⟨k,hk,rfl,hall,hbel⟩:=hrel
  have HA:=hDD hall
  have HB2:=hDD hbel
  have HB3:=hDD (HB.out.trans (hbel.mono HB.out.size))
  have hsz:=hbel.size
  have p0:=(hbel.cell (p:=⟨w.heap.size,0,none⟩) hs0).trans K0.out
  have p1:=(hbel.cell (p:=⟨w.heap.size,1,none⟩) hs0).trans K1.out
  have p2:=(hbel.cell (p:=⟨w.heap.size,2,none⟩) hs0).trans K2.out
  have hws:w.heap.size<wr.heap.size:=by omega
  by_cases hlt:k<g.2.2.length
  ·obtain⟨b,off,rfl,hbl,c0,c1,c2,_⟩:=(H.out.below HB3.out).at hlt
   have ST:Hid (okE g k=true→ ∀j,j<k+1→okE g j=true):=hDD fun F j hj=>by
    rcases Nat.lt_or_eq_of_le (Nat.le_of_lt_succ hj) with hj | rfl
    ·exact HA.out j hj
    ·exact F
   have FA:Hid (okE g k=false→grB g=false):=hDD (grB_false k hlt)
   clear hall hbel
   by_cases h0:0<k
   ·obtain⟨j,rfl⟩: ∃j,k=j+1:=⟨k-1,by omega⟩
    obtain⟨b2,off2,hA2,_,d0,d1,d2,_⟩:=(H.out.below HB3.out).at (k:=j) (by omega)
    obtain⟨rfl,rfl⟩:b=b2∧off=off2:=by simpa using hA2
    have HZ:Hid (okE g (j+1)=(edgeOk g.1 g.2.1 g.2.2[j+1]&& !decide (0≤cmpE g.2.2[j] g.2.2[j+1]))):=hDD (okE_pos h0 hlt)
    have i0:(0:Int)≤(j:Int):=by omega
    have i1:(j:Int)<(g.2.2.length:Int):=by omega
    have i2:(j:Int)+1<(g.2.2.length:Int):=by omega
    clear hA2 h0
    generalize g.2.2[j]=y at d0 d1 d2 HZ
    generalize g.2.2[j+1]=x at c0 c1 c2 HZ
    have hE:=fun w=>accepts_any g.1 g.2.1 (some ⟨b,off,none⟩) g.2.2.length cap x w
    rcases e1:edgeOk g.1 g.2.1 x with _ | _
    ·have F:Hid (okE g (j+1)=false):=hDD (by rw[HZ.out,e1];rfl)
     simp only[e1] at hE
     have HE:=hDD hE
     clear hE
     go_wp2_with fail
     obtain⟨W,hW⟩: ∃W,W=World.alloc wr (Obj.cells #[.int .i64 x.1, .int .i64 x.2.1, .int .i64 x.2.2] 97):=⟨_,rfl⟩
     rw[←hW]
     have bW:Below wr.heap.size wr W:=by rw[hW];exact(Below.refl _ _).alloc (Nat.le_refl _) _
     have sW:wr.heap.size<W.heap.size:=by rw[hW];simp
     replace p0:=(bW.cell (p:=⟨w.heap.size,0,none⟩) (show w.heap.size<wr.heap.size by omega)).trans p0
     replace p1:=(bW.cell (p:=⟨w.heap.size,1,none⟩) (show w.heap.size<wr.heap.size by omega)).trans p1
     replace p2:=(bW.cell (p:=⟨w.heap.size,2,none⟩) (show w.heap.size<wr.heap.size by omega)).trans p2
     replace c0:=(bW.cell (p:=⟨b,off+(j+1)*3,none⟩) (show b<wr.heap.size by omega)).trans c0
     replace c1:=(bW.cell (p:=⟨b,off+(j+1)*3+1,none⟩) (show b<wr.heap.size by omega)).trans c1
     replace c2:=(bW.cell (p:=⟨b,off+(j+1)*3+2,none⟩) (show b<wr.heap.size by omega)).trans c2
     replace d0:=(bW.cell (p:=⟨b,off+j*3,none⟩) (show b<wr.heap.size by omega)).trans d0
     replace d1:=(bW.cell (p:=⟨b,off+j*3+1,none⟩) (show b<wr.heap.size by omega)).trans d1
     replace d2:=(bW.cell (p:=⟨b,off+j*3+2,none⟩) (show b<wr.heap.size by omega)).trans d2
     have l0:W.cell? ⟨wr.heap.size,0,none⟩=some (.int .i64 x.1):=by rw[hW];simp[go_sem]
     have l1:W.cell? ⟨wr.heap.size,1,none⟩=some (.int .i64 x.2.1):=by rw[hW];simp[go_sem]
     have l2:W.cell? ⟨wr.heap.size,2,none⟩=some (.int .i64 x.2.2):=by rw[hW];simp[go_sem]
     clear hW
     have f0:=BelW.cell p0 (show w.heap.size<W.heap.size by omega)
     have f1:=BelW.cell p1 (show w.heap.size<W.heap.size by omega)
     have f2:=BelW.cell p2 (show w.heap.size<W.heap.size by omega)
     have f3:=BelW.cell c0 (show b<W.heap.size by omega)
     have f4:=BelW.cell c1 (show b<W.heap.size by omega)
     have f5:=BelW.cell c2 (show b<W.heap.size by omega)
     have f6:=BelW.cell d0 (show b<W.heap.size by omega)
     have f7:=BelW.cell d1 (show b<W.heap.size by omega)
     have f8:=BelW.cell d2 (show b<W.heap.size by omega)
     have f9:=BelW.cell l0 (show wr.heap.size<W.heap.size by omega)
     have f10:=BelW.cell l1 (show wr.heap.size<W.heap.size by omega)
     have f11:=BelW.cell l2 (show wr.heap.size<W.heap.size by omega)
     (refine wp_region_quiet_bel (by kernel_rfl) (by kernel_rfl) ?_;(repeat(go_big_quiet_step (first | (go_at_call 227;exact Calls.bel_of (HE.out _)))));refine wpQuiet_nil ?_;intro wq hw';obtain⟨pq,hw''⟩:=hw';have bq:=pq.h;rw[←hw''] at bq;clear hw'' pq)
     clear f0 f1 f2 f3 f4 f5 f6 f7 f8 f9 f10 f11
     go_wp2
     go_ret
     exact⟨ret_bool (FA.out F.out).symm,(HB3.out.trans (bW.mono (by omega))).trans (bq.mono (by omega))⟩
    ·simp only[e1] at hE
     have HE:=hDD hE
     clear hE
     rcases e2:decide (0≤cmpE y x) with _ | _
     ·have F:Hid (okE g (j+1)=true):=hDD (by rw[HZ.out,e1,e2];rfl)
      go_wp2_with fail
      obtain⟨W,hW⟩: ∃W,W=World.alloc wr (Obj.cells #[.int .i64 x.1, .int .i64 x.2.1, .int .i64 x.2.2] 97):=⟨_,rfl⟩
      rw[←hW]
      have bW:Below wr.heap.size wr W:=by rw[hW];exact(Below.refl _ _).alloc (Nat.le_refl _) _
      have sW:wr.heap.size<W.heap.size:=by rw[hW];simp
      replace p0:=(bW.cell (p:=⟨w.heap.size,0,none⟩) (show w.heap.size<wr.heap.size by omega)).trans p0
      replace p1:=(bW.cell (p:=⟨w.heap.size,1,none⟩) (show w.heap.size<wr.heap.size by omega)).trans p1
      replace p2:=(bW.cell (p:=⟨w.heap.size,2,none⟩) (show w.heap.size<wr.heap.size by omega)).trans p2
      replace c0:=(bW.cell (p:=⟨b,off+(j+1)*3,none⟩) (show b<wr.heap.size by omega)).trans c0
      replace c1:=(bW.cell (p:=⟨b,off+(j+1)*3+1,none⟩) (show b<wr.heap.size by omega)).trans c1
      replace c2:=(bW.cell (p:=⟨b,off+(j+1)*3+2,none⟩) (show b<wr.heap.size by omega)).trans c2
      replace d0:=(bW.cell (p:=⟨b,off+j*3,none⟩) (show b<wr.heap.size by omega)).trans d0
      replace d1:=(bW.cell (p:=⟨b,off+j*3+1,none⟩) (show b<wr.heap.size by omega)).trans d1
      replace d2:=(bW.cell (p:=⟨b,off+j*3+2,none⟩) (show b<wr.heap.size by omega)).trans d2
      have l0:W.cell? ⟨wr.heap.size,0,none⟩=some (.int .i64 x.1):=by rw[hW];simp[go_sem]
      have l1:W.cell? ⟨wr.heap.size,1,none⟩=some (.int .i64 x.2.1):=by rw[hW];simp[go_sem]
      have l2:W.cell? ⟨wr.heap.size,2,none⟩=some (.int .i64 x.2.2):=by rw[hW];simp[go_sem]
      clear hW
      have f0:=BelW.cell p0 (show w.heap.size<W.heap.size by omega)
      have f1:=BelW.cell p1 (show w.heap.size<W.heap.size by omega)
      have f2:=BelW.cell p2 (show w.heap.size<W.heap.size by omega)
      have f3:=BelW.cell c0 (show b<W.heap.size by omega)
      have f4:=BelW.cell c1 (show b<W.heap.size by omega)
      have f5:=BelW.cell c2 (show b<W.heap.size by omega)
      have f6:=BelW.cell d0 (show b<W.heap.size by omega)
      have f7:=BelW.cell d1 (show b<W.heap.size by omega)
      have f8:=BelW.cell d2 (show b<W.heap.size by omega)
      have f9:=BelW.cell l0 (show wr.heap.size<W.heap.size by omega)
      have f10:=BelW.cell l1 (show wr.heap.size<W.heap.size by omega)
      have f11:=BelW.cell l2 (show wr.heap.size<W.heap.size by omega)
      (refine wp_region_quiet_bel (by kernel_rfl) (by kernel_rfl) ?_;(repeat(go_big_quiet_step (first | (go_at_call 227;exact Calls.bel_of (HE.out _)) | (go_at_call 218;exact Calls.bel_of (implCompareEdges_any y x _)))));refine wpQuiet_nil ?_;intro wq hw';obtain⟨pq,hw''⟩:=hw';have bq:=pq.h;rw[←hw''] at bq;clear hw'' pq)
      clear f0 f1 f2 f3 f4 f5 f6 f7 f8 f9 f10 f11
      go_wp2
      go_roundw
      case rel=>exact⟨j+1+1,by omega,by go_num,ST.out F.out,(HB2.out.trans (bW.mono (by omega))).trans (bq.mono (by omega))⟩
      case measure=>simp[intOf];omega
     ·have F:Hid (okE g (j+1)=false):=hDD (by rw[HZ.out,e1,e2];rfl)
      go_wp2_with fail
      obtain⟨W,hW⟩: ∃W,W=World.alloc wr (Obj.cells #[.int .i64 x.1, .int .i64 x.2.1, .int .i64 x.2.2] 97):=⟨_,rfl⟩
      rw[←hW]
      have bW:Below wr.heap.size wr W:=by rw[hW];exact(Below.refl _ _).alloc (Nat.le_refl _) _
      have sW:wr.heap.size<W.heap.size:=by rw[hW];simp
      replace p0:=(bW.cell (p:=⟨w.heap.size,0,none⟩) (show w.heap.size<wr.heap.size by omega)).trans p0
      replace p1:=(bW.cell (p:=⟨w.heap.size,1,none⟩) (show w.heap.size<wr.heap.size by omega)).trans p1
      replace p2:=(bW.cell (p:=⟨w.heap.size,2,none⟩) (show w.heap.size<wr.heap.size by omega)).trans p2
      replace c0:=(bW.cell (p:=⟨b,off+(j+1)*3,none⟩) (show b<wr.heap.size by omega)).trans c0
      replace c1:=(bW.cell (p:=⟨b,off+(j+1)*3+1,none⟩) (show b<wr.heap.size by omega)).trans c1
      replace c2:=(bW.cell (p:=⟨b,off+(j+1)*3+2,none⟩) (show b<wr.heap.size by omega)).trans c2
      replace d0:=(bW.cell (p:=⟨b,off+j*3,none⟩) (show b<wr.heap.size by omega)).trans d0
      replace d1:=(bW.cell (p:=⟨b,off+j*3+1,none⟩) (show b<wr.heap.size by omega)).trans d1
      replace d2:=(bW.cell (p:=⟨b,off+j*3+2,none⟩) (show b<wr.heap.size by omega)).trans d2
      have l0:W.cell? ⟨wr.heap.size,0,none⟩=some (.int .i64 x.1):=by rw[hW];simp[go_sem]
      have l1:W.cell? ⟨wr.heap.size,1,none⟩=some (.int .i64 x.2.1):=by rw[hW];simp[go_sem]
      have l2:W.cell? ⟨wr.heap.size,2,none⟩=some (.int .i64 x.2.2):=by rw[hW];simp[go_sem]
      clear hW
      have f0:=BelW.cell p0 (show w.heap.size<W.heap.size by omega)
      have f1:=BelW.cell p1 (show w.heap.size<W.heap.size by omega)
      have f2:=BelW.cell p2 (show w.heap.size<W.heap.size by omega)
      have f3:=BelW.cell c0 (show b<W.heap.size by omega)
      have f4:=BelW.cell c1 (show b<W.heap.size by omega)
      have f5:=BelW.cell c2 (show b<W.heap.size by omega)
      have f6:=BelW.cell d0 (show b<W.heap.size by omega)
      have f7:=BelW.cell d1 (show b<W.heap.size by omega)
      have f8:=BelW.cell d2 (show b<W.heap.size by omega)
      have f9:=BelW.cell l0 (show wr.heap.size<W.heap.size by omega)
      have f10:=BelW.cell l1 (show wr.heap.size<W.heap.size by omega)
      have f11:=BelW.cell l2 (show wr.heap.size<W.heap.size by omega)
      (refine wp_region_quiet_bel (by kernel_rfl) (by kernel_rfl) ?_;(repeat(go_big_quiet_step (first | (go_at_call 227;exact Calls.bel_of (HE.out _)) | (go_at_call 218;exact Calls.bel_of (implCompareEdges_any y x _)))));refine wpQuiet_nil ?_;intro wq hw';obtain⟨pq,hw''⟩:=hw';have bq:=pq.h;rw[←hw''] at bq;clear hw'' pq)
      clear f0 f1 f2 f3 f4 f5 f6 f7 f8 f9 f10 f11
      go_wp2
      go_ret
      exact⟨ret_bool (FA.out F.out).symm,(HB3.out.trans (bW.mono (by omega))).trans (bq.mono (by omega))⟩
   ·obtain rfl:k=0:=by omega
    have HZ:=hDD (okE_zero hlt)
    generalize g.2.2[0]=x at c0 c1 c2 HZ
    simp only[Nat.zero_mul,Nat.add_zero] at c0 c1 c2
    have hE:=fun w=>accepts_any g.1 g.2.1 (some ⟨b,off,none⟩) g.2.2.length cap x w
    rcases e1:edgeOk g.1 g.2.1 x with _ | _
    ·have F:Hid (okE g 0=false):=hDD (by rw[HZ.out,e1])
     simp only[e1] at hE
     have HE:=hDD hE
     clear hE
     go_wp2_with fail
     obtain⟨W,hW⟩: ∃W,W=World.alloc wr (Obj.cells #[.int .i64 x.1, .int .i64 x.2.1, .int .i64 x.2.2] 97):=⟨_,rfl⟩
     rw[←hW]
     have bW:Below wr.heap.size wr W:=by rw[hW];exact(Below.refl _ _).alloc (Nat.le_refl _) _
     have sW:wr.heap.size<W.heap.size:=by rw[hW];simp
     replace p0:=(bW.cell (p:=⟨w.heap.size,0,none⟩) (show w.heap.size<wr.heap.size by omega)).trans p0
     replace p1:=(bW.cell (p:=⟨w.heap.size,1,none⟩) (show w.heap.size<wr.heap.size by omega)).trans p1
     replace p2:=(bW.cell (p:=⟨w.heap.size,2,none⟩) (show w.heap.size<wr.heap.size by omega)).trans p2
     replace c0:=(bW.cell (p:=⟨b,off,none⟩) (show b<wr.heap.size by omega)).trans c0
     replace c1:=(bW.cell (p:=⟨b,off+1,none⟩) (show b<wr.heap.size by omega)).trans c1
     replace c2:=(bW.cell (p:=⟨b,off+2,none⟩) (show b<wr.heap.size by omega)).trans c2
     have l0:W.cell? ⟨wr.heap.size,0,none⟩=some (.int .i64 x.1):=by rw[hW];simp[go_sem]
     have l1:W.cell? ⟨wr.heap.size,1,none⟩=some (.int .i64 x.2.1):=by rw[hW];simp[go_sem]
     have l2:W.cell? ⟨wr.heap.size,2,none⟩=some (.int .i64 x.2.2):=by rw[hW];simp[go_sem]
     clear hW
     have f0:=BelW.cell p0 (show w.heap.size<W.heap.size by omega)
     have f1:=BelW.cell p1 (show w.heap.size<W.heap.size by omega)
     have f2:=BelW.cell p2 (show w.heap.size<W.heap.size by omega)
     have f3:=BelW.cell c0 (show b<W.heap.size by omega)
     have f4:=BelW.cell c1 (show b<W.heap.size by omega)
     have f5:=BelW.cell c2 (show b<W.heap.size by omega)
     have f6:=BelW.cell l0 (show wr.heap.size<W.heap.size by omega)
     have f7:=BelW.cell l1 (show wr.heap.size<W.heap.size by omega)
     have f8:=BelW.cell l2 (show wr.heap.size<W.heap.size by omega)
     (refine wp_region_quiet_bel (by kernel_rfl) (by kernel_rfl) ?_;(repeat(go_big_quiet_step (first | (go_at_call 227;exact Calls.bel_of (HE.out _)))));refine wpQuiet_nil ?_;intro wq hw';obtain⟨pq,hw''⟩:=hw';have bq:=pq.h;rw[←hw''] at bq;clear hw'' pq)
     clear f0 f1 f2 f3 f4 f5 f6 f7 f8
     go_wp2
     go_ret
     exact⟨ret_bool (FA.out F.out).symm,(HB3.out.trans (bW.mono (by omega))).trans (bq.mono (by omega))⟩
    ·have F:Hid (okE g 0=true):=hDD (by rw[HZ.out,e1])
     simp only[e1] at hE
     have HE:=hDD hE
     clear hE
     go_wp2_with fail
     obtain⟨W,hW⟩: ∃W,W=World.alloc wr (Obj.cells #[.int .i64 x.1, .int .i64 x.2.1, .int .i64 x.2.2] 97):=⟨_,rfl⟩
     rw[←hW]
     have bW:Below wr.heap.size wr W:=by rw[hW];exact(Below.refl _ _).alloc (Nat.le_refl _) _
     have sW:wr.heap.size<W.heap.size:=by rw[hW];simp
     replace p0:=(bW.cell (p:=⟨w.heap.size,0,none⟩) (show w.heap.size<wr.heap.size by omega)).trans p0
     replace p1:=(bW.cell (p:=⟨w.heap.size,1,none⟩) (show w.heap.size<wr.heap.size by omega)).trans p1
     replace p2:=(bW.cell (p:=⟨w.heap.size,2,none⟩) (show w.heap.size<wr.heap.size by omega)).trans p2
     replace c0:=(bW.cell (p:=⟨b,off,none⟩) (show b<wr.heap.size by omega)).trans c0
     replace c1:=(bW.cell (p:=⟨b,off+1,none⟩) (show b<wr.heap.size by omega)).trans c1
     replace c2:=(bW.cell (p:=⟨b,off+2,none⟩) (show b<wr.heap.size by omega)).trans c2
     have l0:W.cell? ⟨wr.heap.size,0,none⟩=some (.int .i64 x.1):=by rw[hW];simp[go_sem]
     have l1:W.cell? ⟨wr.heap.size,1,none⟩=some (.int .i64 x.2.1):=by rw[hW];simp[go_sem]
     have l2:W.cell? ⟨wr.heap.size,2,none⟩=some (.int .i64 x.2.2):=by rw[hW];simp[go_sem]
     clear hW
     have f0:=BelW.cell p0 (show w.heap.size<W.heap.size by omega)
     have f1:=BelW.cell p1 (show w.heap.size<W.heap.size by omega)
     have f2:=BelW.cell p2 (show w.heap.size<W.heap.size by omega)
     have f3:=BelW.cell c0 (show b<W.heap.size by omega)
     have f4:=BelW.cell c1 (show b<W.heap.size by omega)
     have f5:=BelW.cell c2 (show b<W.heap.size by omega)
     have f6:=BelW.cell l0 (show wr.heap.size<W.heap.size by omega)
     have f7:=BelW.cell l1 (show wr.heap.size<W.heap.size by omega)
     have f8:=BelW.cell l2 (show wr.heap.size<W.heap.size by omega)
     (refine wp_region_quiet_bel (by kernel_rfl) (by kernel_rfl) ?_;(repeat(go_big_quiet_step (first | (go_at_call 227;exact Calls.bel_of (HE.out _)))));refine wpQuiet_nil ?_;intro wq hw';obtain⟨pq,hw''⟩:=hw';have bq:=pq.h;rw[←hw''] at bq;clear hw'' pq)
     clear f0 f1 f2 f3 f4 f5 f6 f7 f8
     go_wp2
     go_roundw
     case rel=>exact⟨1,by omega,by go_num,ST.out F.out,(HB2.out.trans (bW.mono (by omega))).trans (bq.mono (by omega))⟩
     case measure=>simp[intOf];omega
  ·obtain rfl:k=g.2.2.length:=by omega
   have F:=hDD (grB_eq HA.out)
   clear hall hbel
   go_wp2
   go_ret
   exact⟨ret_bool (by rw[F.out,t1,t2,decide_eq_true (by omega)];rfl),HB3.out⟩
end Go.Proofs.YtnjpoljbagfdnaaGreat
namespace Go.Proofs.YtnjpoljbagfdnaaGreat
set_option maxRecDepth 20000
set_option linter.unusedVariables false
set_option linter.unusedSimpArgs false
open Go.RowKit
def clash (a b:EdD):Bool:=(a.2.1==b.2.1)&&((a.1==b.1)||(a.2.2==b.2.2))
theorem clash_comm (a b:EdD):clash a b=clash b a:=by
 have h: ∀x y:Int,(x==y)=(y==x):=fun x y=>by rw[Bool.eq_iff_iff];simp;constructor<;>(intro h;exact h.symm)
 unfold clash
 rw[h a.2.1,h a.1,h a.2.2]
def Fol (es:List EdD):Prop:=es.Pairwise fun a b=>clash a b=false
instance (es:List EdD):Decidable (Fol es):=by unfold Fol;infer_instance
def foldB (g:GrD):Bool:=grB g&&decide (Fol g.2.2)
theorem fol_of {es:List EdD} (h: ∀i (hi:i<es.length),∀k (hk:k<i),clash es[i] (es[k]'(by omega))=false):Fol es:=by
 unfold Fol
 rw[List.pairwise_iff_getElem]
 intro i j hi hj hij
 rw[clash_comm]
 exact h j hj i hij
theorem foldB_true {g:GrD} (h:grB g=true) (hf: ∀i (hi:i<g.2.2.length),∀k (hk:k<i),clash g.2.2[i] (g.2.2[k]'(by omega))=false):foldB g=true:=by
 unfold foldB
 rw[h,decide_eq_true (fol_of hf)]
 rfl
theorem foldB_no {g:GrD} (h:grB g=false):foldB g=false:=by
 unfold foldB
 rw[h]
 rfl
theorem foldB_clash {g:GrD} {i k:Nat} (hi:i<g.2.2.length) (hk:k<i) (h:clash g.2.2[i] (g.2.2[k]'(by omega))=true):foldB g=false:=by
 unfold foldB
 rw[decide_eq_false,Bool.and_false]
 intro hf
 unfold Fol at hf
 rw[List.pairwise_iff_getElem] at hf
 have:=hf k i (by omega) hi hk
 rw[clash_comm,h] at this
 cases this
theorem foldB_parts {g:GrD} (h:foldB g=true):grB g=true∧Fol g.2.2:=by
 unfold foldB at h
 simpa using h
set_option maxHeartbeats 2000000 in
theorem specIsFolded_any (v:Value) (g:GrD) (w:World) (h:ArgG w v g):
  Calls Tryz.prog 148 #[v] w fun e w'=>e= .returned (.bool (foldB g))∧Below w.heap.size w w':=by
 have HG:=hDD h
 obtain⟨s,rfl,_,_,ha⟩:=h
 have H:=hDD ha
 obtain⟨A,cap,rfl,hcap,hm,_⟩:=ha
 unfold maxLen at hm
 go_enter Tryz.func148,Tryz.ntmps148
 go_wp2
 have hb:Below w.heap.size w (w.alloc (Obj.cells #[Value.int IntKind.i64 g.1,Value.int IntKind.i64 g.2.1, .slice A g.2.2.length cap] 26)):=(by repeat(first | exact Below.refl _ _ | (refine Below.setCell ?_ (by first | omega | (simp<;>omega)) _) | (refine bel_drewN ?_ _) | (refine Below.drew ?_) | (refine Below.alloc ?_ (by first | omega | (simp<;>omega)) _)))
 have k0:(w.alloc (Obj.cells #[Value.int IntKind.i64 g.1,Value.int IntKind.i64 g.2.1, .slice A g.2.2.length cap] 26)).cell? ⟨w.heap.size,0,none⟩=some (.int .i64 g.1):=by simp[go_sem]
 have k1:(w.alloc (Obj.cells #[Value.int IntKind.i64 g.1,Value.int IntKind.i64 g.2.1, .slice A g.2.2.length cap] 26)).cell? ⟨w.heap.size,1,none⟩=some (.int .i64 g.2.1):=by simp[go_sem]
 have k2:(w.alloc (Obj.cells #[Value.int IntKind.i64 g.1,Value.int IntKind.i64 g.2.1, .slice A g.2.2.length cap] 26)).cell? ⟨w.heap.size,2,none⟩=some (.slice A g.2.2.length cap):=by simp[go_sem]
 have hs0:w.heap.size<(w.alloc (Obj.cells #[Value.int IntKind.i64 g.1,Value.int IntKind.i64 g.2.1, .slice A g.2.2.length cap] 26)).heap.size:=by simp
 generalize w.alloc (Obj.cells #[Value.int IntKind.i64 g.1,Value.int IntKind.i64 g.2.1, .slice A g.2.2.length cap] 26)=w1 at hb k0 k1 k2 hs0⊢
 have HB:=hDD hb
 have K0:=hDD k0
 have K1:=hDD k1
 have K2:=hDD k2
 clear hb
 clear k0 k1 k2
 go_loopw [3] (fun i wo=> ∃k:Nat,k≤g.2.2.length∧i= .int .i64 k∧(0<k→grB g=true)∧(∀i (hi:i<g.2.2.length),i<k→ ∀j (hj:j<i),clash g.2.2[i] (g.2.2[j]'(by omega))=false)∧Below w1.heap.size w1 wo) (fun i _=>g.2.2.length-(intOf i).toNat)
 case atStart=>exact⟨0,Nat.zero_le _,rfl,fun h=>absurd h (by omega),fun i hi h=>absurd h (by omega),Below.refl _ _⟩
 case round=>
  obtain⟨k,hk,rfl,hg0,hall,hbel⟩:=hrel
  obtain⟨wo,rfl⟩: ∃wo:World,wo=wr:=⟨_,rfl⟩
  have HA:=hDD hall
  have HG0:=hDD hg0
  have HB2:=hDD hbel
  have HB3:=hDD (HB.out.trans (hbel.mono HB.out.size))
  have hsz:=hbel.size
  have p0:=(hbel.cell (p:=⟨w.heap.size,0,none⟩) hs0).trans K0.out
  have p1:=(hbel.cell (p:=⟨w.heap.size,1,none⟩) hs0).trans K1.out
  have p2:=(hbel.cell (p:=⟨w.heap.size,2,none⟩) hs0).trans K2.out
  have hws:w.heap.size<wo.heap.size:=by omega
  clear hg0 hall hbel
  by_cases hlt:k<g.2.2.length
  ·go_wp2_with fail
   refine(specIsGraph_any _ g _ (HG.out.below HB3.out)).mono ?_
   rintro e wp ⟨rfl,bp⟩
   have BP:=hDD bp
   have szp:=bp.size
   replace p0:=(bp.cell (p:=⟨w.heap.size,0,none⟩) hws).trans p0
   replace p1:=(bp.cell (p:=⟨w.heap.size,1,none⟩) hws).trans p1
   replace p2:=(bp.cell (p:=⟨w.heap.size,2,none⟩) hws).trans p2
   have HB4:=hDD (HB3.out.trans (bp.mono (by omega)))
   have HB5:=hDD (HB2.out.trans (bp.mono (by omega)))
   clear bp
   rcases e0:grB g with _ | _
   ·go_wp2_with fail
    refine(specIsGraph_any _ g _ (HG.out.below HB4.out)).mono ?_
    rintro e wz ⟨rfl,bz⟩
    have BZ:=hDD bz
    clear bz
    go_wp2
    go_ret
    exact⟨ret_bool (by rw[foldB_no e0]),HB4.out.trans (BZ.out.mono (by omega))⟩
   go_wp2
   go_loopw [4] (fun j wr=> ∃m:Nat,m≤k∧j= .int .i64 m∧(∀j (hj:j<k),j<m→clash g.2.2[k] (g.2.2[j]'(by omega))=false)∧Below wp.heap.size wp wr) (fun j _=>k-(intOf j).toNat)
   case atStart=>exact⟨0,Nat.zero_le _,rfl,fun j hj h=>absurd h (by omega),Below.refl _ _⟩
   case round=>
    obtain⟨m,hm1,rfl,hin,hbi⟩:=hrel
    have HI:=hDD hin
    have HBI:=hDD hbi
    have szi:=hbi.size
    replace p0:=(hbi.cell (p:=⟨w.heap.size,0,none⟩) (show w.heap.size<wp.heap.size by omega)).trans p0
    replace p1:=(hbi.cell (p:=⟨w.heap.size,1,none⟩) (show w.heap.size<wp.heap.size by omega)).trans p1
    replace p2:=(hbi.cell (p:=⟨w.heap.size,2,none⟩) (show w.heap.size<wp.heap.size by omega)).trans p2
    have HB6:=hDD (HB4.out.trans (hbi.mono (by omega)))
    have hwr:w.heap.size<wr.heap.size:=by omega
    clear hin hbi
    by_cases hlt2:m<k
    ·obtain⟨b,off,rfl,hbl,c0,c1,c2,_⟩:=(H.out.below HB6.out).at hlt
     obtain⟨b2,off2,hA2,_,d0,d1,d2,_⟩:=(H.out.below HB6.out).at (k:=m) (by omega)
     obtain⟨rfl,rfl⟩:b=b2∧off=off2:=by simpa using hA2
     have i1:(m:Int)<(g.2.2.length:Int):=by omega
     have CL:Hid (clash g.2.2[k] (g.2.2[m]'(by omega))=true→foldB g=false):=hDD (foldB_clash hlt hlt2)
     have CN:Hid (clash g.2.2[k] (g.2.2[m]'(by omega))=false→ ∀j (hj:j<k),j<m+1→clash g.2.2[k] (g.2.2[j]'(by omega))=false):=hDD fun F j hj hjm=>by
      rcases Nat.lt_or_eq_of_le (Nat.le_of_lt_succ hjm) with h | rfl
      ·exact HI.out j hj h
      ·exact F
     clear hA2
     generalize g.2.2[k]=x at*
     generalize g.2.2[m]'(by omega)=y at*
     have hC:Hid (clash x y=((x.2.1==y.2.1)&&((x.1==y.1)||(x.2.2==y.2.2)))):=hDD rfl
     rcases t1:(x.2.1==y.2.1) with _ | _
     ·have F:=hDD (CN.out (by rw[hC.out,t1];rfl))
      go_wp2
      go_roundw
      case rel=>exact⟨m+1,by omega,by go_num,F.out,(HBI.out.alloc (by omega) _).alloc (by simp;omega) _⟩
      case measure=>simp[intOf];omega
     rcases t2:(x.1==y.1) with _ | _
     ·rcases t3:(x.2.2==y.2.2) with _ | _
      ·have F:=hDD (CN.out (by rw[hC.out,t1,t2,t3];rfl))
       go_wp2
       go_roundw
       case rel=>exact⟨m+1,by omega,by go_num,F.out,(HBI.out.alloc (by omega) _).alloc (by simp;omega) _⟩
       case measure=>simp[intOf];omega
      ·have F:=hDD (CL.out (by rw[hC.out,t1,t2,t3];rfl))
       go_wp2
       go_ret
       exact⟨ret_bool F.out.symm,(HB6.out.alloc (by omega) _).alloc (by simp;omega) _⟩
     ·have F:=hDD (CL.out (by rw[hC.out,t1,t2];rfl))
      go_wp2
      go_ret
      exact⟨ret_bool F.out.symm,(HB6.out.alloc (by omega) _).alloc (by simp;omega) _⟩
    ·obtain rfl:m=k:=by omega
     go_wp2
     go_roundw
     case rel=>exact⟨m+1,by omega,by go_num,fun _=>e0,fun i hi him j hj=>by
      rcases Nat.lt_or_eq_of_le (Nat.le_of_lt_succ him) with h | rfl
      ·exact HA.out i hi h j hj
      ·exact HI.out j hj hj,HB5.out.trans (HBI.out.mono (by omega))⟩
     case measure=>simp[intOf];omega
  ·obtain rfl:k=g.2.2.length:=by omega
   go_wp2_with fail
   refine(specIsGraph_any _ g _ (HG.out.below HB3.out)).mono ?_
   rintro e wz ⟨rfl,bz⟩
   have BZ:=hDD bz
   have F:Hid (grB g=foldB g):=hDD (by
    rcases e0:grB g with _ | _
    ·exact(foldB_no e0).symm
    ·exact(foldB_true e0 fun i hi j hj=>HA.out i hi hi j hj).symm)
   clear bz
   go_wp2
   go_ret
   exact⟨ret_bool F.out,HB3.out.trans (BZ.out.mono (by omega))⟩
set_option maxHeartbeats 2000000 in
theorem implIsFolded_any (v:Value) (g:GrD) (w:World) (h:ArgG w v g):
  Calls Tryz.prog 158 #[v] w fun e w'=>e= .returned (.bool (foldB g))∧Below w.heap.size w w':=by
 have HG:=hDD h
 obtain⟨s,rfl,_,_,ha⟩:=h
 have H:=hDD ha
 obtain⟨A,cap,rfl,hcap,hm,hn0,_⟩:=ha
 unfold maxLen at hm
 have bx:Below w.heap.size w (w.alloc (Obj.cells #[Value.int IntKind.i64 g.1,Value.int IntKind.i64 g.2.1, .slice A g.2.2.length cap] 26)):=(by repeat(first | exact Below.refl _ _ | (refine Below.setCell ?_ (by first | omega | (simp<;>omega)) _) | (refine bel_drewN ?_ _) | (refine Below.drew ?_) | (refine Below.alloc ?_ (by first | omega | (simp<;>omega)) _)))
 have kx:(w.alloc (Obj.cells #[Value.int IntKind.i64 g.1,Value.int IntKind.i64 g.2.1, .slice A g.2.2.length cap] 26)).cell? ⟨w.heap.size,2,none⟩=some (.slice A g.2.2.length cap):=by simp[go_sem]
 have sx:w.heap.size<(w.alloc (Obj.cells #[Value.int IntKind.i64 g.1,Value.int IntKind.i64 g.2.1, .slice A g.2.2.length cap] 26)).heap.size:=by simp
 have BX:=hDD bx
 have KX:=hDD kx
 clear bx kx
 go_enter Tryz.func158,Tryz.ntmps158
 go_wp2_with fail
 refine(implIsGraph_any _ g _ (HG.out.below BX.out)).mono ?_
 rintro e w1 ⟨rfl,b1⟩
 have HB:=hDD (BX.out.trans (b1.mono BX.out.size))
 have k2:=(b1.cell (p:=⟨w.heap.size,2,none⟩) sx).trans KX.out
 have hs0:w.heap.size<w1.heap.size:=by have:=b1.size;omega
 have K2:=hDD k2
 clear b1 sx
 rcases e0:grB g with _ | _
 ·go_wp2
  go_ret
  exact⟨ret_bool (foldB_no e0).symm,HB.out⟩
 go_wp2
 clear k2
 go_loopw [13] (fun i wo=> ∃k:Nat,k≤g.2.2.length∧i= .int .i64 k∧(∀i (hi:i<g.2.2.length),i<k→ ∀j (hj:j<g.2.2.length),i<j→clash g.2.2[j] g.2.2[i]=false)∧Below w1.heap.size w1 wo) (fun i _=>g.2.2.length-(intOf i).toNat)
 case atStart=>exact⟨0,Nat.zero_le _,rfl,fun i hi h=>absurd h (by omega),Below.refl _ _⟩
 case round=>
  obtain⟨k,hk,rfl,hall,hbel⟩:=hrel
  obtain⟨wo,rfl⟩: ∃wo:World,wo=wr:=⟨_,rfl⟩
  have HA:=hDD hall
  have HB2:=hDD hbel
  have HB3:=hDD (HB.out.trans (hbel.mono HB.out.size))
  have hsz:=hbel.size
  have p2:=(hbel.cell (p:=⟨w.heap.size,2,none⟩) hs0).trans K2.out
  have hws:w.heap.size<wo.heap.size:=by omega
  clear hall hbel
  by_cases hlt:k<g.2.2.length
  ·obtain⟨b,off,rfl,hbl,c0,c1,c2,_⟩:=(H.out.below HB3.out).at hlt
   have j1:((k:Int)+1)≤(g.2.2.length:Int):=by omega
   have j0:(0:Int)≤(k:Int)+1:=by omega
   have j2:((k:Int)+1)≤(cap:Int):=by omega
   have CUT:=hDD (H.out.cut (k:=k+1) (by omega))
   generalize hx:g.2.2[k]=x at c0 c1 c2
   have HX:=hDD hx
   clear hx
   have hwr0:w.heap.size<wo.heap.size:=hws
   by_cases hcx:cap=k+1
   ·have hend:g.2.2.length=k+1:=by omega
    go_wp2
    refine wp_loop_rounds 1 ?_
    rw[rounds_succ]
    have hz0:g.2.2.length-(k+1)=0:=by omega
    go_wp2
    go_roundw
    case rel=>exact⟨k+1,by omega,by go_num,fun i hi him j hj hij=>by
      rcases Nat.lt_or_eq_of_le (Nat.le_of_lt_succ him) with h | rfl
      ·exact HA.out i hi h j hj hij
      ·omega,HB2.out.alloc (by omega) _⟩
    case measure=>simp[intOf];omega
   ·have cu:=CUT.out
    rw[if_neg hcx] at cu
    simp only[Option.map_some,Addr.add_lit] at cu
    have CU:=hDD cu
    clear cu
    obtain⟨N,hN⟩: ∃N,N=g.2.2.length-(k+1):=⟨_,rfl⟩
    rw[←hN] at CU
    have hN2:(N:Int)=(g.2.2.length:Int)-((k:Int)+1):=by omega
    have hN3:k+1+N=g.2.2.length:=by omega
    go_wp2
    have hq:Below wo.heap.size wo (wo.alloc (Obj.cells #[Value.int IntKind.i64 x.1,Value.int IntKind.i64 x.2.1,Value.int IntKind.i64 x.2.2] 97)):=(Below.refl _ _).alloc (Nat.le_refl _) _
    have l0:(wo.alloc (Obj.cells #[Value.int IntKind.i64 x.1,Value.int IntKind.i64 x.2.1,Value.int IntKind.i64 x.2.2] 97)).cell? ⟨wo.heap.size,0,none⟩=some (.int .i64 x.1):=by simp[go_sem]
    have l1:(wo.alloc (Obj.cells #[Value.int IntKind.i64 x.1,Value.int IntKind.i64 x.2.1,Value.int IntKind.i64 x.2.2] 97)).cell? ⟨wo.heap.size,1,none⟩=some (.int .i64 x.2.1):=by simp[go_sem]
    have l2:(wo.alloc (Obj.cells #[Value.int IntKind.i64 x.1,Value.int IntKind.i64 x.2.1,Value.int IntKind.i64 x.2.2] 97)).cell? ⟨wo.heap.size,2,none⟩=some (.int .i64 x.2.2):=by simp[go_sem]
    have sq:wo.heap.size<(wo.alloc (Obj.cells #[Value.int IntKind.i64 x.1,Value.int IntKind.i64 x.2.1,Value.int IntKind.i64 x.2.2] 97)).heap.size:=by simp
    generalize wo.alloc (Obj.cells #[Value.int IntKind.i64 x.1,Value.int IntKind.i64 x.2.1,Value.int IntKind.i64 x.2.2] 97)=wq at hq l0 l1 l2 sq⊢
    have HQ:=hDD hq
    have L0:=hDD l0
    have L1:=hDD l1
    have L2:=hDD l2
    have HQ3:=hDD (HB3.out.trans (hq.mono (by omega)))
    have HQ2:=hDD (HB2.out.trans (hq.mono (by omega)))
    clear hq l0 l1 l2
    go_loopw [24] (fun j wr=> ∃m:Nat,m≤N∧j= .int .i64 m∧(∀j (hj:j<g.2.2.length),k<j→j<k+1+m→clash g.2.2[j] x=false)∧Below wq.heap.size wq wr) (fun j _=>N-(intOf j).toNat)
    case atStart=>exact⟨0,Nat.zero_le _,rfl,fun j hj h1 h2=>absurd h2 (by omega),Below.refl _ _⟩
    case round=>
     obtain⟨m,hm1,rfl,hin,hbi⟩:=hrel
     have HI:=hDD hin
     have HBI:=hDD hbi
     have szi:=hbi.size
     have l0:=(hbi.cell (p:=⟨wo.heap.size,0,none⟩) sq).trans L0.out
     have l1:=(hbi.cell (p:=⟨wo.heap.size,1,none⟩) sq).trans L1.out
     have l2:=(hbi.cell (p:=⟨wo.heap.size,2,none⟩) sq).trans L2.out
     have HB6:=hDD (HQ3.out.trans (hbi.mono (by omega)))
     have hwr:wo.heap.size<wr.heap.size:=by omega
     clear hin hbi
     by_cases hlt2:m<N
     ·have hgm:(g.2.2.drop (k+1))[m]'(by simp;omega)=g.2.2[k+1+m]'(by omega):=by rw[List.getElem_drop]
      obtain⟨b2,off2,hA2,hbl2,d0,d1,d2,_⟩:=(CU.out.below HB6.out).at (k:=m) (by simp;omega)
      rw[hgm] at d0 d1 d2
      obtain⟨rfl,rfl⟩:b=b2∧off+(k+1)*3=off2:=by simpa using hA2
      have CL:Hid (clash (g.2.2[k+1+m]'(by omega)) x=true→foldB g=false):=hDD (fun h=>foldB_clash (i:=k+1+m) (k:=k) (by omega) (by omega) (by rw[HX.out];exact h))
      have CN:Hid (clash (g.2.2[k+1+m]'(by omega)) x=false→ ∀j (hj:j<g.2.2.length),k<j→j<k+1+(m+1)→clash g.2.2[j] x=false):=hDD fun F j hj hkj hjm=>by
       by_cases e:j=k+1+m
       ·subst e;exact F
       ·exact HI.out j hj hkj (by omega)
      clear hA2 hgm
      generalize g.2.2[k+1+m]'(by omega)=y at*
      have hC:Hid (clash y x=((x.2.1==y.2.1)&&((x.1==y.1)||(x.2.2==y.2.2)))):=hDD (by rw[clash_comm];rfl)
      rcases t1:(x.2.1==y.2.1) with _ | _
      ·have F:=hDD (CN.out (by rw[hC.out,t1];rfl))
       go_wp2
       go_roundw
       case rel=>exact⟨m+1,by omega,by go_num,F.out,HBI.out.alloc (by omega) _⟩
       case measure=>simp[intOf];omega
      rcases t2:(x.1==y.1) with _ | _
      ·rcases t3:(x.2.2==y.2.2) with _ | _
       ·have F:=hDD (CN.out (by rw[hC.out,t1,t2,t3];rfl))
        go_wp2
        go_roundw
        case rel=>exact⟨m+1,by omega,by go_num,F.out,HBI.out.alloc (by omega) _⟩
        case measure=>simp[intOf];omega
       ·have F:=hDD (CL.out (by rw[hC.out,t1,t2,t3];rfl))
        go_wp2
        go_ret
        exact⟨ret_bool F.out.symm,HB6.out.alloc (by omega) _⟩
      ·have F:=hDD (CL.out (by rw[hC.out,t1,t2];rfl))
       go_wp2
       go_ret
       exact⟨ret_bool F.out.symm,HB6.out.alloc (by omega) _⟩
     ·obtain rfl:m=N:=by omega
      go_wp2
      go_roundw
      case rel=>exact⟨k+1,by omega,by go_num,fun i hi him j hj hij=>by
       rcases Nat.lt_or_eq_of_le (Nat.le_of_lt_succ him) with h | rfl
       ·exact HA.out i hi h j hj hij
       ·have:=HI.out j hj hij (by omega)
        rw[HX.out]
        exact this,HQ2.out.trans (HBI.out.mono (by omega))⟩
      case measure=>simp[intOf];omega
  ·obtain rfl:k=g.2.2.length:=by omega
   have F:Hid (foldB g=true):=hDD (foldB_true e0 fun i hi j hj=>HA.out j (by omega) (by omega) i hi hj)
   go_wp2
   go_ret
   exact⟨ret_bool F.out.symm,HB3.out⟩
end Go.Proofs.YtnjpoljbagfdnaaGreat
namespace Go.Proofs.YtnjpoljbagfdnaaGreat
set_option maxRecDepth 20000
set_option linter.unusedVariables false
set_option linter.unusedSimpArgs false
open Go.RowKit
def lettersL:Nat→List Int
 | 0=> []
 | n+1=>lettersL n++ [((n:Nat):Int)+1,-(((n:Nat):Int)+1)]
theorem lettersL_len (n:Nat):(lettersL n).length=2*n:=by
 induction n with
 | zero=>rfl
 | succ n ih=>simp[lettersL,ih];omega
theorem lettersL_mem {n:Nat} {x:Int} (h:x∈lettersL n):(1≤x∧x≤n)∨(1≤ -x∧ -x≤n):=by
 induction n with
 | zero=>cases h
 | succ n ih=>
   simp only[lettersL,List.mem_append,List.mem_cons,List.not_mem_nil,or_false] at h
   rcases h with h | h | h
   ·have:=ih h;omega
   ·omega
   ·omega
theorem lettersL_I64 {n:Nat} (hn:n≤1073741824):I64s (lettersL n):=fun x hx=>by
 have:=lettersL_mem hx
 unfold I64;omega
set_option maxHeartbeats 1000000 in
theorem l5Letters_any (n:Nat) (w:World) (hn:n≤1073741824):
  Calls Tryz.prog 85 #[.int .i64 n] w fun e w'=> ∃r,e= .returned r∧OwI w' w.heap.size r (lettersL n)∧Below w.heap.size w w':=by
 go_enter Tryz.func85,Tryz.ntmps85
 go_wp2
 go_loopw [3,4] (fun out i wr=> ∃k:Nat,k≤n∧i= .int .i64 (k+1)∧OwI wr w.heap.size out (lettersL k)∧Below w.heap.size w wr)
  (fun _ i _=>n+1-(intOf i).toNat)
 case atStart=>exact⟨0,Nat.zero_le _,rfl,OwI_lit _ [] I64s_nil (by simp) (Nat.le_refl _),(Below.refl _ _).alloc (Nat.le_refl _) _⟩
 case round=>
  obtain⟨k,hk,rfl,hown,hbel⟩:=hrel
  have hsz:=hbel.size
  have hal:=lettersL_len k
  by_cases hlt:k<n
  ·have HS:Hid (lettersL (k+1)=lettersL k++ [(k:Int)+1,-((k:Int)+1)]):=hDD rfl
   generalize lettersL k=acc at hown HS hal
   have HO:=hDD hown
   obtain⟨A1,cap1,rfl,hcap1,hm1,_,_⟩:=hown.form
   clear hown
   have HX:Hid (I64 ((k:Int)+1)):=hDD ⟨by omega,by omega⟩
   have HY:Hid (I64 (-((k:Int)+1))):=hDD ⟨by omega,by omega⟩
   go_wp2_with (first | ((at_builtin;refine push_int rfl (.tmp 11) (.tmp 13) rfl _ _ _ (OwI.alloc HO.out _) rfl _ _ rfl (cell_new1 _ _ _) HX.out (by first | omega | (simp<;>omega)) (by first | omega | (simp<;>omega)) ?_;intro v1 wv1 o1 g1 p1);have hz1:=g1.size;simp at hz1) | (at_builtin;refine push_int rfl (.tmp 15) (.tmp 18) rfl _ _ _ (OwI.alloc o1 _) rfl _ _ rfl (cell_new1 _ _ _) HY.out (by first | omega | (simp<;>omega)) (by first | omega | (simp<;>omega)) ?_;intro v2 wv2 o2 g2 p2))
   go_roundw
   case rel=>
    have hb1:=bel_push hbel hsz HO.out.1 (Nat.le_refl _) g1
    exact⟨k+1,by omega,by go_num,by rw[HS.out];simpa using o2,bel_push hb1 hb1.size o1.1 (Nat.le_refl _) g2⟩
   case measure=>simp[intOf];omega
  ·obtain rfl:k=n:=by omega
   go_wp2
   go_ret
   exact⟨_,rfl,hown,hbel⟩
set_option maxHeartbeats 1000000 in
theorem letters_any (n:Nat) (w:World) (hn:n≤1073741824):
  Calls Tryz.prog 79 #[.int .i64 n] w fun e w'=> ∃r,e= .returned r∧OwI w' w.heap.size r (lettersL n)∧Below w.heap.size w w':=by
 go_enter Tryz.func79,Tryz.ntmps79
 go_wp2
 go_loopw [3,4] (fun out i wr=> ∃k:Nat,k≤n∧i= .int .i64 (k+1)∧OwI wr w.heap.size out (lettersL k)∧Below w.heap.size w wr)
  (fun _ i _=>n+1-(intOf i).toNat)
 case atStart=>exact⟨0,Nat.zero_le _,rfl,OwI_lit _ [] I64s_nil (by simp) (Nat.le_refl _),(Below.refl _ _).alloc (Nat.le_refl _) _⟩
 case round=>
  obtain⟨k,hk,rfl,hown,hbel⟩:=hrel
  have hsz:=hbel.size
  have hal:=lettersL_len k
  by_cases hlt:k<n
  ·have HS:Hid (lettersL (k+1)=lettersL k++ [(k:Int)+1,-((k:Int)+1)]):=hDD rfl
   generalize lettersL k=acc at hown HS hal
   have HO:=hDD hown
   obtain⟨A1,cap1,rfl,hcap1,hm1,_,_⟩:=hown.form
   clear hown
   have HX:Hid (I64s [(k:Int)+1,-((k:Int)+1)]):=hDD (fun x hx=>by simp at hx;unfold I64;omega)
   have HL:Hid (RdI (wr.alloc (.cells #[.int .i64 ((k:Int)+1), .int .i64 (-((k:Int)+1))] 3)) (.slice (some ⟨wr.heap.size,0,none⟩) 2 2) [(k:Int)+1,-((k:Int)+1)]):=
    hDD (OwI_lit wr _ HX.out (by simp) (Nat.le_refl _)).rd
   go_wp2_with (at_builtin;refine append_ints rfl (.tmp 11) (.tmp 15) rfl w.heap.size _ _ (HO.out.alloc _) rfl _ _ HL.out rfl (by simp;omega) (by first | omega | (simp;omega)) ?_;intro v2 w2 o2 g2 p2)
   go_roundw
   case rel=>exact⟨k+1,by omega,by go_num,by rw[HS.out];exact o2,bel_push hbel hsz HO.out.1 (Nat.le_refl _) g2⟩
   case measure=>simp[intOf];omega
  ·obtain rfl:k=n:=by omega
   go_wp2
   go_ret
   exact⟨_,rfl,hown,hbel⟩
end Go.Proofs.YtnjpoljbagfdnaaGreat
namespace Go.Proofs.YtnjpoljbagfdnaaGreat
set_option maxRecDepth 20000
set_option linter.unusedVariables false
set_option linter.unusedSimpArgs false
open Go.RowKit
inductive Conn (es:List EdD) (v:Int):Int→Prop
 | base:Conn es v v
 | fwd (e:EdD) (he:e∈es) (h:Conn es v e.1):Conn es v e.2.2
 | back (e:EdD) (he:e∈es) (h:Conn es v e.2.2):Conn es v e.1
def stepR (o:List Int) (e:EdD):List Int:=
 if e.2.2∈(if e.1∈o then insF cmpI o e.2.2 else o) then insF cmpI (if e.1∈o then insF cmpI o e.2.2 else o) e.1 else(if e.1∈o then insF cmpI o e.2.2 else o)
theorem insF_mem {xs:List Int} {x y:Int}:y∈insF cmpI xs x↔y=x∨y∈xs:=by rw[insF_eq];exact insR_mem x xs cmpI_ord y
theorem stepR_mem {o:List Int} {e:EdD} {x:Int}:x∈stepR o e↔x∈o∨((e.1∈o∨e.2.2∈o)∧(x=e.1∨x=e.2.2)):=by
 unfold stepR
 by_cases h1:e.1∈o
 ·simp only[h1,if_true]
  have h2:e.2.2∈insF cmpI o e.2.2:=insF_mem.2 (.inl rfl)
  rw[if_pos h2,insF_mem,insF_mem]
  constructor
  ·rintro(h | h | h)
   ·exact .inr ⟨.inl trivial, .inl h⟩
   ·exact .inr ⟨.inl trivial, .inr h⟩
   ·exact .inl h
  ·rintro(h | ⟨_,h | h⟩)
   ·exact .inr (.inr h)
   ·exact .inl h
   ·exact .inr (.inl h)
 ·simp only[h1,if_false]
  by_cases h2:e.2.2∈o
  ·rw[if_pos h2,insF_mem]
   constructor
   ·rintro(h | h)
    ·exact .inr ⟨.inr h2, .inl h⟩
    ·exact .inl h
   ·rintro(h | ⟨_,h | h⟩)
    ·exact .inr h
    ·exact .inl h
    ·exact .inr (by rw[h];exact h2)
  ·rw[if_neg h2]
   constructor
   ·exact .inl
   ·rintro(h | ⟨h | h,_⟩)
    ·exact h
    ·exact absurd h (by simp)
    ·exact absurd h h2
def passR (es:List EdD) (o:List Int):List Int:=es.foldl stepR o
theorem passR_mono {es:List EdD} {o:List Int} {x:Int} (h:x∈o):x∈passR es o:=by
 unfold passR
 induction es generalizing o with
 | nil=>exact h
 | cons e es ih=>exact ih (stepR_mem.2 (.inl h))
theorem passR_both {es:List EdD} {o:List Int} {e:EdD} (he:e∈es) (h:e.1∈o∨e.2.2∈o):e.1∈passR es o∧e.2.2∈passR es o:=by
 unfold passR
 induction es generalizing o with
 | nil=>cases he
 | cons d es ih=>
   rcases List.mem_cons.1 he with rfl | he
   ·exact⟨passR_mono (es:=es) (o:=stepR o e) (stepR_mem.2 (.inr ⟨h, .inl rfl⟩)),passR_mono (es:=es) (o:=stepR o e) (stepR_mem.2 (.inr ⟨h, .inr rfl⟩))⟩
   ·refine ih he ?_
    rcases h with h | h
    ·exact .inl (stepR_mem.2 (.inl h))
    ·exact .inr (stepR_mem.2 (.inl h))
theorem passR_sound {es es':List EdD} {v:Int} {o:List Int} (hsub: ∀e∈es',e∈es) (h: ∀x∈o,Conn es v x): ∀x∈passR es' o,Conn es v x:=by
 unfold passR
 induction es' generalizing o with
 | nil=>exact h
 | cons e es' ih=>
   refine ih (fun d hd=>hsub d (by simp[hd])) fun x hx=> ?_
   have he:=hsub e (by simp)
   rcases stepR_mem.1 hx with hx | ⟨h1 | h1,rfl | rfl⟩
   ·exact h x hx
   ·exact h _ h1
   ·exact .fwd e he (h _ h1)
   ·exact .back e he (h _ h1)
   ·exact h _ h1
def Clo (es:List EdD) (o:List Int):Prop:= ∀e∈es,(e.1∈o↔e.2.2∈o)
theorem passR_clo {es:List EdD} {o:List Int} (h:Clo es o): ∀x,x∈passR es o↔x∈o:=by
 have key: ∀es':List EdD,(∀e∈es',e∈es)→ ∀o',(∀x,x∈o'↔x∈o)→ ∀x,x∈es'.foldl stepR o'↔x∈o:=by
  intro es'
  induction es' with
  | nil=>intro _ o' ho;exact ho
  | cons e es' ih=>
    intro hsub o' ho
    refine ih (fun d hd=>hsub d (by simp[hd])) _ fun x=> ?_
    rw[stepR_mem,ho,ho,ho]
    have:=h e (hsub e (by simp))
    constructor
    ·rintro(hx | ⟨h1 | h1,rfl | rfl⟩)
     ·exact hx
     ·exact h1
     ·exact this.1 h1
     ·exact this.2 h1
     ·exact h1
    ·exact .inl
 exact key es (fun _ h=>h) o fun _=>Iff.rfl
def phi (es:List EdD) (o:List Int):Nat:=(es.filter fun e=>decide (e.1∈o∧e.2.2∈o)).length
theorem filter_lt {α:Type} {p q:α→Bool} {l:List α} (hpq: ∀x,p x=true→q x=true) {a:α} (ha:a∈l) (hq:q a=true) (hp:p a=false):(l.filter p).length<(l.filter q).length:=by
 have le: ∀l:List α,(l.filter p).length≤(l.filter q).length:=by
  intro l
  induction l with
  | nil=>simp
  | cons b l ih=>
    rw[List.filter_cons,List.filter_cons]
    split
    ·rename_i h
     rw[if_pos (hpq b h)]
     simp;exact ih
    ·split
     ·simp;omega
     ·exact ih
 induction l with
 | nil=>cases ha
 | cons b l ih=>
   rw[List.filter_cons,List.filter_cons]
   rcases List.mem_cons.1 ha with rfl | ha
   ·rw[if_neg (by simp[hp]),if_pos hq]
    have:=le l
    simp;omega
   ·have:=ih ha
    split
    ·rename_i h
     rw[if_pos (hpq b h)]
     simp;exact this
    ·split
     ·simp;omega
     ·exact this
theorem phi_lt {es:List EdD} {o:List Int} (h: ¬Clo es o):phi es o<phi es (passR es o):=by
 unfold Clo at h
 have: ∃e,e∈es∧ ¬(e.1∈o↔e.2.2∈o):=by
  apply Classical.byContradiction
  intro hn
  exact h fun e he=>Classical.byContradiction fun hne=>hn ⟨e,he,hne⟩
 obtain⟨e,he,hne⟩:=this
 have hor:e.1∈o∨e.2.2∈o:=by
  apply Classical.byContradiction
  intro hn
  exact hne ⟨fun h=>absurd (.inl h) hn,fun h=>absurd (.inr h) hn⟩
 refine filter_lt (fun d hd=> ?_) he ?_ ?_
 ·simp only[decide_eq_true_eq] at hd⊢
  exact⟨passR_mono hd.1,passR_mono hd.2⟩
 ·simp only[decide_eq_true_eq]
  exact passR_both he hor
 ·rw[decide_eq_false_iff_not]
  exact fun hh=>hne ⟨fun _=>hh.2,fun _=>hh.1⟩
def iterR (es:List EdD) (v:Int):Nat→List Int
 | 0=> [v]
 | i+1=>passR es (iterR es v i)
theorem iterR_clo (es:List EdD) (v:Int) (i:Nat):Clo es (iterR es v i)∨i≤phi es (iterR es v i):=by
 induction i with
 | zero=>exact .inr (Nat.zero_le _)
 | succ i ih=>
   by_cases h:Clo es (iterR es v i)
   ·left
    intro e he
    show e.1∈passR es _↔e.2.2∈passR es _
    rw[passR_clo h,passR_clo h]
    exact h e he
   ·right
    have h1:=phi_lt h
    rcases ih with ih | ih
    ·exact absurd ih h
    ·show i+1≤phi es (passR es (iterR es v i))
     omega
def reachL (es:List EdD) (v:Int):List Int:=iterR es v (es.length+1)
theorem reachL_mem (es:List EdD) (v x:Int):x∈reachL es v↔Conn es v x:=by
 have hclo:Clo es (reachL es v):=by
  rcases iterR_clo es v (es.length+1) with h | h
  ·exact h
  ·have:phi es (iterR es v (es.length+1))≤es.length:=List.length_filter_le _ _
   omega
 have hv: ∀i,v∈iterR es v i:=by
  intro i
  induction i with
  | zero=>simp[iterR]
  | succ i ih=>exact passR_mono ih
 have hs: ∀i,∀x∈iterR es v i,Conn es v x:=by
  intro i
  induction i with
  | zero=>intro x hx;simp[iterR] at hx;subst hx;exact .base
  | succ i ih=>exact passR_sound (fun _ h=>h) ih
 refine⟨hs _ x,fun h=> ?_⟩
 induction h with
 | base=>exact hv _
 | fwd e he _ ih=>exact(hclo e he).1 ih
 | back e he _ ih=>exact(hclo e he).2 ih
theorem conn_of_closed {es:List EdD} {v:Int} {S:Int→Prop} (hv:S v) (hc: ∀e∈es,(S e.1↔S e.2.2)) {x:Int} (h:Conn es v x):S x:=by
 induction h with
 | base=>exact hv
 | fwd e he _ ih=>exact(hc e he).1 ih
 | back e he _ ih=>exact(hc e he).2 ih
theorem hasB_iff {l:List Int} {x:Int}:hasB l x=true↔x∈l:=by
 unfold hasB
 rw[List.any_eq_true]
 constructor
 ·rintro⟨y,hy,h⟩
  have:y=x:=by simpa using h
  rw[←this];exact hy
 ·intro h
  exact⟨x,h,by simp⟩
theorem hasB_not {l:List Int} {x:Int} (h:hasB l x=false):x∉l:=fun hm=>by
 rw[hasB_iff.2 hm] at h
 cases h
theorem stepR_len (o:List Int) (e:EdD):(stepR o e).length≤o.length+2:=by
 unfold stepR
 have h1:(if e.1∈o then insF cmpI o e.2.2 else o).length≤o.length+1:=by
  split
  ·exact insF_len _ _
  ·omega
 generalize (if e.1∈o then insF cmpI o e.2.2 else o)=o1 at h1⊢
 split
 ·have:=insF_len (c:=cmpI) o1 e.1
  omega
 ·omega
theorem foldR_len (es:List EdD) (o:List Int):(es.foldl stepR o).length≤o.length+2*es.length:=by
 induction es generalizing o with
 | nil=>simp
 | cons e es ih=>
   have h1:=ih (stepR o e)
   have h2:=stepR_len o e
   simp only[List.foldl_cons,List.length_cons]
   omega
theorem iterR_len (es:List EdD) (v:Int) (i:Nat) (hl:es.length≤120):(iterR es v i).length≤1+240*i:=by
 induction i with
 | zero=>simp[iterR]
 | succ i ih=>
   have:=foldR_len es (iterR es v i)
   show(passR es (iterR es v i)).length≤_
   unfold passR
   omega
def rsL (es:List EdD) (v:Int) (i k:Nat):List Int:=(es.take k).foldl stepR (iterR es v i)
theorem rsL_succ (es:List EdD) (v:Int) (i k:Nat) (h:k<es.length):rsL es v i (k+1)=stepR (rsL es v i k) es[k]:=by
 unfold rsL
 rw[List.take_succ_eq_append_getElem h,List.foldl_append]
 rfl
theorem rsL_len (es:List EdD) (v:Int) (i k:Nat) (hl:es.length≤120) (hi:i≤121) (hk:k≤120):(rsL es v i k).length≤100000:=by
 have h1:=iterR_len es v i hl
 have h2:=foldR_len (es.take k) (iterR es v i)
 have h3:(es.take k).length≤k:=List.length_take_le _ _
 unfold rsL
 omega
theorem stepR_ff {o:List Int} {e:EdD} (h1:hasB o e.1=false) (h2:hasB o e.2.2=false):stepR o e=o:=by
 unfold stepR
 rw[if_neg (hasB_not h1),if_neg (hasB_not h2)]
theorem stepR_ft {o:List Int} {e:EdD} (h1:hasB o e.1=false) (h2:hasB o e.2.2=true):stepR o e=insF cmpI o e.1:=by
 unfold stepR
 rw[if_neg (hasB_not h1),if_pos (hasB_iff.1 h2)]
theorem stepR_t {o:List Int} {e:EdD} (h1:hasB o e.1=true):stepR o e=insF cmpI (insF cmpI o e.2.2) e.1:=by
 unfold stepR
 rw[if_pos (hasB_iff.1 h1),if_pos (insF_mem.2 (.inl rfl))]
set_option maxHeartbeats 800000 in
theorem reachedFrom_any (v:Value) (g:GrD) (u:Int) (w:World) (h:ArgG w v g) (hg:grB g=true) (hu:inB u 0 (wrap64 (g.2.1-1))=true) (hu64:I64 u):
  Calls Tryz.prog 232 #[v, .int .i64 u] w fun e w'=> ∃r,e= .returned r∧OwI w' w.heap.size r (reachL g.2.2 u)∧Below w.heap.size w w':=by
 have HG:=hDD h
 obtain⟨_,hsz40,hl120,_⟩:=grB_parts hg
 have hw1:wrap64 (g.2.1-1)=g.2.1-1:=IntWalk.wrap64_in _ ⟨by omega,by omega⟩
 rw[hw1] at hu
 clear hw1
 have HU:=hDD hu64
 clear hu64
 obtain⟨s,rfl,_,_,ha⟩:=h
 have H:=hDD ha
 obtain⟨A,cap,rfl,hcap,hm,_,hr,_⟩:=ha
 have HR:=hDD hr
 unfold maxLen at hm
 have bx:Below w.heap.size w (w.alloc (Obj.cells #[Value.int IntKind.i64 g.1,Value.int IntKind.i64 g.2.1, .slice A g.2.2.length cap] 26)):=(by repeat(first | exact Below.refl _ _ | (refine Below.setCell ?_ (by first | omega | (simp<;>omega)) _) | (refine bel_drewN ?_ _) | (refine Below.drew ?_) | (refine Below.alloc ?_ (by first | omega | (simp<;>omega)) _)))
 have kx1:(w.alloc (Obj.cells #[Value.int IntKind.i64 g.1,Value.int IntKind.i64 g.2.1, .slice A g.2.2.length cap] 26)).cell? ⟨w.heap.size,1,none⟩=some (.int .i64 g.2.1):=by simp[go_sem]
 have kx:(w.alloc (Obj.cells #[Value.int IntKind.i64 g.1,Value.int IntKind.i64 g.2.1, .slice A g.2.2.length cap] 26)).cell? ⟨w.heap.size,2,none⟩=some (.slice A g.2.2.length cap):=by simp[go_sem]
 have sx:w.heap.size<(w.alloc (Obj.cells #[Value.int IntKind.i64 g.1,Value.int IntKind.i64 g.2.1, .slice A g.2.2.length cap] 26)).heap.size:=by simp
 have BX:=hDD bx
 have KX:=hDD kx
 have KX1:=hDD kx1
 clear bx kx kx1 hr
 go_enter Tryz.func232,Tryz.ntmps232
 go_wp2_with fail
 have hgr:=specIsGraph_any _ g _ (HG.out.below BX.out)
 rw[hg] at hgr
 have HGR:=hDD hgr
 clear hgr
 refine HGR.out.mono ?_
 rintro e w0 ⟨rfl,b1⟩
 have B0:=hDD (BX.out.trans (b1.mono BX.out.size))
 have k2:=(b1.cell (p:=⟨w.heap.size,2,none⟩) sx).trans KX.out
 have k1:=(b1.cell (p:=⟨w.heap.size,1,none⟩) sx).trans KX1.out
 have hs0:w.heap.size<w0.heap.size:=by have:=b1.size;omega
 clear b1 sx HGR
 go_wp2_with fail
 have hin:=l1In_any u 0 (g.2.1-1) w0
 rw[hu] at hin
 have HIN:=hDD hin
 clear hin
 refine HIN.out.mono ?_
 rintro e w' ⟨rfl,rfl⟩
 clear HIN
 go_wp2
 have hb:Below w0.heap.size w0 (w0.alloc (Obj.cells #[Value.int IntKind.i64 u] 3)):=(Below.refl _ _).alloc (Nat.le_refl _) _
 have o0:OwI (w0.alloc (Obj.cells #[Value.int IntKind.i64 u] 3)) w0.heap.size (.slice (some ⟨w0.heap.size,0,none⟩) 1 1) [u]:=OwI_lit w0 [u] (fun x hx=>by simp at hx;subst hx;exact HU.out) (by simp) (Nat.le_refl _)
 have hs1:w0.heap.size<(w0.alloc (Obj.cells #[Value.int IntKind.i64 u] 3)).heap.size:=by simp
 generalize w0.alloc (Obj.cells #[Value.int IntKind.i64 u] 3)=w1 at hb o0 hs1⊢
 have HB:=hDD (B0.out.trans (hb.mono B0.out.size))
 have K2:=hDD ((hb.cell (p:=⟨w.heap.size,2,none⟩) hs0).trans k2)
 have O0:=hDD (o0.mono (base':=w.heap.size+1) (by omega))
 clear hb k1 k2 o0
 go_loopw [5,6] (fun out i wo=> ∃k:Nat,k≤g.2.2.length+1∧i= .int .i64 k∧OwI wo (w.heap.size+1) out (iterR g.2.2 u k)∧Below (w.heap.size+1) w1 wo) (fun _ i _=>g.2.2.length+1-(intOf i).toNat)
 case atStart=>exact⟨0,Nat.zero_le _,rfl,O0.out,Below.refl _ _⟩
 case round=>
  obtain⟨k,hk,rfl,hown,hbel⟩:=hrel
  obtain⟨wo,rfl⟩: ∃wo:World,wo=wr:=⟨_,rfl⟩
  have HB2:=hDD hbel
  have HB3:=hDD (HB.out.trans (hbel.mono (by omega)))
  have hsz:=hbel.size
  have p2:=(hbel.cell (p:=⟨w.heap.size,2,none⟩) (show w.heap.size<w.heap.size+1 by omega)).trans K2.out
  have hws:w.heap.size<wo.heap.size:=by omega
  have hil:=iterR_len g.2.2 u k hl120
  have HO:=hDD hown
  obtain⟨A1,cap1,rfl,_⟩:=hown.form
  clear hown hbel
  by_cases hlt:k<g.2.2.length+1
  ·have hlt':(k:Int)<(g.2.2.length:Int)+1:=by omega
   go_wp2
   go_loopw [5,7] (fun out j wr=> ∃m:Nat,m≤g.2.2.length∧j= .int .i64 m∧OwI wr (w.heap.size+1) out (rsL g.2.2 u k m)∧Below (w.heap.size+1) wo wr) (fun _ j _=>g.2.2.length-(intOf j).toNat)
   case atStart=>exact⟨0,Nat.zero_le _,rfl,HO.out,Below.refl _ _⟩
   case round=>
    obtain⟨m,hm1,rfl,hown,hbi⟩:=hrel
    have hsi:=hbi.size
    have p2:=(hbi.cell (p:=⟨w.heap.size,2,none⟩) (show w.heap.size<w.heap.size+1 by omega)).trans p2
    have HBI:=hDD hbi
    have HB4:=hDD (HB3.out.trans (hbi.mono (by omega)))
    have hwr:w.heap.size<wr.heap.size:=by omega
    have hrl:=rsL_len g.2.2 u k m hl120 (by omega) (by omega)
    clear hbi
    by_cases hlt2:m<g.2.2.length
    ·obtain⟨b,off,rfl,hbl,c0,c1,c2,_⟩:=(H.out.below HB4.out).at hlt2
     have HX:=hDD (HR.out g.2.2[m] (by simp))
     have HS:=hDD (rsL_succ g.2.2 u k m hlt2)
     generalize g.2.2[m]=e at*
     generalize rsL g.2.2 u k m=o at*
     have HO2:=hDD hown
     obtain⟨A2,cap2,rfl,_⟩:=hown.form
     clear hown
     go_wp2_with fail
     obtain⟨W,hW⟩: ∃W,W=World.alloc wr (Obj.cells #[Value.int IntKind.i64 e.1,Value.int IntKind.i64 e.2.1,Value.int IntKind.i64 e.2.2] 97):=⟨_,rfl⟩
     rw[←hW]
     have bW:Below wr.heap.size wr W:=by rw[hW];exact(Below.refl _ _).alloc (Nat.le_refl _) _
     have sW:wr.heap.size<W.heap.size:=by rw[hW];simp
     have l0:W.cell? ⟨wr.heap.size,0,none⟩=some (.int .i64 e.1):=by rw[hW];simp[go_sem]
     have l2:W.cell? ⟨wr.heap.size,2,none⟩=some (.int .i64 e.2.2):=by rw[hW];simp[go_sem]
     have OW:=hDD (HO2.out.below bW)
     have BW:=hDD (HBI.out.trans (bW.mono (by omega)))
     clear hW bW p2 c0 c1 c2
     refine(l4Has_any _ o e.1 _ OW.out.rd.arg (by omega)).mono ?_
     rintro e' w' ⟨rfl,rfl⟩
     rcases h1:hasB o e.1 with _ | _
     ·go_wp2_with fail
      refine(l4Has_any _ o e.2.2 _ OW.out.rd.arg (by omega)).mono ?_
      rintro e' w' ⟨rfl,rfl⟩
      rcases h2:hasB o e.2.2 with _ | _
      ·have F:=hDD (stepR_ff h1 h2)
       go_wp2
       go_roundw
       case rel=>exact⟨m+1,by omega,by go_num,by rw[HS.out,F.out];exact OW.out,BW.out⟩
       case measure=>simp[intOf];omega
      ·have F:=hDD (stepR_ft h1 h2)
       go_wp2_with fail
       refine(l4Add_any _ o e.1 _ OW.out.rd HX.out.1 (by omega)).mono ?_
       rintro e' w2 ⟨r2,rfl,o2,b2⟩
       have O2:=hDD o2
       have B2:=hDD b2
       obtain⟨A3,cap3,rfl,_⟩:=o2.form
       clear o2 b2
       go_wp2
       go_roundw
       case rel=>exact⟨m+1,by omega,by go_num,by rw[HS.out,F.out];exact O2.out.mono (by omega),BW.out.trans (B2.out.mono (by omega))⟩
       case measure=>simp[intOf];omega
     ·have F:=hDD (stepR_t h1)
      go_wp2_with fail
      refine(l4Add_any _ o e.2.2 _ OW.out.rd HX.out.2.2 (by omega)).mono ?_
      rintro e' w2 ⟨r2,rfl,o2,b2⟩
      have O2:=hDD o2
      have B2:=hDD b2
      have s2:=b2.size
      have hq0:=(b2.cell (p:=⟨wr.heap.size,0,none⟩) sW).trans l0
      have hq2:=(b2.cell (p:=⟨wr.heap.size,2,none⟩) sW).trans l2
      obtain⟨A3,cap3,rfl,_⟩:=o2.form
      have hl2:=insF_len (c:=cmpI) o e.2.2
      have hm2:hasB (insF cmpI o e.2.2) e.2.2=true:=hasB_iff.2 (insF_mem.2 (.inl rfl))
      have HM2:=hDD hm2
      clear o2 b2 l0 l2 hm2
      generalize insF cmpI o e.2.2=o1 at*
      go_wp2_with fail
      refine(l4Has_any _ o1 e.2.2 _ O2.out.rd.arg (by omega)).mono ?_
      rintro e' w' ⟨rfl,rfl⟩
      rw[HM2.out]
      go_wp2_with fail
      refine(l4Add_any _ o1 e.1 _ O2.out.rd HX.out.1 (by omega)).mono ?_
      rintro e' w3 ⟨r3,rfl,o3,b3⟩
      have O3:=hDD o3
      have B3:=hDD b3
      obtain⟨A4,cap4,rfl,_⟩:=o3.form
      clear o3 b3
      go_wp2
      go_roundw
      case rel=>exact⟨m+1,by omega,by go_num,by rw[HS.out,F.out];exact O3.out.mono (by omega),(BW.out.trans (B2.out.mono (by omega))).trans (B3.out.mono (by omega))⟩
      case measure=>simp[intOf];omega
    ·obtain rfl:m=g.2.2.length:=by omega
     have F:Hid (rsL g.2.2 u k g.2.2.length=iterR g.2.2 u (k+1)):=hDD (by unfold rsL;rw[List.take_length];rfl)
     have HO2:=hDD hown
     obtain⟨A2,cap2,rfl,_⟩:=hown.form
     clear hown
     go_wp2
     go_roundw
     case rel=>exact⟨k+1,by omega,by go_num,by rw[←F.out];exact HO2.out,HB2.out.trans HBI.out⟩
     case measure=>simp[intOf];omega
  ·obtain rfl:k=g.2.2.length+1:=by omega
   have hge: ¬((g.2.2.length:Int)+1<(g.2.2.length:Int)+1):=by omega
   go_wp2
   go_ret
   exact⟨_,rfl,HO.out.mono (by omega),HB3.out⟩
theorem mt_clash {v x y y':Int} {e e':EdD} (h:mt v x e=some y) (h':mt v x e'=some y'):clash e e'=true:=by
 unfold mt at h h'
 by_cases hp:0<x
 ·rw[if_pos hp] at h h'
  split at h
  ·rename_i a
   split at h'
   ·rename_i b
    unfold clash
    simp[a.1,a.2,b.1,b.2]
   ·cases h'
  ·cases h
 ·rw[if_neg hp] at h h'
  by_cases hn:x<0
  ·rw[if_pos hn] at h h'
   split at h
   ·rename_i a
    split at h'
    ·rename_i b
     unfold clash
     simp[a.1,a.2,b.1,b.2]
    ·cases h'
   ·cases h
  ·rw[if_neg hn] at h;cases h
theorem steps_one {es:List EdD} (h:Fol es) (v x:Int):(stepsL es v x).length≤1:=by
 unfold stepsL
 unfold Fol at h
 induction es with
 | nil=>simp
 | cons e es ih=>
   have p:=List.pairwise_cons.1 h
   rw[List.filterMap_cons]
   cases hm:mt v x e with
   | none=>exact ih p.2
   | some y=>
     have:es.filterMap (mt v x)= []:=by
      rw[List.filterMap_eq_nil_iff]
      intro e' he'
      cases hm':mt v x e' with
      | none=>rfl
      | some y'=>
        have:=mt_clash hm hm'
        rw[p.1 e' he'] at this
        cases this
     simp[this]
theorem edge_of_gr {g:GrD} (h:grB g=true) {e:EdD} (he:e∈g.2.2):(0≤e.1∧e.1<g.2.1)∧(1≤e.2.1∧e.2.1≤g.1)∧(0≤e.2.2∧e.2.2<g.2.1):=by
 obtain⟨h1,h2,_,h4⟩:=grB_parts h
 obtain⟨k,hk,rfl⟩:=List.getElem_of_mem he
 have:=h4 k hk
 have ho:edgeOk g.1 g.2.1 g.2.2[k]=true:=by
  rcases Nat.eq_zero_or_pos k with rfl | h0
  ·rw[okE_zero hk] at this;exact this
  ·rw[okE_pos h0 hk,Bool.and_eq_true] at this;exact this.1
 unfold edgeOk at ho
 rw[IntWalk.wrap64_in (g.2.1-1) ⟨by omega,by omega⟩] at ho
 simp only[Bool.and_eq_true,inB_iff] at ho
 omega
theorem nextV_range {g:GrD} (h:grB g=true) (v x:Int):nextV g.2.2 v x= -1∨(0≤nextV g.2.2 v x∧nextV g.2.2 v x<g.2.1):=by
 unfold nextV stepsL
 cases hs:g.2.2.filterMap (mt v x) with
 | nil=>exact .inl rfl
 | cons y l=>
   right
   have hy:y∈g.2.2.filterMap (mt v x):=by rw[hs];simp
   obtain⟨e,he,hm⟩:=List.mem_filterMap.1 hy
   obtain⟨a,_,b⟩:=edge_of_gr h he
   show 0≤y∧y<g.2.1
   unfold mt at hm
   split at hm
   ·split at hm
    ·injection hm with hm;subst hm;exact b
    ·cases hm
   ·split at hm
    ·split at hm
     ·injection hm with hm;subst hm;exact a
     ·cases hm
    ·cases hm
theorem let_of_gr {g:GrD} (h:grB g=true): ∀e∈g.2.2,1≤e.2.1:=fun _ he=>(edge_of_gr h he).2.1.1
def cstep (es:List EdD) (u:Int) (o:List Int) (x:Int):List Int:=
 if 0≤nextV es u x then(if hasB o (nextV es u x) then o else o++ [nextV es u x]) else o
def canF (es:List EdD) (ls:List Int):Nat→Nat→List Int→List Int
 | 0,_,o=>o
 | f+1,i,o=>match o[i]? with
   | none=>o
   | some u=>canF es ls f (i+1) (ls.foldl (cstep es u) o)
def canO (g:GrD):List Int:=canF g.2.2 (lettersL g.1.toNat) 41 0 [0]
def OrdOk (n:Int) (o:List Int):Prop:=o.Nodup∧(∀y∈o,0≤y∧y<n)∧o[0]? =some 0
theorem nodup_len: ∀(n:Nat) (o:List Int),o.Nodup→(∀y∈o,0≤y∧y<n)→o.length≤n
 | 0,[],_,_=>Nat.le_refl _
 | 0,y::o,_,h=>by have:=h y (by simp);omega
 | n+1,o,hd,h=>by
   by_cases hm:(n:Int)∈o
   ·have h1:=List.length_erase_of_mem hm
    have h2:=nodup_len n (o.erase n) (hd.erase _) fun y hy=>by
     have hy':=(hd.mem_erase_iff).1 hy
     have:=h y hy'.2
     have:y≠(n:Int):=hy'.1
     omega
    have:0<o.length:=List.length_pos_of_mem hm
    omega
   ·have:=nodup_len n o hd fun y hy=>by
     have:=h y hy
     have:y≠(n:Int):=fun e=>hm (e▸hy)
     omega
    omega
def OrdN (n:Int) (o:List Int):Prop:=o.Nodup∧(∀y∈o,0≤y∧y<n)∧1≤o.length
theorem OrdOk.toN {n:Int} {o:List Int} (h:OrdOk n o):OrdN n o:=by
 refine⟨h.1,h.2.1,?_⟩
 have:=h.2.2
 cases o with
 | nil=>cases this
 | cons _ _=>simp
theorem OrdOk.len {n:Int} {o:List Int} (h:OrdOk n o) (hn:n≤40) (hn0:0≤n):o.length≤40:=by
 have:=nodup_len n.toNat o h.1 fun y hy=>by have:=h.2.1 y hy;omega
 omega
theorem cstep_ok {g:GrD} (hg:grB g=true) {u:Int} {o:List Int} (x:Int) (h:OrdOk g.2.1 o):OrdOk g.2.1 (cstep g.2.2 u o x):=by
 unfold cstep
 split
 ·rename_i h0
  split
  ·exact h
  ·rename_i hb
   have hb':nextV g.2.2 u x∉o:=hasB_not (by simpa using hb)
   refine⟨List.nodup_append.2 ⟨h.1,by simp,fun a ha b hb e=> ?_⟩,fun y hy=> ?_,?_⟩
   ·simp at hb
    subst hb e
    exact hb' ha
   ·rcases List.mem_append.1 hy with hy | hy
    ·exact h.2.1 y hy
    ·simp at hy
     subst hy
     rcases nextV_range hg u x with e | e
     ·omega
     ·exact e
   ·have:0<o.length:=by
     have:=h.2.2
     cases o with
     | nil=>cases this
     | cons _ _=>simp
    rw[List.getElem?_append_left this]
    exact h.2.2
 ·exact h
theorem cfold_ok {g:GrD} (hg:grB g=true) {u:Int} (ls:List Int) {o:List Int} (h:OrdOk g.2.1 o):OrdOk g.2.1 (ls.foldl (cstep g.2.2 u) o):=by
 induction ls generalizing o with
 | nil=>exact h
 | cons x ls ih=>exact ih (cstep_ok hg x h)
theorem cfold_prefix (es:List EdD) (u:Int) (ls:List Int) (o:List Int) (i:Nat) (y:Int) (h:o[i]? =some y):(ls.foldl (cstep es u) o)[i]? =some y:=by
 induction ls generalizing o with
 | nil=>exact h
 | cons x ls ih=>
   refine ih _ ?_
   unfold cstep
   split
   ·split
    ·exact h
    ·rw[List.getElem?_append_left (List.getElem?_eq_some_iff.1 h).1];exact h
   ·exact h
theorem cfold_succ (es:List EdD) (u:Int) (ls o:List Int) (k:Nat) (h:k<ls.length):(ls.take (k+1)).foldl (cstep es u) o=cstep es u ((ls.take k).foldl (cstep es u) o) ls[k]:=by
 rw[List.take_succ_eq_append_getElem h,List.foldl_append]
 rfl
theorem OrdOk.one {n:Int} (h:1≤n):OrdOk n [0]:=⟨by simp,fun y hy=>by simp at hy;omega,rfl⟩
theorem canF_end (es:List EdD) (ls:List Int) (f:Nat) (o:List Int):canF es ls f o.length o=o:=by
 cases f with
 | zero=>rfl
 | succ f=>unfold canF;rw[List.getElem?_eq_none (Nat.le_refl _)]
theorem canF_step (es:List EdD) (ls:List Int) (f i:Nat) (o:List Int) (h:i<o.length):canF es ls (f+1) i o=canF es ls f (i+1) (ls.foldl (cstep es o[i]) o):=by
 rw[canF,List.getElem?_eq_getElem h]
theorem canF_ok {g:GrD} (hg:grB g=true) (ls:List Int) (f i:Nat) {o:List Int} (h:OrdOk g.2.1 o):OrdOk g.2.1 (canF g.2.2 ls f i o):=by
 induction f generalizing i o with
 | zero=>exact h
 | succ f ih=>
   unfold canF
   split
   ·exact h
   ·exact ih _ (cfold_ok hg ls h)
theorem canO_ok {g:GrD} (hg:grB g=true):OrdOk g.2.1 (canO g):=canF_ok hg _ _ _ (OrdOk.one (grB_parts hg).2.1.1)
end Go.Proofs.YtnjpoljbagfdnaaGreat
namespace Go.Proofs.YtnjpoljbagfdnaaGreat
set_option maxRecDepth 20000
set_option linter.unusedVariables false
set_option linter.unusedSimpArgs false
open Go.RowKit
theorem letters_mem {r:Nat} {x:Int}:x∈lettersL r↔(1≤x∧x≤r)∨(-(r:Int)≤x∧x≤ -1):=by
 induction r with
 | zero=>simp[lettersL];omega
 | succ n ih=>
   unfold lettersL
   rw[List.mem_append,ih]
   simp
   omega
theorem nextV_mem {es:List EdD} {v x:Int} (h:0≤nextV es v x): ∃e∈es,mt v x e=some (nextV es v x):=by
 unfold nextV at*
 cases hs:stepsL es v x with
 | nil=>rw[hs] at h;simp at h
 | cons y l=>
   have hy:y∈stepsL es v x:=by rw[hs];simp
   unfold stepsL at hy
   obtain⟨e,he,hm⟩:=List.mem_filterMap.1 hy
   exact⟨e,he,by simpa using hm⟩
theorem nextV_of {es:List EdD} (hf:Fol es) {v x y:Int} {e:EdD} (he:e∈es) (hm:mt v x e=some y):nextV es v x=y:=by
 have hy:y∈stepsL es v x:=List.mem_filterMap.2 ⟨e,he,hm⟩
 have h1:=steps_one hf v x
 unfold nextV
 cases hs:stepsL es v x with
 | nil=>rw[hs] at hy;simp at hy
 | cons z l=>
   rw[hs] at h1 hy
   have:l= []:=by simpa using h1
   subst this
   simp at hy
   simp[hy]
theorem nextV_back {g:GrD} (hg:grB g=true) (hf:Fol g.2.2) {v x:Int} (hx: -3≤x∧x≤3) (h:0≤nextV g.2.2 v x):nextV g.2.2 (nextV g.2.2 v x) (-x)=v:=by
 obtain⟨e,he,hm⟩:=nextV_mem h
 refine nextV_of hf he ?_
 generalize nextV g.2.2 v x=y at*
 have hw1:wrap64 (-x)= -x:=IntWalk.wrap64_in _ ⟨by omega,by omega⟩
 have hw2:wrap64 (- -x)=x:=by rw[Int.neg_neg];exact IntWalk.wrap64_in _ ⟨by omega,by omega⟩
 unfold mt at hm⊢
 by_cases hp:0<x
 ·rw[if_pos hp] at hm
  split at hm
  ·rename_i a
   injection hm with hm
   rw[if_neg (by omega),if_pos (by omega),hw2,if_pos ⟨a.1,hm⟩,a.2]
  ·cases hm
 ·rw[if_neg hp] at hm
  by_cases hn:x<0
  ·rw[if_pos hn,hw1] at hm
   split at hm
   ·rename_i a
    injection hm with hm
    rw[if_pos (by omega),if_pos ⟨a.1,hm⟩,a.2]
   ·cases hm
  ·rw[if_neg hn] at hm;cases hm
def walkF (es:List EdD):Int→List Int→Int
 | v,[]=>v
 | v,x::w=>if nextV es v x<0 then-1 else walkF es (nextV es v x) w
theorem walkF_range {g:GrD} (hg:grB g=true): ∀(w:List Int) (v:Int),0≤v∧v<g.2.1→walkF g.2.2 v w= -1∨(0≤walkF g.2.2 v w∧walkF g.2.2 v w<g.2.1)
 | [],v,hv=> .inr hv
 | x::w,v,hv=>by
   unfold walkF
   rcases nextV_range hg v x with h | h
   ·rw[if_pos (by omega)];exact .inl rfl
   ·rw[if_neg (by omega)];exact walkF_range hg w _ h
end Go.Proofs.YtnjpoljbagfdnaaGreat
namespace Go.Proofs.YtnjpoljbagfdnaaGreat
set_option maxRecDepth 20000
set_option linter.unusedVariables false
set_option linter.unusedSimpArgs false
open Go.RowKit
def okAt (r:Int) (xs:List Int) (i:Nat):Bool:=letB r (xs.getD i 0)&& !(decide (0<i)&&invB (xs.getD (i-1) 0) (xs.getD i 0))
def wordB (r:Int) (xs:List Int):Bool:=inB r 1 3&&decide (xs.length≤24)&&(List.range xs.length).all (okAt r xs)
theorem wordB_true {r:Int} {xs:List Int} (h1:inB r 1 3=true) (h2:xs.length≤24) (h: ∀i,i<xs.length→okAt r xs i=true):wordB r xs=true:=by
 unfold wordB
 rw[h1]
 simp[h2]
 exact h
theorem wordB_false {r:Int} {xs:List Int} (i:Nat) (hi:i<xs.length) (h:inB r 1 3=true→okAt r xs i=false):wordB r xs=false:=by
 unfold wordB
 rcases h1:inB r 1 3 with _ | _
 ·rfl
 ·have h2:=h h1
  simp
  intro _
  exact⟨i,hi,h2⟩
theorem wordB_rank {r:Int} {xs:List Int} (h:wordB r xs=true):1≤r∧r≤3:=by
 unfold wordB at h
 simp only[Bool.and_eq_true] at h
 exact inB_iff.1 h.1.1
theorem wordB_len {r:Int} {xs:List Int} (h:wordB r xs=true):xs.length≤24:=by
 unfold wordB at h
 simp only[Bool.and_eq_true,decide_eq_true_eq] at h
 exact h.1.2
theorem wordB_ok {r:Int} {xs:List Int} (h:wordB r xs=true) (i:Nat) (hi:i<xs.length):okAt r xs i=true:=by
 unfold wordB at h
 simp only[Bool.and_eq_true,List.all_eq_true,List.mem_range] at h
 exact h.2 i hi
theorem wordB_get {r:Int} {xs:List Int} (h:wordB r xs=true) (i:Nat) (hi:i<xs.length):xs[i]≠0∧ -r≤xs[i]∧xs[i]≤r:=by
 have h1:=wordB_ok h i hi
 unfold okAt at h1
 simp only[Bool.and_eq_true] at h1
 have h2:=h1.1
 rw[letB_iff (inB_iff.2 (wordB_rank h))] at h2
 simpa[List.getD,hi] using h2
theorem okAt_zero {r:Int} {xs:List Int} (h:0<xs.length):okAt r xs 0=letB r xs[0]:=by
 simp[okAt,List.getD,h]
theorem okAt_pos {r:Int} {xs:List Int} {k:Nat} (h0:0<k) (h:k<xs.length):okAt r xs k=(letB r xs[k]&& !invB xs[k-1] xs[k]):=by
 have:k-1<xs.length:=by omega
 simp[okAt,List.getD,h,h0,this]
theorem invB_small {a b:Int} (ha:a≠0) (h1: -3≤a) (h2:a≤3):invB a b=(b==wrap64 (-a)):=by
 have:wrap64 (-a)= -a:=IntWalk.wrap64_in _ ⟨by omega,by omega⟩
 rw[this]
 unfold invB
 rw[Bool.eq_iff_iff]
 simp
 omega
set_option maxHeartbeats 2000000 in
theorem specIsWord_any (r:Int) (v:Value) (xs:List Int) (w:World) (h:ArgI w v xs) (hl:xs.length≤1073741824):
  Calls Tryz.prog 128 #[.int .i64 r,v] w fun e w'=>e= .returned (.bool (wordB r xs))∧ ∃n,w'=w.drewN n:=by
 obtain⟨A,cap,rfl,hcap,hm,hr,hb⟩:=h
 have HR:=hDD hr
 have HB:=hDD hb
 clear hr hb
 go_enter Tryz.func128,Tryz.ntmps128
 go_wp2
 go_loopw [5] (fun i wr=> ∃k:Nat,k≤xs.length∧i= .int .i64 k∧(inB r 1 3=true→ ∀j,j<k→okAt r xs j=true)∧ ∃n,wr=w.drewN n) (fun i _=>xs.length-(intOf i).toNat)
 case atStart=>exact⟨0,Nat.zero_le _,rfl,fun _ j hj=>absurd hj (by omega),0,rfl⟩
 case round=>
  obtain⟨k,hk,rfl,hok,n,rfl⟩:=hrel
  have HOK:=hDD hok
  clear hok
  by_cases hlt:k<xs.length
  ·obtain⟨b,off,rfl,hc⟩:=HB.out (by omega)
   have hcell:=hc k hlt
   by_cases h0:0<k
   ·have hcell2:=hc (k-1) (by omega)
    have HZ:=hDD (okAt_pos (r:=r) h0 hlt)
    have HP:Hid (inB r 1 3=true→xs[k-1]≠0∧ -3≤xs[k-1]∧xs[k-1]≤3):=fun hr3=>by
     have h1:=HOK.out hr3 (k-1) (by omega)
     unfold okAt at h1
     simp only[Bool.and_eq_true] at h1
     have h2:=h1.1
     rw[letB_iff hr3] at h2
     have h3:=inB_iff.1 hr3
     have h4:xs.getD (k-1) 0=xs[k-1]:=by simp[List.getD,show k-1<xs.length by omega]
     rw[h4] at h2
     omega
    have hd0:decide ((0:Int)<(k:Int))=true:=by simp;omega
    clear hc
    generalize xs[k-1]=y at hcell2 HZ HP
    generalize hx:xs[k]=x at hcell HZ
    clear hx
    have key:Hid (∀(b:Bool),(letB r x&& !(x==wrap64 (-y)))=b→inB r 1 3=true→okAt r xs k=b):=fun b hb hr3=>by
     rw[HZ.out,invB_small (HP.out hr3).1 (HP.out hr3).2.1 (HP.out hr3).2.2];exact hb
    rcases e1:(x==0) with _ | _
    ·have e1':(x != 0)=true:=by simpa using e1
     rcases e2:inB x (wrap64 (-r)) r with _ | _
     ·have F:=hDD (key.out false (by unfold letB;rw[e1',e2];rfl))
      clear e1'
      go_wp2
      go_quiet ((go_at_call 138;first | exact quiet_left (l1In_any _ _ _ _) | exact quiet_add_left (l1In_any _ _ _ _)))
      go_wp2
      go_ret
      exact⟨ret_bool (wordB_false k hlt F.out).symm,_,World.drewN_drewN _ _ _⟩
     ·rcases e3:(x==wrap64 (-y)) with _ | _
      ·have F:=hDD (key.out true (by unfold letB;rw[e1',e2,e3];rfl))
       clear e1'
       go_wp2
       go_quiet ((go_at_call 138;first | exact quiet_left (l1In_any _ _ _ _) | exact quiet_add_left (l1In_any _ _ _ _)))
       go_wp2
       go_roundw
       case rel=>exact⟨k+1,by omega,by go_num,fun hr3 j hj=>by
        rcases Nat.lt_or_eq_of_le (Nat.le_of_lt_succ hj) with hj | rfl
        ·exact HOK.out hr3 j hj
        ·exact F.out hr3,_,rfl⟩
       case measure=>simp[intOf];omega
      ·have F:=hDD (key.out false (by rw[e3];simp))
       clear e1'
       go_wp2
       go_quiet ((go_at_call 138;first | exact quiet_left (l1In_any _ _ _ _) | exact quiet_add_left (l1In_any _ _ _ _)))
       go_wp2
       go_ret
       exact⟨ret_bool (wordB_false k hlt F.out).symm,_,World.drewN_drewN _ _ _⟩
    ·have e1':(x != 0)=false:=by simpa using e1
     have F:=hDD (key.out false (by unfold letB;rw[e1'];rfl))
     clear e1'
     go_wp2
     go_quiet (fail)
     go_wp2
     go_ret
     exact⟨ret_bool (wordB_false k hlt F.out).symm,_,World.drewN_drewN _ _ _⟩
   ·obtain rfl:k=0:=by omega
    rw[Nat.add_zero] at hcell
    have HZ:=hDD (okAt_zero (r:=r) hlt)
    clear hc
    generalize hx:xs[0]=x at hcell HZ
    clear hx
    rcases e1:(x==0) with _ | _
    ·have e1':(x != 0)=true:=by simpa using e1
     rcases e2:inB x (wrap64 (-r)) r with _ | _
     ·have F:Hid (okAt r xs 0=false):=hDD (by rw[HZ.out];unfold letB;rw[e2,Bool.and_false])
      clear e1'
      go_wp2
      go_quiet ((go_at_call 138;first | exact quiet_left (l1In_any _ _ _ _) | exact quiet_add_left (l1In_any _ _ _ _)))
      go_wp2
      go_ret
      exact⟨ret_bool (wordB_false 0 hlt fun _=>F.out).symm,_,World.drewN_drewN _ _ _⟩
     ·have F:Hid (okAt r xs 0=true):=hDD (by rw[HZ.out];unfold letB;rw[e1',e2];rfl)
      clear e1'
      go_wp2
      go_quiet ((go_at_call 138;first | exact quiet_left (l1In_any _ _ _ _) | exact quiet_add_left (l1In_any _ _ _ _)))
      go_wp2
      go_roundw
      case rel=>exact⟨1,by omega,by go_num,fun hr3 j hj=>by
       obtain rfl:j=0:=by omega
       exact F.out,_,rfl⟩
      case measure=>simp[intOf];omega
    ·have e1':(x != 0)=false:=by simpa using e1
     have F:Hid (okAt r xs 0=false):=hDD (by rw[HZ.out];unfold letB;rw[e1'];rfl)
     clear e1'
     go_wp2
     go_quiet (fail)
     go_wp2
     go_ret
     exact⟨ret_bool (wordB_false 0 hlt fun _=>F.out).symm,_,World.drewN_drewN _ _ _⟩
  ·obtain rfl:k=xs.length:=by omega
   rcases e1:inB r 1 3 with _ | _
   ·have F:Hid (wordB r xs=false):=hDD (by unfold wordB;rw[e1];rfl)
    go_wp2_with (go_at_call 138;refine(l1In_any _ _ _ _).mono ?_;rintro e w' ⟨rfl,rfl⟩)
    go_ret
    exact⟨ret_bool F.out.symm,n,rfl⟩
   ·by_cases h24:xs.length≤24
    ·have F:=hDD (wordB_true e1 h24 (HOK.out e1))
     go_wp2_with (go_at_call 138;refine(l1In_any _ _ _ _).mono ?_;rintro e w' ⟨rfl,rfl⟩)
     go_ret
     exact⟨ret_bool (by rw[F.out];simp;omega),n,rfl⟩
    ·have F:Hid (wordB r xs=false):=hDD (by unfold wordB;rw[decide_eq_false h24];simp)
     go_wp2_with (go_at_call 138;refine(l1In_any _ _ _ _).mono ?_;rintro e w' ⟨rfl,rfl⟩)
     go_ret
     exact⟨ret_bool (by rw[F.out];simp;omega),n,rfl⟩
end Go.Proofs.YtnjpoljbagfdnaaGreat
namespace Go.Proofs.YtnjpoljbagfdnaaGreat
set_option maxRecDepth 20000
set_option linter.unusedVariables false
set_option linter.unusedSimpArgs false
open Go.RowKit
end Go.Proofs.YtnjpoljbagfdnaaGreat
namespace Go.Proofs.YtnjpoljbagfdnaaGreat
set_option maxRecDepth 20000
set_option linter.unusedVariables false
set_option linter.unusedSimpArgs false
open Go.RowKit
def Ow3 (lo:Nat) (w:World) (v1:Value) (L1:List (List Int)) (v2:Value) (L2:List (List Int)) (v3:Value) (L3:List (List Int)):Prop:=
 ∃F1 F2 F3,OwLf EI 37 1 w v1 L1 F1∧OwLf EI 37 1 w v2 L2 F2∧OwLf EI 37 1 w v3 L3 F3∧(F1++(F2++F3)).Nodup∧ ∀b∈F1++(F2++F3),lo≤b∧b<w.heap.size
section
variable {lo:Nat} {w w' w0:World} {v1 v2 v3:Value} {L1 L2 L3:List (List Int)}
end
set_option maxHeartbeats 400000 in
theorem specNewGraph_any (n:Int) (w:World) (hn:I64 n):
  Calls Tryz.prog 264 #[.int .i64 n] w fun x w'=>x= .returned (.tuple #[if inB n 1 3=true then .agg #[.int .i64 n, .int .i64 1, .slice none 0 0] else .agg #[.int .i64 0, .int .i64 0, .slice none 0 0], .bool (inB n 1 3)])∧Below w.heap.size w w':=by
 rcases e1:inB n 1 3 with _ | _
 ·go_enter Tryz.func264,Tryz.ntmps264
  go_wp2_with (go_at_call 138;refine(l1In_any _ _ _ _).mono ?_;rintro e w' ⟨rfl,rfl⟩)
  exact bodyPost_ret (v:= .tuple #[.agg #[.int .i64 0, .int .i64 0, .slice none 0 0], .bool false]) (by simp[results,Tryz.results264,go_sem]) rfl ⟨rfl,(by repeat(first | exact Below.refl _ _ | (refine Below.setCell ?_ (by first | omega | (simp<;>omega)) _) | (refine bel_drewN ?_ _) | (refine Below.drew ?_) | (refine Below.alloc ?_ (by first | omega | (simp<;>omega)) _)))⟩
 ·go_enter Tryz.func264,Tryz.ntmps264
  go_wp2_with (go_at_call 138;refine(l1In_any _ _ _ _).mono ?_;rintro e w' ⟨rfl,rfl⟩)
  exact bodyPost_ret (v:= .tuple #[.agg #[.int .i64 n, .int .i64 1, .slice none 0 0], .bool true]) (by simp[results,Tryz.results264,go_sem]) rfl ⟨rfl,(by repeat(first | exact Below.refl _ _ | (refine Below.setCell ?_ (by first | omega | (simp<;>omega)) _) | (refine bel_drewN ?_ _) | (refine Below.drew ?_) | (refine Below.alloc ?_ (by first | omega | (simp<;>omega)) _)))⟩
set_option maxHeartbeats 1000000 in
theorem specAddEdge_any (v:Value) (g:GrD) (e:EdD) (w:World) (h:ArgG w v g) (he:E64 e) (hg:grB g=true) (hok:edgeOk g.1 g.2.1 e=true) (hl:g.2.2.length<120):
  Calls Tryz.prog 239 #[v,edV e] w fun x w'=> ∃r,x= .returned (.tuple #[r, .bool (decide (g.2.2.length<(insF cmpE g.2.2 e).length))])∧OwG w' w.heap.size r (g.1,g.2.1,insF cmpE g.2.2 e)∧Below w.heap.size w w':=by
 have HG:=hDD h
 obtain⟨r,n,es⟩:=g
 have HGR:=hDD hg
 have HOK:=hDD hok
 have HE64:=hDD he
 simp only at hl
 obtain⟨A,cap,rfl,HE⟩: ∃A cap,v= .agg #[.int .i64 r, .int .i64 n, .slice A es.length cap]∧Hid (ArgE w (.slice A es.length cap) es):=by
  obtain⟨s,hv,_,_,ha⟩:=HG.out
  obtain⟨A,cap,rfl⟩:=ha.form
  exact⟨A,cap,hv,hDD ha⟩
 obtain⟨e1,e2,e3⟩:=e
 clear h hg hok he
 have bx:Below w.heap.size w (((w.alloc (Obj.cells #[Value.int IntKind.i64 r,Value.int IntKind.i64 n, .slice A es.length cap] 26)).alloc (Obj.cells #[.int .i64 e1, .int .i64 e2, .int .i64 e3] 97)).alloc (Obj.cells #[Value.int IntKind.i64 0,Value.int IntKind.i64 0, .slice none 0 0] 26)):=(by repeat(first | exact Below.refl _ _ | (refine Below.setCell ?_ (by first | omega | (simp<;>omega)) _) | (refine bel_drewN ?_ _) | (refine Below.drew ?_) | (refine Below.alloc ?_ (by first | omega | (simp<;>omega)) _)))
 unfold edV
 go_enter Tryz.func239,Tryz.ntmps239
 go_wp2_with fail
 obtain⟨W0,hW0⟩: ∃W,W=(((w.alloc (Obj.cells #[Value.int IntKind.i64 r,Value.int IntKind.i64 n, .slice A es.length cap] 26)).alloc (Obj.cells #[.int .i64 e1, .int .i64 e2, .int .i64 e3] 97)).alloc (Obj.cells #[Value.int IntKind.i64 0,Value.int IntKind.i64 0, .slice none 0 0] 26)):=⟨_,rfl⟩
 rw[←hW0] at bx⊢
 have hsW:W0.heap.size=w.heap.size+3:=by rw[hW0];simp
 have P0:Hid (W0.cell? ⟨w.heap.size,0,none⟩=some (.int .i64 r)):=hDD (by rw[hW0];simp[go_sem])
 have P1:Hid (W0.cell? ⟨w.heap.size,1,none⟩=some (.int .i64 n)):=hDD (by rw[hW0];simp[go_sem])
 have P2:Hid (W0.cell? ⟨w.heap.size,2,none⟩=some (.slice A es.length cap)):=hDD (by rw[hW0];simp[go_sem])
 have E0:Hid (W0.cell? ⟨w.heap.size+1,0,none⟩=some (.int .i64 e1)):=hDD (by rw[hW0];simp[go_sem])
 have E1:Hid (W0.cell? ⟨w.heap.size+1,1,none⟩=some (.int .i64 e2)):=hDD (by rw[hW0];simp[go_sem])
 have E2:Hid (W0.cell? ⟨w.heap.size+1,2,none⟩=some (.int .i64 e3)):=hDD (by rw[hW0];simp[go_sem])
 have R0:Hid (∃u,W0.cell? ⟨w.heap.size+2,0,none⟩=some u):=hDD ⟨.int .i64 0,by rw[hW0];simp[go_sem]⟩
 have R1:Hid (∃u,W0.cell? ⟨w.heap.size+2,1,none⟩=some u):=hDD ⟨.int .i64 0,by rw[hW0];simp[go_sem]⟩
 have R2:Hid (∃u,W0.cell? ⟨w.heap.size+2,2,none⟩=some u):=hDD ⟨.slice none 0 0,by rw[hW0];simp[go_sem]⟩
 have RF:Hid (∀j,W0.frozen? ⟨w.heap.size+2,j,none⟩=false):=hDD fun j=>by rw[hW0];simp[go_sem]
 clear hW0
 have BX:=hDD bx
 have HCP:=hDD (l4Copy_any _ (r,n,es) W0 (HG.out.below bx) (show es.length≤1073741824 by omega))
 clear bx
 refine HCP.out.mono ?_
 rintro x w1 ⟨r1,rfl,o1,b1⟩
 obtain⟨s1,rfl,i1,i2,os1⟩:=o1
 obtain⟨A1,c1,rfl,_⟩:=OwE.form os1
 have hs1:=b1.size
 have HB1:=hDD b1
 have bz:Below W0.heap.size W0 (w1.alloc (Obj.cells #[Value.int IntKind.i64 r,Value.int IntKind.i64 n, .slice A1 es.length c1] 26)):=b1.alloc hs1 _
 clear HCP b1 os1
 have k0:=(bz.cell (p:=⟨w.heap.size,0,none⟩) (by show w.heap.size<_;omega)).trans P0.out
 have k1:=(bz.cell (p:=⟨w.heap.size,1,none⟩) (by show w.heap.size<_;omega)).trans P1.out
 have k2:=(bz.cell (p:=⟨w.heap.size,2,none⟩) (by show w.heap.size<_;omega)).trans P2.out
 go_wp2_with fail
 clear k0 k1 k2
 obtain⟨W1,hW1⟩: ∃W,W=w1.alloc (Obj.cells #[Value.int IntKind.i64 r,Value.int IntKind.i64 n, .slice A1 es.length c1] 26):=⟨_,rfl⟩
 rw[←hW1] at bz⊢
 have hsW1:W1.heap.size=w1.heap.size+1:=by rw[hW1];simp
 have X0:Hid (W1.cell? ⟨w1.heap.size,0,none⟩=some (.int .i64 r)):=hDD (by rw[hW1];simp[go_sem])
 have X1:Hid (W1.cell? ⟨w1.heap.size,1,none⟩=some (.int .i64 n)):=hDD (by rw[hW1];simp[go_sem])
 have X2:Hid (W1.cell? ⟨w1.heap.size,2,none⟩=some (.slice A1 es.length c1)):=hDD (by rw[hW1];simp[go_sem])
 have XF:Hid (∀j,W1.frozen? ⟨w1.heap.size,j,none⟩=false):=hDD fun j=>by rw[hW1];simp[go_sem]
 have BZ:=hDD bz
 clear hW1 bz HB1
 have HIG:=hDD (specIsGraph_any _ (r,n,es) W1 (HG.out.below (BX.out.trans (BZ.out.mono BX.out.size))))
 rw[HGR.out] at HIG
 refine HIG.out.mono ?_
 rintro x w2 ⟨rfl,b2⟩
 have hs2:=b2.size
 have B2:=hDD (BZ.out.trans (b2.mono BZ.out.size))
 have B2W:=hDD b2
 clear b2 HIG
 have k0:=(B2.out.cell (p:=⟨w.heap.size,0,none⟩) (by show w.heap.size<_;omega)).trans P0.out
 have k1:=(B2.out.cell (p:=⟨w.heap.size,1,none⟩) (by show w.heap.size<_;omega)).trans P1.out
 have k2:=(B2.out.cell (p:=⟨w.heap.size,2,none⟩) (by show w.heap.size<_;omega)).trans P2.out
 have m0:=(B2.out.cell (p:=⟨w.heap.size+1,0,none⟩) (by show w.heap.size+1<_;omega)).trans E0.out
 have m1:=(B2.out.cell (p:=⟨w.heap.size+1,1,none⟩) (by show w.heap.size+1<_;omega)).trans E1.out
 have m2:=(B2.out.cell (p:=⟨w.heap.size+1,2,none⟩) (by show w.heap.size+1<_;omega)).trans E2.out
 have HED:=hDD (l4Edge_any r n A es.length cap (e1,e2,e3) w2)
 rw[HOK.out] at HED
 unfold edV at HED
 go_wp2_with fail
 refine HED.out.mono ?_
 rintro x w3 ⟨rfl,b3⟩
 have hs3:=b3.size
 have B3:=hDD (B2.out.trans (b3.mono B2.out.size))
 have B3W:=hDD (B2W.out.trans (b3.mono B2W.out.size))
 clear b3 k0 k1 k2 m0 m1 m2 HED
 have k2:=(B3.out.cell (p:=⟨w.heap.size,2,none⟩) (by show w.heap.size<_;omega)).trans P2.out
 have m0:=(B3.out.cell (p:=⟨w.heap.size+1,0,none⟩) (by show w.heap.size+1<_;omega)).trans E0.out
 have m1:=(B3.out.cell (p:=⟨w.heap.size+1,1,none⟩) (by show w.heap.size+1<_;omega)).trans E1.out
 have m2:=(B3.out.cell (p:=⟨w.heap.size+1,2,none⟩) (by show w.heap.size+1<_;omega)).trans E2.out
 have HPU:=hDD (l4Put_any _ es (e1,e2,e3) w3 ((HE.out.below BX.out).below B3.out) HE64.out (by omega))
 unfold edV at HPU
 have hlI:((es.length:Int)≥120)=False:=by simp;omega
 go_wp2_with fail
 refine HPU.out.mono ?_
 rintro x w4 ⟨r4,rfl,o4,b4⟩
 have hs4:=b4.size
 have B4:=hDD (B3.out.trans (b4.mono B3.out.size))
 have B4W:=hDD (B3W.out.trans (b4.mono B3W.out.size))
 clear b4 k2 m0 m1 m2 HPU
 obtain⟨L,hL⟩: ∃L,L=insF cmpE es (e1,e2,e3):=⟨_,rfl⟩
 rw[←hL] at o4
 have HLL:=hDD hL
 clear hL
 obtain⟨A4,c4,rfl,_⟩:=OwE.form o4
 have O4:=hDD o4
 have x0:=(B4W.out.cell (p:=⟨w1.heap.size,0,none⟩) (by show w1.heap.size<_;omega)).trans X0.out
 have x1:=(B4W.out.cell (p:=⟨w1.heap.size,1,none⟩) (by show w1.heap.size<_;omega)).trans X1.out
 have x2:=(B4W.out.cell (p:=⟨w1.heap.size,2,none⟩) (by show w1.heap.size<_;omega)).trans X2.out
 have xf:=(B4W.out.frozen (p:=⟨w1.heap.size,2,none⟩) (by show w1.heap.size<_;omega)).trans (XF.out 2)
 clear o4
 go_wp2_with fail
 obtain⟨w5,hw5⟩: ∃W,W=w4.setCell ⟨w1.heap.size,2,none⟩ (.slice A4 L.length c4):=⟨_,rfl⟩
 have y0:w5.cell? ⟨w1.heap.size,0,none⟩=some (.int .i64 r):=by rw[hw5,World.cell?_setCell_other _ _ _ _ (by simp)];exact x0
 have y1:w5.cell? ⟨w1.heap.size,1,none⟩=some (.int .i64 n):=by rw[hw5,World.cell?_setCell_other _ _ _ _ (by simp)];exact x1
 have y2:w5.cell? ⟨w1.heap.size,2,none⟩=some (.slice A4 L.length c4):=by rw[hw5];exact World.cell?_setCell_same _ _ _ x2
 have B5:Hid (Below W0.heap.size W0 w5):=hDD (by rw[hw5];exact B4.out.setCell (by show _≤w1.heap.size;omega) _)
 have O5:Hid (OwE w5 W1.heap.size (.slice A4 L.length c4) L):=hDD (by rw[hw5];exact(O4.out.mono (by omega)).far (by show w1.heap.size<_;omega) _)
 rw[←hw5]
 clear hw5 x0 x1 x2 xf
 have k2:=(B5.out.cell (p:=⟨w.heap.size,2,none⟩) (by show w.heap.size<_;omega)).trans P2.out
 obtain⟨u0,hu0⟩:=R0.out
 obtain⟨u1,hu1⟩:=R1.out
 obtain⟨u2,hu2⟩:=R2.out
 have r0:=(B5.out.cell (p:=⟨w.heap.size+2,0,none⟩) (by show w.heap.size+2<_;omega)).trans hu0
 have r1:=(B5.out.cell (p:=⟨w.heap.size+2,1,none⟩) (by show w.heap.size+2<_;omega)).trans hu1
 have r2:=(B5.out.cell (p:=⟨w.heap.size+2,2,none⟩) (by show w.heap.size+2<_;omega)).trans hu2
 have rf0:=(B5.out.frozen (p:=⟨w.heap.size+2,0,none⟩) (by show w.heap.size+2<_;omega)).trans (RF.out 0)
 have rf1:=(B5.out.frozen (p:=⟨w.heap.size+2,1,none⟩) (by show w.heap.size+2<_;omega)).trans (RF.out 1)
 have rf2:=(B5.out.frozen (p:=⟨w.heap.size+2,2,none⟩) (by show w.heap.size+2<_;omega)).trans (RF.out 2)
 have hs5:w.heap.size+3≤w5.heap.size:=by have:=B5.out.size;omega
 clear hu0 hu1 hu2 hlI
 go_region
 have c0:(((w5.setCell ⟨w.heap.size+1+1,0,none⟩ (.int .i64 r)).setCell ⟨w.heap.size+1+1,1,none⟩ (.int .i64 n)).setCell ⟨w.heap.size+1+1,2,none⟩ (.slice A4 L.length c4)).drew.cell? ⟨w.heap.size+1+1,0,none⟩=some (.int .i64 r):=by
  show(((w5.setCell ⟨w.heap.size+1+1,0,none⟩ (.int .i64 r)).setCell ⟨w.heap.size+1+1,1,none⟩ (.int .i64 n)).setCell ⟨w.heap.size+1+1,2,none⟩ (.slice A4 L.length c4)).cell? ⟨w.heap.size+1+1,0,none⟩=some (.int .i64 r)
  rw[World.cell?_setCell_other _ _ _ _ (by simp),World.cell?_setCell_other _ _ _ _ (by simp),World.cell?_setCell_same _ _ _ r0]
 have c1':(((w5.setCell ⟨w.heap.size+1+1,0,none⟩ (.int .i64 r)).setCell ⟨w.heap.size+1+1,1,none⟩ (.int .i64 n)).setCell ⟨w.heap.size+1+1,2,none⟩ (.slice A4 L.length c4)).drew.cell? ⟨w.heap.size+1+1,1,none⟩=some (.int .i64 n):=by
  show(((w5.setCell ⟨w.heap.size+1+1,0,none⟩ (.int .i64 r)).setCell ⟨w.heap.size+1+1,1,none⟩ (.int .i64 n)).setCell ⟨w.heap.size+1+1,2,none⟩ (.slice A4 L.length c4)).cell? ⟨w.heap.size+1+1,1,none⟩=some (.int .i64 n)
  rw[World.cell?_setCell_other _ _ _ _ (by simp)]
  exact World.cell?_setCell_same _ _ _ ((World.cell?_setCell_other _ _ _ _ (by simp)).trans r1)
 have c2:(((w5.setCell ⟨w.heap.size+1+1,0,none⟩ (.int .i64 r)).setCell ⟨w.heap.size+1+1,1,none⟩ (.int .i64 n)).setCell ⟨w.heap.size+1+1,2,none⟩ (.slice A4 L.length c4)).drew.cell? ⟨w.heap.size+1+1,2,none⟩=some (.slice A4 L.length c4):=by
  show(((w5.setCell ⟨w.heap.size+1+1,0,none⟩ (.int .i64 r)).setCell ⟨w.heap.size+1+1,1,none⟩ (.int .i64 n)).setCell ⟨w.heap.size+1+1,2,none⟩ (.slice A4 L.length c4)).cell? ⟨w.heap.size+1+1,2,none⟩=some (.slice A4 L.length c4)
  exact World.cell?_setCell_same _ _ _ ((World.cell?_setCell_other _ _ _ _ (by simp)).trans ((World.cell?_setCell_other _ _ _ _ (by simp)).trans r2))
 have B5W:Hid (Below w.heap.size w w5):=hDD (BX.out.trans (B5.out.mono BX.out.size))
 have bw:Below w.heap.size w (((w5.setCell ⟨w.heap.size+1+1,0,none⟩ (.int .i64 r)).setCell ⟨w.heap.size+1+1,1,none⟩ (.int .i64 n)).setCell ⟨w.heap.size+1+1,2,none⟩ (.slice A4 L.length c4)).drew:=(by repeat(first | exact Below.refl _ _ | (refine Below.setCell ?_ (by first | omega | (simp<;>omega)) _) | (refine bel_drewN ?_ _) | (refine Below.drew ?_) | (refine Below.alloc ?_ (by first | omega | (simp<;>omega)) _) | (refine Below.trans ?_ (Below.mono (Hid.out B5W) (by first | omega | (simp<;>omega))))))
 have ow:OwE (((w5.setCell ⟨w.heap.size+1+1,0,none⟩ (.int .i64 r)).setCell ⟨w.heap.size+1+1,1,none⟩ (.int .i64 n)).setCell ⟨w.heap.size+1+1,2,none⟩ (.slice A4 L.length c4)).drew W1.heap.size (.slice A4 L.length c4) L:=
  (((O5.out.far (by show w.heap.size+1+1<_;omega) _).far (by show w.heap.size+1+1<_;omega) _).far (by show w.heap.size+1+1<_;omega) _).drew
 generalize (((w5.setCell ⟨w.heap.size+1+1,0,none⟩ (.int .i64 r)).setCell ⟨w.heap.size+1+1,1,none⟩ (.int .i64 n)).setCell ⟨w.heap.size+1+1,2,none⟩ (.slice A4 L.length c4)).drew=wf at*
 clear r0 r1 r2 y0 y1 y2 k2 rf0 rf1 rf2
 go_wp2
 have hL:=HLL.out
 clear HLL
 subst hL
 refine bodyPost_ret (v:= .tuple #[.agg #[.int .i64 r, .int .i64 n, .slice A4 (insF cmpE es (e1,e2,e3)).length c4], .bool (decide (es.length<(insF cmpE es (e1,e2,e3)).length))]) (by simp[results,Tryz.results239,go_sem,c0,c1',c2]) rfl ⟨_,rfl,⟨.slice A4 (insF cmpE es (e1,e2,e3)).length c4,rfl,i1,i2,ow.mono (base':=w.heap.size) (by omega)⟩,bw⟩
end Go.Proofs.YtnjpoljbagfdnaaGreat
namespace Go.Proofs.YtnjpoljbagfdnaaGreat
set_option maxRecDepth 20000
set_option linter.unusedVariables false
set_option linter.unusedSimpArgs false
open Go.RowKit
structure LwI (lo gl rk cl:Nat) (ls:List Int) (W wr:World) (out:Value) (L1:List (List Int)) (next:Value) (L2:List (List Int)) (layer:Value) (L3:List (List Int)):Prop where
 o:Ow3 lo wr out L1 next L2 layer L3
 l:OwI wr 0 (.slice (some ⟨gl,0,none⟩) (2*rk) cl) ls
 b:Below lo W wr
 g:gl<wr.heap.size
 a1:out.ownBlock≠some gl
 a2:next.ownBlock≠some gl
 lo_le:lo≤wr.heap.size
section
variable {lo gl rk cl:Nat} {ls:List Int} {W wr w' w0:World} {out next layer v':Value} {L1 L2 L3 L':List (List Int)}
end
end Go.Proofs.YtnjpoljbagfdnaaGreat
namespace Go.Proofs.YtnjpoljbagfdnaaGreat
set_option maxRecDepth 20000
set_option linter.unusedVariables false
set_option linter.unusedSimpArgs false
open Go.RowKit
set_option maxHeartbeats 400000 in
theorem copyInts_any (v:Value) (xs:List Int) (w:World) (h:RdI w v xs) (hl:xs.length≤1073741824):
  Calls Tryz.prog 151 #[v] w fun e w'=> ∃r,e= .returned r∧OwI w' w.heap.size r xs∧Below w.heap.size w w':=by
 have H:=hDD h
 obtain⟨A,cap,rfl,_⟩:=h.arg
 clear h
 go_enter Tryz.func151,Tryz.ntmps151
 go_wp2_with (at_builtin;refine append_ints rfl (.tmp 3) (.tmp 4) rfl w.heap.size _ [] (OwI_lit _ [] I64s_nil (by simp) (Nat.le_refl _)) rfl _ _ (H.out.alloc _) rfl (by simp;omega) (by simp) ?_;intro v1 w1 o1 g1 p1)
 go_ret
 exact⟨_,rfl,by simpa using o1,((Below.refl _ _).alloc (Nat.le_refl _) _).grown g1 (by simp) (fun k hk=>by simp[Value.ownBlock] at hk;omega)⟩
end Go.Proofs.YtnjpoljbagfdnaaGreat
namespace Go.Proofs.YtnjpoljbagfdnaaGreat
set_option maxRecDepth 20000
set_option linter.unusedVariables false
set_option linter.unusedSimpArgs false
open Go.RowKit
section
variable {α:Type} {E:El α} {t:TypeId} {width:Nat} {w w' w1 w2:World} {vs vo vo':Value} {ds:List α} {lo hi:Nat} {p:α→Bool} {k:Nat}
end
def SegI (N g off:Nat) (w:World) (hs:List Value) (L:List (List Int)):Prop:=
 hs.length=L.length∧ ∀i (h:i<hs.length) (h':i<L.length),w.cell? ⟨g,off+i,none⟩=some hs[i]∧RdI w hs[i] L[i]∧ ∀b,hs[i].ownBlock=some b→b<N∧b≠g
structure Up2 (lo N g off:Nat) (W wr:World) (hs:List Value) (LK:List (List Int)) (v:Value) (L:List (List Int)):Prop where
 o:OwII lo wr.heap.size v L wr
 s:SegI N g off wr hs LK
 b:Below lo W wr
 v:v.ownBlock=some g∨ ∃b,v.ownBlock=some b∧N≤b∧b≠g
 n:off+hs.length≤L.length
 hN:N≤wr.heap.size
 hlo:lo≤N
 hg:g<N
section
variable {lo N g off:Nat} {W wr w0 w':World} {hs:List Value} {LK L:List (List Int)} {v v':Value} {d:List Int}
end
end Go.Proofs.YtnjpoljbagfdnaaGreat
namespace Go.Proofs.YtnjpoljbagfdnaaGreat
set_option maxRecDepth 20000
set_option linter.unusedVariables false
set_option linter.unusedSimpArgs false
open Go.RowKit
def negL (xs:List Int):List Int:=xs.map fun x=>wrap64 (-x)
def invL (xs:List Int):List Int:=(negL xs).reverse
theorem I64_wrap (x:Int):I64 (wrap64 x):=by
 unfold I64 wrap64;omega
theorem invL_step (xs:List Int) (k:Nat) (hk:k<xs.length):(invL xs).take (k+1)=(invL xs).take k++ [wrap64 (-xs[xs.length-1-k])]:=by
 have h:k<(invL xs).length:=by simpa[invL,negL] using hk
 rw[List.take_succ_eq_append_getElem h]
 congr 2
 simp[invL,negL]
set_option maxHeartbeats 400000 in
theorem implInvertWord_any (v:Value) (xs:List Int) (w:World) (h:RdI w v xs) (hl:xs.length≤1073741824):
  Calls Tryz.prog 98 #[v] w fun e w'=> ∃r,e= .returned r∧OwI w' w.heap.size r (invL xs)∧Below w.heap.size w w':=by
 have H:=hDD h
 obtain⟨A,cap,rfl,hcap,hm,hr,hb⟩:=h.arg
 clear h hb
 go_enter Tryz.func98,Tryz.ntmps98
 obtain⟨i0,hi0,hz0,hz1,hz2⟩:=info_parts int_info
 go_wp2_with (at_make;refine wpList_make_own _ rfl _ _ 37 rfl w.heap.size 3 i0 (.int .i64 0) 1 Tryz.underlying37 hi0 hz0 hz1 _ _ _ xs.length rfl rfl rfl (by rw[hz2];omega) (by unfold maxLen;omega) (Nat.le_refl _) ?_)
 intro w0 hown0 hgrow0
 go_wp2
 go_loopw [3,4] (fun out i wr=> ∃k:Nat,k≤xs.length∧i= .int .i64 ((xs.length:Int)-1-(k:Int))∧OwI wr w.heap.size out ((invL xs).take k)∧Below w.heap.size w wr)
  (fun _ i _=>(intOf i+1).toNat)
 case atStart=>exact⟨0,Nat.zero_le _,by simp,⟨hown0,I64s_nil⟩,(Below.refl _ _).grown hgrow0 (Nat.le_refl _) (fun k h=>by cases h)⟩
 case round=>
  obtain⟨k,hk,rfl,hown,hbel⟩:=hrel
  have hsz:=hbel.size
  have hkl:((invL xs).take k).length≤k:=List.length_take_le _ _
  by_cases hlt:k<xs.length
  ·obtain⟨b,off,rfl,hbl,hc⟩:=(H.out.below hbel).at (by omega)
   have hcell:=hc (xs.length-1-k) (by omega)
   have HS:=hDD (invL_step xs k hlt)
   have HO:=hDD hown
   clear hc hown
   go_wp2_with (at_builtin;refine push_int rfl (.tmp 15) (.tmp 21) rfl _ _ _ (OwI.alloc HO.out _) rfl _ _ rfl (cell_new1 _ _ _) (I64_wrap _) (by first | omega | (simp<;>omega)) (by first | omega | (simp<;>omega)) ?_;intro v1 wv1 o1 g1 p1)
   go_roundw
   case rel=>exact⟨k+1,by omega,by go_num,by rw[HS.out];exact o1,bel_push hbel hsz HO.out.1 (Nat.le_refl _) g1⟩
   case measure=>simp[intOf];omega
  ·obtain rfl:k=xs.length:=by omega
   go_wp2
   go_ret
   exact⟨_,rfl,by rw[List.take_of_length_le (by simp[invL,negL])] at hown;exact hown,hbel⟩
def red1 (acc:List Int) (x:Int):List Int:=if 0<acc.length∧invB (acc.getLastD 0) x=true then acc.dropLast else acc++ [x]
def redL (acc xs:List Int):List Int:=xs.foldl red1 acc
theorem red1_len (acc:List Int) (x:Int):(red1 acc x).length≤acc.length+1:=by
 unfold red1;split<;>simp;omega
theorem redL_len (acc xs:List Int):(redL acc xs).length≤acc.length+xs.length:=by
 unfold redL
 induction xs generalizing acc with
 | nil=>simp
 | cons x xs ih=>have:=ih (red1 acc x);have:=red1_len acc x;simp only[List.foldl_cons,List.length_cons];omega
theorem redL_succ (acc xs:List Int) (k:Nat) (h:k<xs.length):redL acc (xs.take (k+1))=red1 (redL acc (xs.take k)) xs[k]:=by
 unfold redL
 rw[List.take_succ_eq_append_getElem h,List.foldl_append]
 rfl
theorem last_get {acc:List Int} (h:0<acc.length):acc.getLastD 0=acc[acc.length-1]:=by
 cases acc with
 | nil=>simp at h
 | cons a l=>simp[List.getLastD,List.getLast_eq_getElem]
theorem red1_cut {acc:List Int} {x:Int} (h:0<acc.length) (hi:invB acc[acc.length-1] x=true):red1 acc x=acc.take (acc.length-1):=by
 rw[←last_get h] at hi
 rw[red1,if_pos ⟨h,hi⟩,List.dropLast_eq_take]
theorem red1_push {acc:List Int} {x:Int} (h:0<acc.length) (hi:invB acc[acc.length-1] x=false):red1 acc x=acc++ [x]:=by
 rw[←last_get h] at hi
 rw[red1,if_neg]
 intro hh
 rw[hi] at hh
 exact absurd hh.2 (by simp)
theorem invB_spec {l x:Int} (hl:I64 l) (hx:I64 x):invB l x=(x != 0&&l==wrap64 (-x)&&l != x):=by
 have hl1:=hl.1
 have hl2:=hl.2
 unfold invB
 by_cases h:x= -9223372036854775808
 ·subst h
  have:wrap64 (- -9223372036854775808)= -9223372036854775808:=by decide+kernel
  rw[this,Bool.eq_iff_iff]
  simp
  omega
 ·rw[I64.neg hx h,Bool.eq_iff_iff]
  have hx1:=hx.1
  simp
  constructor
  ·rintro⟨⟨h1,h2⟩,h3⟩
   exact⟨⟨fun hh=>h1 (by omega),by rw[h3,Int.neg_neg]⟩,fun hh=>h1 (by omega)⟩
  ·rintro⟨⟨h1,h2⟩,h3⟩
   exact⟨⟨fun hh=>h1 (by omega),fun hh=>by have:=hx.2;omega⟩,by rw[h2,Int.neg_neg]⟩
set_option maxHeartbeats 1000000 in
theorem specReduceLetters_any (v:Value) (xs:List Int) (w:World) (h:RdI w v xs) (hl:xs.length≤1073741824):
  Calls Tryz.prog 111 #[v] w fun e w'=> ∃r,e= .returned r∧OwI w' w.heap.size r (redL [] xs)∧Below w.heap.size w w':=by
 have H:=hDD h
 obtain⟨A,cap,rfl,hcap,hm,hr,hb⟩:=h.arg
 have HR:=hDD hr
 clear h hb hr
 go_enter Tryz.func111,Tryz.ntmps111
 go_wp2
 go_loopw [3,4] (fun out i wr=> ∃k:Nat,k≤xs.length∧i= .int .i64 k∧OwI wr w.heap.size out (redL [] (xs.take k))∧Below w.heap.size w wr)
  (fun _ i _=>xs.length-(intOf i).toNat)
 case atStart=>exact⟨0,Nat.zero_le _,rfl,OwI_lit _ [] I64s_nil (by simp) (Nat.le_refl _),(Below.refl _ _).alloc (Nat.le_refl _) _⟩
 case round=>
  obtain⟨k,hk,rfl,hown,hbel⟩:=hrel
  have hsz:=hbel.size
  have hkl:(redL [] (xs.take k)).length≤k:=by have:=redL_len [] (xs.take k);have:=List.length_take_le k xs;simp at*;omega
  by_cases hlt:k<xs.length
  ·obtain⟨b,off,rfl,hbl,hc⟩:=(H.out.below hbel).at (by omega)
   have hcell:=hc k hlt
   have HS:=hDD (redL_succ [] xs k hlt)
   have HX:=hDD (HR.out xs[k] (by simp))
   generalize hg:redL [] (xs.take k)=acc at hown hkl HS
   clear hg hc
   generalize hxk:xs[k]=x at hcell HS HX
   clear hxk
   have HO:=hDD hown
   obtain⟨A1,cap1,rfl,hcap1,hm1,_,hform⟩:=hown.form
   by_cases h0:0<acc.length
   ·obtain⟨g,rfl,hg1,hg2⟩:=hform h0
    obtain⟨b1,off1,hA1,_,hc1⟩:=hown.rd.at h0
    obtain⟨rfl,rfl⟩:g=b1∧0=off1:=by simpa using hA1
    have hlast:=hc1 (acc.length-1) (by omega)
    rw[Nat.zero_add] at hlast
    have HLI:=hDD (hown.2 acc[acc.length-1] (by simp))
    have HC:=hDD (red1_cut (x:=x) h0)
    have HP:=hDD (red1_push (x:=x) h0)
    generalize acc[acc.length-1]=last at hlast HLI HC HP
    have HT:=hDD (invB_spec HLI.out HX.out)
    have hd0:decide ((0:Int)<(acc.length:Int))=true:=by simp;omega
    clear hc1 hform hown hA1
    have push: ∀(hf:invB last x=false),red1 acc x=acc++ [x]:=fun hf=>HP.out hf
    have PU:=hDD push
    clear push
    by_cases e1:x=0
    ·subst e1
     have PF:=hDD (PU.out (by rw[HT.out];simp))
     go_wp2
     go_quiet (fail)
     go_wp2_with (at_builtin;refine push_int rfl (.tmp 53) (.tmp 58) rfl _ _ _ (OwI.alloc (OwI.drewN HO.out _) _) rfl _ _ rfl (cell_new1 _ _ _) HX.out (by first | omega | (simp<;>omega)) (by first | omega | (simp<;>omega)) ?_;intro v1 wv1 o1 g1 p1)
     go_roundw
     case rel=>exact⟨k+1,by omega,by go_num,by rw[HS.out,PF.out];exact o1,bel_push (bel_drewN hbel _) hsz (OwI.drewN HO.out _).1 (Nat.le_refl _) g1⟩
     case measure=>simp[intOf];omega
    ·have e1':(x != 0)=true:=by simp[e1]
     by_cases e2:last=wrap64 (-x)
     ·have e2':(last==wrap64 (-x))=true:=by simp[e2]
      have E2:=hDD e2
      clear e2
      by_cases e3:last=x
      ·have e3':(last != x)=false:=by simp[e3]
       have PF:=hDD (PU.out (by rw[HT.out,e3'];simp))
       have E3:=hDD e3
       clear e3 e1
       go_wp2
       go_quiet (fail)
       go_wp2_with (at_builtin;refine push_int rfl (.tmp 53) (.tmp 58) rfl _ _ _ (OwI.alloc (OwI.drewN HO.out _) _) rfl _ _ rfl (cell_new1 _ _ _) HX.out (by first | omega | (simp<;>omega)) (by first | omega | (simp<;>omega)) ?_;intro v1 wv1 o1 g1 p1)
       go_roundw
       case rel=>exact⟨k+1,by omega,by go_num,by rw[HS.out,PF.out];exact o1,bel_push (bel_drewN hbel _) hsz (OwI.drewN HO.out _).1 (Nat.le_refl _) g1⟩
       case measure=>simp[intOf];omega
      ·have e3':(last != x)=true:=by simp[e3]
       have PF:=hDD (HC.out (by rw[HT.out,e1',e2',e3'];rfl))
       clear e3 e1
       go_wp2
       go_quiet (fail)
       go_wp2
       go_roundw
       case rel=>exact⟨k+1,by omega,by go_num,by rw[HS.out,PF.out];exact owI_cut (OwI.drewN HO.out _) (by omega),bel_drewN hbel _⟩
       case measure=>simp[intOf];omega
     ·have e2':(last==wrap64 (-x))=false:=by simp[e2]
      have PF:=hDD (PU.out (by rw[HT.out,e2'];simp))
      clear e2 e1
      go_wp2
      go_quiet (fail)
      go_wp2_with (at_builtin;refine push_int rfl (.tmp 53) (.tmp 58) rfl _ _ _ (OwI.alloc (OwI.drewN HO.out _) _) rfl _ _ rfl (cell_new1 _ _ _) HX.out (by first | omega | (simp<;>omega)) (by first | omega | (simp<;>omega)) ?_;intro v1 wv1 o1 g1 p1)
      go_roundw
      case rel=>exact⟨k+1,by omega,by go_num,by rw[HS.out,PF.out];exact o1,bel_push (bel_drewN hbel _) hsz (OwI.drewN HO.out _).1 (Nat.le_refl _) g1⟩
      case measure=>simp[intOf];omega
   ·obtain rfl:acc= []:=List.eq_nil_of_length_eq_zero (by omega)
    clear hform hown
    go_wp2
    go_quiet (fail)
    go_wp2_with (at_builtin;refine push_int rfl (.tmp 53) (.tmp 58) rfl _ _ _ (OwI.alloc (OwI.drewN HO.out _) _) rfl _ _ rfl (cell_new1 _ _ _) HX.out (by first | omega | (simp<;>omega)) (by first | omega | (simp<;>omega)) ?_;intro v1 wv1 o1 g1 p1)
    go_roundw
    case rel=>exact⟨k+1,by omega,by go_num,by rw[HS.out];exact o1,bel_push (bel_drewN hbel _) hsz (OwI.drewN HO.out _).1 (Nat.le_refl _) g1⟩
    case measure=>simp[intOf];omega
  ·obtain rfl:k=xs.length:=by omega
   rw[List.take_length] at hown hkl
   have HO:=hDD hown
   obtain⟨A1,cap1,rfl,hcap1,hm1,_,hform⟩:=hown.form
   clear hown hform
   go_wp2_with (at_builtin;refine append_ints rfl (.tmp 60) (.tmp 61) rfl w.heap.size _ [] (OwI_lit _ [] I64s_nil (by simp) hsz) rfl _ _ (HO.out.alloc _).rd rfl (by first | omega | (simp<;>omega)) (by first | omega | (simp<;>omega)) ?_;intro v1 w1 o1 g1 p1)
   go_ret
   exact⟨_,rfl,by simpa using o1,(hbel.alloc hsz _).grown g1 (by simp;omega) (fun k hk=>by simp[Value.ownBlock] at hk;omega)⟩
end Go.Proofs.YtnjpoljbagfdnaaGreat
namespace Go.Proofs.YtnjpoljbagfdnaaGreat
set_option maxRecDepth 20000
set_option linter.unusedVariables false
set_option linter.unusedSimpArgs false
open Go.RowKit
def redLL (L:List (List Int)):List Int:=redL [] L.flatten
def lenLL (L:List (List Int)):Nat:=(L.map List.length).sum
theorem redLL_succ (L:List (List Int)) (k:Nat) (h:k<L.length):redLL (L.take (k+1))=redL (redLL (L.take k)) L[k]:=by
 unfold redLL redL
 rw[List.take_succ_eq_append_getElem h,List.flatten_append,List.foldl_append]
 simp
theorem lenLL_take (L:List (List Int)) (k:Nat) (h:k<L.length):lenLL (L.take k)+L[k].length≤lenLL L:=by
 unfold lenLL
 have:L=L.take k++L[k]::L.drop (k+1):=by rw[←List.drop_eq_getElem_cons h,List.take_append_drop]
 have e:=congrArg (fun l=>(l.map List.length).sum) this
 simp only[List.map_append,List.map_cons,List.sum_append,List.sum_cons] at e
 omega
theorem redLL_len (L:List (List Int)):(redLL L).length≤lenLL L:=by
 have:=redL_len [] L.flatten
 simp only[redLL,lenLL,List.length_flatten,List.length_nil] at*
 omega
set_option maxHeartbeats 1000000 in
theorem product_any (v:Value) (L:List (List Int)) (w:World) (h:RdII w v L) (hl:lenLL L≤1073741824) (hn:L.length≤1073741824):
  Calls Tryz.prog 97 #[v] w fun e w'=> ∃r,e= .returned r∧OwI w' w.heap.size r (redLL L)∧Below w.heap.size w w':=by
 have H:=hDD h
 obtain⟨A,cap,rfl,hcap,hm,hA⟩:=h.form
 have HA:=hDD hA
 clear h hA
 unfold maxLen at hm
 go_enter Tryz.func97,Tryz.ntmps97
 go_wp2
 go_loopw [3,11] (fun out i wr=> ∃k:Nat,k≤L.length∧i= .int .i64 k∧OwI wr w.heap.size out (redLL (L.take k))∧Below w.heap.size w wr)
  (fun _ i _=>L.length-(intOf i).toNat)
 case atStart=>exact⟨0,Nat.zero_le _,rfl,OwI_lit _ [] I64s_nil (by simp) (Nat.le_refl _),(Below.refl _ _).alloc (Nat.le_refl _) _⟩
 case round=>
  obtain⟨k,hk,rfl,hown,hbel⟩:=hrel
  have hsz:=hbel.size
  by_cases hlt:k<L.length
  ·have hll:=lenLL_take L k hlt
   have hkl:=redLL_len (L.take k)
   obtain⟨b,off,A1,cap1,rfl,hbl,hcell0,hc1,hm1,hrd⟩:=H.out.at hlt
   have hcell:=(hbel.cell hbl).trans hcell0
   clear hcell0
   have HS:=hDD (redLL_succ L k hlt)
   generalize redLL (L.take k)=acc0 at hown hkl HS
   have HR:=hDD hrd
   clear hrd
   generalize L[k]=ys at hcell hc1 HR hll HS
   have HO:=hDD hown
   have HB:=hDD hbel
   clear hown hbel
   unfold maxLen at hm1
   obtain⟨wo,rfl⟩: ∃wo:World,wo=wr:=⟨_,rfl⟩
   go_wp2
   go_loopw [3,17] (fun out j wi=> ∃m:Nat,m≤ys.length∧j= .int .i64 m∧OwI wi w.heap.size out (redL acc0 (ys.take m))∧Below w.heap.size w wi)
    (fun _ j _=>ys.length-(intOf j).toNat)
   case atStart=>exact⟨0,Nat.zero_le _,rfl,HO.out,HB.out⟩
   case round=>
    obtain⟨m,hm',rfl,hown,hbel⟩:=hrel
    have hsz':=hbel.size
    have hal:(redL acc0 (ys.take m)).length≤acc0.length+m:=by have:=redL_len acc0 (ys.take m);have:=List.length_take_le m ys;omega
    by_cases hlt':m<ys.length
    ·obtain⟨b',off',rfl,hbl',hc'⟩:=(HR.out.below hbel).at (by omega)
     have hcell':=hc' m hlt'
     have HS':=hDD (redL_succ acc0 ys m hlt')
     have HX:=hDD (HR.out.2 ys[m] (by simp))
     clear hc'
     generalize redL acc0 (ys.take m)=acc at hown hal HS'
     generalize ys[m]=x at hcell' HS' HX
     have HO':=hDD hown
     obtain⟨A1,cap1',rfl,hcap1,hm1',_,hform⟩:=hown.form
     unfold maxLen at hm1'
     by_cases h0:0<acc.length
     ·obtain⟨g,rfl,hg1,hg2⟩:=hform h0
      obtain⟨b1,off1,hA1,_,hc1⟩:=hown.rd.at h0
      obtain⟨rfl,rfl⟩:g=b1∧0=off1:=by simpa using hA1
      have hlast:=hc1 (acc.length-1) (by omega)
      rw[Nat.zero_add] at hlast
      have HLI:=hDD (hown.2 acc[acc.length-1] (by simp))
      have HC:=hDD (red1_cut (x:=x) h0)
      have HP:=hDD (red1_push (x:=x) h0)
      generalize acc[acc.length-1]=last at hlast HLI HC HP
      have hd0:decide ((0:Int)<(acc.length:Int))=true:=by simp;omega
      clear hc1 hform hown hA1
      rcases hi:invB last x with _ | _
      ·have PF:=hDD (HP.out hi)
       have hi':=areInverse_any last x
       rw[hi] at hi'
       have HI:=hDD hi'
       clear hi hi'
       go_wp2_with (first | (go_at_call 175;refine(HI.out _ HLI.out).mono ?_;rintro e w' ⟨rfl,rfl⟩) | (at_builtin;refine push_int rfl (.tmp 39) (.tmp 41) rfl _ _ _ (OwI.alloc HO'.out _) rfl _ _ rfl (cell_new1 _ _ _) HX.out (by first | omega | (simp<;>omega)) (by first | omega | (simp<;>omega)) ?_;intro v1 wv1 o1 g1 p1))
       go_roundw
       case rel=>exact⟨m+1,by omega,by go_num,by rw[HS'.out,PF.out];exact o1,bel_push hbel hsz' HO'.out.1 (Nat.le_refl _) g1⟩
       case measure=>simp[intOf];omega
      ·have PF:=hDD (HC.out hi)
       have hi':=areInverse_any last x
       rw[hi] at hi'
       have HI:=hDD hi'
       clear hi hi'
       go_wp2_with (go_at_call 175;refine(HI.out _ HLI.out).mono ?_;rintro e w' ⟨rfl,rfl⟩)
       go_roundw
       case rel=>exact⟨m+1,by omega,by go_num,by rw[HS'.out,PF.out];exact owI_cut HO'.out (by omega),hbel⟩
       case measure=>simp[intOf];omega
     ·obtain rfl:acc= []:=List.eq_nil_of_length_eq_zero (by omega)
      clear hform hown
      go_wp2_with (at_builtin;refine push_int rfl (.tmp 39) (.tmp 41) rfl _ _ _ (OwI.alloc HO'.out _) rfl _ _ rfl (cell_new1 _ _ _) HX.out (by first | omega | (simp<;>omega)) (by first | omega | (simp<;>omega)) ?_;intro v1 wv1 o1 g1 p1)
      go_roundw
      case rel=>exact⟨m+1,by omega,by go_num,by rw[HS'.out];exact o1,bel_push hbel hsz' HO'.out.1 (Nat.le_refl _) g1⟩
      case measure=>simp[intOf];omega
    ·obtain rfl:m=ys.length:=by omega
     rw[List.take_length] at hown
     have HO':=hDD hown
     have HB':=hDD hbel
     clear hown hbel
     go_wp2
     go_roundw
     case rel=>exact⟨k+1,by omega,by go_num,by rw[HS.out];exact HO'.out,HB'.out⟩
     case measure=>simp[intOf];omega
  ·obtain rfl:k=L.length:=by omega
   rw[List.take_length] at hown
   go_wp2
   go_ret
   exact⟨_,rfl,hown,hbel⟩
end Go.Proofs.YtnjpoljbagfdnaaGreat
namespace Go.Proofs.YtnjpoljbagfdnaaGreat
set_option maxRecDepth 20000
set_option linter.unusedVariables false
set_option linter.unusedSimpArgs false
open Go.RowKit
end Go.Proofs.YtnjpoljbagfdnaaGreat
namespace Go.Proofs.YtnjpoljbagfdnaaGreat
set_option maxRecDepth 20000
set_option linter.unusedVariables false
set_option linter.unusedSimpArgs false
open Go.RowKit
end Go.Proofs.YtnjpoljbagfdnaaGreat
namespace Go.Proofs.YtnjpoljbagfdnaaGreat
set_option maxRecDepth 20000
set_option linter.unusedVariables false
set_option linter.unusedSimpArgs false
open Go.RowKit
end Go.Proofs.YtnjpoljbagfdnaaGreat
namespace Go.Proofs.YtnjpoljbagfdnaaGreat
set_option maxRecDepth 20000
set_option linter.unusedVariables false
set_option linter.unusedSimpArgs false
open Go.RowKit
end Go.Proofs.YtnjpoljbagfdnaaGreat
namespace Go.Proofs.YtnjpoljbagfdnaaGreat
set_option maxRecDepth 20000
set_option linter.unusedVariables false
set_option linter.unusedSimpArgs false
section
variable {α:Type} (c:α→Nat) (m:Int→α→α)
variable {c m}
end
end Go.Proofs.YtnjpoljbagfdnaaGreat
namespace Go.Proofs.YtnjpoljbagfdnaaGreat
set_option maxRecDepth 20000
set_option linter.unusedVariables false
set_option linter.unusedSimpArgs false
open Go.RowKit
section
variable {α:Type} {E:El α} {t:TypeId} {width:Nat} {w w' w1 w2:World} {v v':Value} {ds:List α} {lo hi:Nat}
theorem set_grown (w:World) (g j:Nat) (u:Value):w.grownBy (w.setCell ⟨g,j,none⟩ u) (some g):=
 ⟨rfl,rfl,rfl,by simp,fun b _ hb=>Below.heap_setCell w _ u b (fun e=>hb (by rw[e]))⟩
end
end Go.Proofs.YtnjpoljbagfdnaaGreat
namespace Go.Proofs.YtnjpoljbagfdnaaGreat
set_option maxRecDepth 20000
set_option linter.unusedVariables false
set_option linter.unusedSimpArgs false
open Go.RowKit
section
variable {w w':World} {v:Value} {ds:List (List Int)} {lo hi:Nat}
end
end Go.Proofs.YtnjpoljbagfdnaaGreat
namespace Go.Proofs.YtnjpoljbagfdnaaGreat
set_option maxRecDepth 20000
set_option linter.unusedVariables false
set_option linter.unusedSimpArgs false
open Go.RowKit
end Go.Proofs.YtnjpoljbagfdnaaGreat
namespace Go.Proofs.YtnjpoljbagfdnaaGreat
set_option maxRecDepth 20000
set_option linter.unusedVariables false
set_option linter.unusedSimpArgs false
open Go.RowKit
def lt (x:Int):List UInt8:=
 if x=1 then [97] else if x=2 then [98] else if x=3 then [99] else if x= -1 then [65] else if x= -2 then [66] else if x= -3 then [67] else []
end Go.Proofs.YtnjpoljbagfdnaaGreat
namespace Go.Proofs.YtnjpoljbagfdnaaGreat
set_option maxRecDepth 20000
set_option linter.unusedVariables false
set_option linter.unusedSimpArgs false
open Go.RowKit
end Go.Proofs.YtnjpoljbagfdnaaGreat
namespace Go.Proofs.YtnjpoljbagfdnaaGreat
set_option maxRecDepth 20000
set_option linter.unusedVariables false
set_option linter.unusedSimpArgs false
open Go.RowKit
def PartsL (base:Nat) (w:World) (v:Value) (L:List (List Int)):Prop:=
 ∃vs:List Value,vs.length=L.length∧w.ownsRow base 37 1 v L.length vs∧ ∀i (h:i<L.length) (h':i<vs.length),RdI w vs[i] L[i]
theorem PartsL.rd {base:Nat} {w:World} {v:Value} {L:List (List Int)} (h:PartsL base w v L):RdII w v L:=by
 obtain⟨vs,h1,h2,h3⟩:=h
 exact⟨vs,h1,RdV.of_own h2,h3⟩
theorem PartsL.lit (w:World) (vs:List Value) (L:List (List Int)) (hl:vs.length=L.length) (h: ∀i (h:i<L.length) (h':i<vs.length),RdI w vs[i] L[i]) (hm:L.length≤1099511627776) {base:Nat} (hb:base≤w.heap.size):
  PartsL base (w.alloc (.cells vs.toArray 37)) (.slice (some ⟨w.heap.size,0,none⟩) L.length L.length) L:=
 ⟨vs,hl,by have:=rows_lit w vs (by omega) hb;rw[hl] at this;exact this,fun i h1 h2=>(h i h1 h2).alloc _⟩
end Go.Proofs.YtnjpoljbagfdnaaGreat
namespace Go.Proofs.YtnjpoljbagfdnaaGreat
set_option maxRecDepth 20000
set_option linter.unusedVariables false
set_option linter.unusedSimpArgs false
open Go.RowKit
end Go.Proofs.YtnjpoljbagfdnaaGreat
namespace Go.Proofs.YtnjpoljbagfdnaaGreat
set_option maxRecDepth 20000
set_option linter.unusedVariables false
set_option linter.unusedSimpArgs false
open Go.RowKit
end Go.Proofs.YtnjpoljbagfdnaaGreat
namespace Go.Proofs.YtnjpoljbagfdnaaGreat
set_option maxRecDepth 20000
set_option linter.unusedVariables false
set_option linter.unusedSimpArgs false
open Go.RowKit
end Go.Proofs.YtnjpoljbagfdnaaGreat
namespace Go.Proofs.YtnjpoljbagfdnaaGreat
set_option maxRecDepth 20000
set_option linter.unusedVariables false
set_option linter.unusedSimpArgs false
open Go.RowKit
theorem getD_app_l (a b:List Int) (i:Nat) (h:i<a.length):(a++b).getD i 0=a.getD i 0:=by
 simp only[List.getD];rw[List.getElem?_append_left h]
theorem getD_app_r (a b:List Int) (i:Nat) (h:a.length≤i):(a++b).getD i 0=b.getD (i-a.length) 0:=by
 simp only[List.getD];rw[List.getElem?_append_right h]
def redP (xs:List Int):Prop:= ∀i,i+1<xs.length→invB (xs.getD i 0) (xs.getD (i+1) 0)=false
theorem redP_take {xs:List Int} (h:redP xs) (k:Nat):redP (xs.take k):=by
 intro i hi
 simp only[List.length_take] at hi
 have e1: ∀j,j<k→(xs.take k).getD j 0=xs.getD j 0:=fun j hj=>by simp only[List.getD,List.getElem?_take];rw[if_pos hj]
 rw[e1 i (by omega),e1 (i+1) (by omega)]
 exact h i (by omega)
theorem redP_snoc {xs:List Int} {x:Int} (h:redP xs) (hx:0<xs.length→invB (xs.getLastD 0) x=false):redP (xs++ [x]):=by
 intro i hi
 simp only[List.length_append,List.length_singleton] at hi
 rcases Nat.lt_or_eq_of_le (Nat.le_of_lt_succ (show i+1<xs.length+1 by omega)) with h1 | h1
 ·rw[getD_app_l _ _ _ (by omega),getD_app_l _ _ _ h1]
  exact h i h1
 ·rw[getD_app_l _ _ _ (by omega),getD_app_r _ _ _ (by omega),h1,Nat.sub_self]
  have:=hx (by omega)
  rw[last_get (by omega)] at this
  have e:i=xs.length-1:=by omega
  subst e
  simpa[List.getD,show xs.length-1<xs.length by omega] using this
theorem red1_red {acc:List Int} {x:Int} (h:redP acc):redP (red1 acc x):=by
 unfold red1
 split
 ·rw[List.dropLast_eq_take];exact redP_take h _
 ·rename_i hn
  refine redP_snoc h fun h0=> ?_
  cases hb:invB (acc.getLastD 0) x with
  | false=>rfl
  | true=>exact absurd ⟨h0,hb⟩ hn
theorem redL_red {acc xs:List Int} (h:redP acc):redP (redL acc xs):=by
 unfold redL
 induction xs generalizing acc with
 | nil=>exact h
 | cons x xs ih=>exact ih (red1_red h)
theorem redP_nil:redP []:=fun i hi=>by simp at hi
theorem redL_id {acc xs:List Int} (h:redP (acc++xs)):redL acc xs=acc++xs:=by
 unfold redL
 induction xs generalizing acc with
 | nil=>simp
 | cons x xs ih=>
   have e:red1 acc x=acc++ [x]:=by
    unfold red1
    rw[if_neg]
    rintro⟨h0,hb⟩
    have:=h (acc.length-1) (by simp;omega)
    rw[getD_app_l _ _ _ (by omega),getD_app_r _ _ _ (by omega),show acc.length-1+1-acc.length=0 by omega] at this
    rw[last_get h0] at hb
    have e2:acc.getD (acc.length-1) 0=acc[acc.length-1]:=by simp[List.getD,show acc.length-1<acc.length by omega]
    rw[e2] at this
    simp only[List.getD_cons_zero] at this
    rw[this] at hb
    cases hb
   rw[List.foldl_cons,e,ih (by simpa using h)]
   simp
theorem redL_mem {acc xs:List Int} {x:Int} (h:x∈redL acc xs):x∈acc∨x∈xs:=by
 unfold redL at h
 induction xs generalizing acc with
 | nil=>exact .inl h
 | cons y xs ih=>
   rcases ih h with h | h
   ·unfold red1 at h
    split at h
    ·exact .inl (List.dropLast_subset _ h)
    ·rcases List.mem_append.1 h with h | h
     ·exact .inl h
     ·right;simp at h;simp[h]
   ·right;simp[h]
theorem okAt_red {r:Int} {xs:List Int} (h:redP xs) (hx: ∀x∈xs,letB r x=true) (i:Nat) (hi:i<xs.length):okAt r xs i=true:=by
 unfold okAt
 have e:xs.getD i 0=xs[i]:=by simp[List.getD,hi]
 rw[e,hx _ (by simp),←e]
 by_cases h0:0<i
 ·have:=h (i-1) (by omega)
  rw[show i-1+1=i by omega] at this
  rw[this];simp
 ·simp[h0]
end Go.Proofs.YtnjpoljbagfdnaaGreat
namespace Go.Proofs.YtnjpoljbagfdnaaGreat
set_option maxRecDepth 20000
set_option linter.unusedVariables false
set_option linter.unusedSimpArgs false
open Go.RowKit
end Go.Proofs.YtnjpoljbagfdnaaGreat
namespace Go.Proofs.YtnjpoljbagfdnaaGreat
set_option maxRecDepth 20000
set_option linter.unusedVariables false
set_option linter.unusedSimpArgs false
open Go.RowKit
def letR (r:Int) (w:List Int):Prop:= ∀x∈w,x≠0∧ -r≤x∧x≤r
theorem letR_redL {r:Int} {w:List Int} (h:letR r w):letR r (redL [] w):=fun x hx=>by
 rcases redL_mem hx with h' | h'
 ·cases h'
 ·exact h x h'
set_option maxHeartbeats 1000000 in
theorem l2Of_any (p:Nat) (A:Option Addr) (cap:Nat) (cs:List Int) (r m:Int) (w:World) (h:Cur p A cap cs w) (hr1:1≤r) (hr3:r≤3) (hm0:0≤m) (hm:m≤100):
  Calls Tryz.prog 135 #[.pointer (some ⟨p,0,none⟩), .int .i64 r, .int .i64 m] w fun e w'=> ∃v xs,e= .returned v∧OwI w' w.heap.size v xs∧(xs.length≤m∧letR r xs∧redP xs)∧Cur p A cap cs w'∧Tr p (p+1) w w':=by
 have H:=hDD h
 have hp:=h.lt
 clear h
 have HA:Hid (Cur p A cap cs (w.alloc (.cells #[] 3))):=hDD (H.out.below ((Below.refl _ _).alloc (Nat.le_refl _) _))
 have HO:Hid (OwI (w.alloc (.cells #[] 3)) w.heap.size (.slice (some ⟨w.heap.size,0,none⟩) 0 0) []):=hDD (OwI_lit w [] I64s_nil (by simp) (Nat.le_refl _))
 have HT:Hid (Tr p (p+1) w (w.alloc (.cells #[] 3))):=hDD ⟨rfl,rfl,rfl,by simp,fun k hk _=>Below.heap_alloc w _ k hk⟩
 have hw1:IntKind.i64.wrap (m+1)=m+1:=by rw[IntKind.wrap_i64];omega
 go_enter Tryz.func135,Tryz.ntmps135
 go_wp2_with fail
 refine(l1Below_any p A cap cs (m+1) _ HA.out (by omega) (by omega)).mono ?_
 rintro e w1 ⟨n0,rfl,⟨n1,n2⟩,c1,t1⟩
 have C1:=hDD c1
 have O1:=hDD (HO.out.trP t1 hp)
 have T1:Hid (Tr p (p+1) w w1):=hDD (HT.out.trans t1)
 clear c1 t1 HA HO HT
 go_wp2
 go_loopw [7,8] (fun wv nv wr=> ∃(k:Int) (ws:List Int),nv= .int .i64 k∧0≤k∧k+ws.length≤m∧letR r ws∧OwI wr w.heap.size wv ws∧Cur p A cap cs wr∧Tr p (p+1) w wr)
  (fun _ nv _=>(intOf nv).toNat)
 case atStart=>exact⟨n0,[],rfl,n1,by simp;omega,fun x hx=>(by cases hx),O1.out,C1.out,T1.out⟩
 case round=>
  obtain⟨k,ws,rfl,hk0,hkm,hlet,hO,hC,hT⟩:=hrel
  have HO:=hDD hO
  have HC:=hDD hC
  have HT:=hDD hT
  have HLT:=hDD hlet
  have hsz:=hT.size
  obtain⟨Aw,cw,rfl,_⟩:=hO.form
  clear hO hC hT hlet
  by_cases hlt:0<k
  ·go_wp2_with (first
    | (go_at_call 184;(with_reducible refine(l1Below_any p A cap cs r _ HC.out (by omega) (by omega)).mono ?_);rintro e w2 ⟨x,rfl,⟨x0,x1⟩,c2,t2⟩;have C2:=hDD c2;have O2:=hDD (HO.out.trP t2 hp);have T2:=hDD (HT.out.trans t2);clear c2 t2)
    | (go_at_call 134;(with_reducible refine(l1Once_any p A cap cs 2 _ C2.out (by omega) (by omega)).mono ?_);rintro e w3 ⟨bb,rfl,c3,t3⟩;have C3:=hDD c3;have O3:=hDD (O2.out.trP t3 hp);have T3:=hDD (T2.out.trans t3);have hs3:=T3.out.size;clear c3 t3;have hwx:IntKind.i64.wrap (1+x)=1+x:=(by rw[IntKind.wrap_i64];omega);have hwn:IntKind.i64.wrap (-(1+x))= -(1+x):=(by rw[IntKind.wrap_i64];omega);have HX1:Hid (I64 (1+x)):=hDD ⟨by omega,by omega⟩;have HX2:Hid (I64 (-(1+x))):=hDD ⟨by omega,by omega⟩)
    | ((at_builtin;refine push_int rfl (.tmp 27) (.tmp 29) rfl _ _ _ (OwI.alloc O3.out _) rfl _ _ rfl (cell_new1 _ _ _) HX1.out (by first | omega | (simp<;>omega)) (by first | omega | (simp<;>omega)) ?_;intro v4 wv4 o4 g4 p4);have G4:=hDD g4;have O4:=hDD o4;obtain⟨A4,m4,c4,rfl⟩:=o4.any2;clear o4 g4 p4)
    | ((at_builtin;refine push_int rfl (.tmp 27) (.tmp 29) rfl _ _ _ (OwI.alloc O3.out _) rfl _ _ rfl (cell_new1 _ _ _) HX2.out (by first | omega | (simp<;>omega)) (by first | omega | (simp<;>omega)) ?_;intro v4 wv4 o4 g4 p4);have G4:=hDD g4;have O4:=hDD o4;obtain⟨A4,m4,c4,rfl⟩:=o4.any2;clear o4 g4 p4))
   all_goals (
    have C4:=hDD ((C3.out.below ((Below.refl _ _).alloc (Nat.le_refl _) _)).new H.out G4.out (fun b hb=>(O3.out.1.lt b hb).1))
    have T4:=hDD ((T3.out.bel2 ((Below.refl _ _).alloc (Nat.le_refl _) _)).grow2 G4.out (fun b hb=>(O3.out.1.lt b hb).1))
    have hwk:IntKind.i64.wrap (k-1)=k-1:=by rw[IntKind.wrap_i64];omega
    go_roundw
    case rel=>
     refine⟨k-1,_,by go_num,by omega,by simp;omega,fun y hy=> ?_,O4.out,C4.out,T4.out⟩
     rcases List.mem_append.1 hy with hy | hy
     ·exact HLT.out y hy
     ·rw[List.mem_singleton] at hy;subst hy;omega
    case measure=>(simp[intOf];omega))
  ·have HGL:Hid (redP (redL [] ws)):=hDD (redL_red redP_nil)
   have hlr:(redL [] ws).length≤m:=by have:=redL_len [] ws;simp at this;omega
   have hlw:ws.length≤1073741824:=by omega
   go_wp2_with (go_at_call 111;(with_reducible refine(specReduceLetters_any _ ws _ HO.out.rd hlw).mono ?_);rintro e w5 ⟨r5,rfl,o5,b5⟩;have O5:=hDD o5;have B5:=hDD b5;obtain⟨A5,m5,c5,rfl⟩:=o5.any2;clear o5 b5)
   exact bodyPost_ret (v:= .slice A5 m5 c5) (by simp[results,Tryz.results135,go_sem]) rfl ⟨_,_,rfl,O5.out.mono hsz,⟨hlr,letR_redL HLT.out,HGL.out⟩,HC.out.below B5.out,HT.out.bel2 B5.out⟩
end Go.Proofs.YtnjpoljbagfdnaaGreat
namespace Go.Proofs.YtnjpoljbagfdnaaGreat
set_option maxRecDepth 20000
set_option linter.unusedVariables false
set_option linter.unusedSimpArgs false
open Go.RowKit
inductive Sp where
 | val (c:Value)
 | own (p:World→Value→Prop) (h: ∀W W' v,p W v→Below W.heap.size W W'→p W' v)
 | new (p:World→Value→Prop) (h: ∀W W' v,p W v→Below W.heap.size W W'→p W' v)
 | cp (j:Nat)
def Sp.R (vs:Nat→Value):Sp→World→Value→Prop
 | .val c,_,v=>v=c
 | .own p _,W,v=>p W v
 | .new p _,W,v=>p W v∧ ∀b,v.ownBlock=some b→b<W.heap.size
 | .cp j,_,v=>v=vs j
def Sp.S (vs:Nat→Value):Sp→World→World→Value→Prop
 | .val c,_,_,v=>v=c
 | .own p _,_,W',v=>p W' v
 | .new p _,W,W',v=>p W' v∧ ∀b,v.ownBlock=some b→W.heap.size≤b∧b<W'.heap.size
 | .cp j,_,_,v=>v=vs j
def Sp.fr:Sp→Bool
 | .new _ _=>true
 | _=>false
def Sp.pick:Sp→Value→Value
 | .val c,_=>c
 | _,v=>v
def reachB (l:List Oper):Nat→Nat→Nat→Bool
 | 0,_,_=>false
 | f+1,i,j=>match l[i]? with
   | none=>false
   | some o=>o.after.toList.any fun e=>Region.binds .any e&&(e.on==j||reachB l f e.on j)
def freB (l:List Oper):Bool:=
 Region.noSelect l.toArray&&(List.range l.length).all fun i=>match l[i]? with
  | none=>true
  | some o=>o.guard.isNone&&(o.after.all fun e=> !Region.binds .any e||decide (e.on<i))&&
    ((List.range l.length).all fun k=>match l[k]? with
      | none=>true
      | some o'=>(decide (i=k)|| !(o.dst==o'.dst)||o.dst.isNone)&&
        (match o'.dst with
         | none=>true
         | some t=> !(o.looksAt l.toArray).contains t||reachB l l.length i k||reachB l l.length k i))
def actV (S:Nat→Bool) (vs:Nat→Value):List Oper→Nat→Act→Act
 | [],_,b=>b
 | o::r,k,b=>actV S vs r (k+1) (if S k then b.put o.dst (vs k) else b)
section
variable {l:List Oper}
theorem fre_parts (h:freB l=true):Region.noSelect l.toArray=true∧ ∀i o,l[i]? =some o→o.guard=none∧(∀e∈o.after,Region.binds .any e=true→e.on<i)∧(∀k o',l[k]? =some o'→i≠k→ ∀d,o.dst=some d→o'.dst≠some d)∧
  ∀k o' t,l[k]? =some o'→o'.dst=some t→t∈o.looksAt l.toArray→reachB l l.length i k=true∨reachB l l.length k i=true:=by
 unfold freB at h
 rw[Bool.and_eq_true,List.all_eq_true] at h
 refine⟨h.1,fun i o ho=> ?_⟩
 have hi:i<l.length:=(List.getElem?_eq_some_iff.1 ho).1
 have h1:=h.2 i (List.mem_range.2 hi)
 rw[ho] at h1
 simp only[Bool.and_eq_true,Option.isNone_iff_eq_none,List.all_eq_true,List.mem_range] at h1
 obtain⟨⟨h2,h3⟩,h4⟩:=h1
 refine⟨h2,fun e he hb=> ?_,fun k o' hk hik d hd hd'=> ?_,fun k o' t hk ht hl=> ?_⟩
 ·have:=Array.all_eq_true_iff_forall_mem.1 h3 e he
  rw[hb] at this
  simpa using this
 ·have h5:=h4 k ((List.getElem?_eq_some_iff.1 hk).1)
  rw[hk] at h5
  simp only[Bool.and_eq_true,Bool.or_eq_true,decide_eq_true_eq] at h5
  rcases h5.1 with (h6 | h6) | h6
  ·exact hik h6
  ·rw[hd,hd'] at h6;simp at h6
  ·rw[hd] at h6;simp at h6
 ·have h5:=h4 k ((List.getElem?_eq_some_iff.1 hk).1)
  rw[hk] at h5
  simp only[Bool.and_eq_true] at h5
  have h6:=h5.2
  rw[ht] at h6
  simp only[Bool.or_eq_true,Bool.not_eq_true'] at h6
  rcases h6 with (h6 | h6) | h6
  ·rw[List.contains_iff_mem.2 hl] at h6;cases h6
  ·exact .inl h6
  ·exact .inr h6
theorem reach_listed {listed:Array Bool} (hc:Cl l.toArray listed): ∀(f i j:Nat),(∀o,l[i]? =some o→ ∀e∈o.after,Region.binds .any e=true→listed.getD e.on false=true)→reachB l f i j=true→listed.getD j false=true
 | 0,_,_,_,h=>by cases h
 | f+1,i,j,hi,h=>by
   unfold reachB at h
   cases ho:l[i]? with
   | none=>rw[ho] at h;cases h
   | some o=>
     rw[ho] at h
     simp only[List.any_eq_true,Array.mem_toList_iff,Bool.and_eq_true,Bool.or_eq_true,beq_iff_eq] at h
     obtain⟨e,he,hb,h⟩:=h
     have h1:=hi o ho e he hb
     rcases h with h | h
     ·rwa [←h]
     ·exact reach_listed hc f e.on j (fun o' ho' e' he' hb'=>hc.2 e.on o' (by simpa using ho') h1 e' he' hb') h
theorem reach_lt (hB:freB l=true): ∀(f i j:Nat),reachB l f i j=true→j<i
 | 0,_,_,h=>by cases h
 | f+1,i,j,h=>by
   unfold reachB at h
   cases ho:l[i]? with
   | none=>rw[ho] at h;cases h
   | some o=>
     rw[ho] at h
     simp only[List.any_eq_true,Array.mem_toList_iff,Bool.and_eq_true,Bool.or_eq_true,beq_iff_eq] at h
     obtain⟨e,he,hb,h⟩:=h
     have h1:=((fre_parts hB).2 i o ho).2.1 e he hb
     rcases h with h | h
     ·omega
     ·have:=reach_lt hB f e.on j h;omega
theorem put_size (a:Act) (d:Option Tmp) (v:Value):(a.put d v).tmps.size=a.tmps.size:=by
 cases d<;>simp[Act.put]
theorem actV_eval {vs:Nat→Value} {S S':Nat→Bool} {t:Tmp}: ∀(r:List Oper) (k:Nat) (b b':Act),b.tmps.size=b'.tmps.size→b.eval (.tmp t)=b'.eval (.tmp t)→
  (∀j o,r[j]? =some o→o.dst=some t→S (k+j)=S' (k+j))→(actV S vs r k b).eval (.tmp t)=(actV S' vs r k b').eval (.tmp t)
 | [],_,_,_,_,he,_=>he
 | o::r,k,b,b',hs,he,h=>by
   unfold actV
   have hz:(if S k then b.put o.dst (vs k) else b).tmps.size=(if S' k then b'.put o.dst (vs k) else b').tmps.size:=by
    split<;>split<;>simp only[put_size,hs]
   refine actV_eval r (k+1) _ _ hz ?_ fun j o' ho' hd'=>by have:=h (j+1) o' (by simpa using ho') hd';rwa [show k+(j+1)=k+1+j by omega] at this
   by_cases hd:o.dst=some t
   ·have h0:=h 0 o rfl hd
    rw[Nat.add_zero] at h0
    rw[←h0]
    split
    ·rw[hd]
     simp only[Act.put,Act.eval,Array.getD_eq_getD_getElem?]
     by_cases ht:t<b.tmps.size
     ·rw[Array.getElem?_setIfInBounds_self_of_lt ht,Array.getElem?_setIfInBounds_self_of_lt (hs▸ht)]
     ·rw[Array.getElem?_eq_none (by rw[Array.size_setIfInBounds];exact Nat.le_of_not_lt ht),Array.getElem?_eq_none (by rw[Array.size_setIfInBounds,←hs];exact Nat.le_of_not_lt ht)]
    ·exact he
   ·have e1: ∀(c:Act) (S:Nat→Bool),(if S k then c.put o.dst (vs k) else c).eval (.tmp t)=c.eval (.tmp t):=fun c S=>by
     split
     ·exact Act.eval_put fun d hd2 e=>hd (by rw[hd2];injection e with e;rw[e])
     ·rfl
    rw[e1,e1,he]
theorem actV_put {S:Nat→Bool} {vs:Nat→Value} {x:Option Tmp} {v:Value}: ∀(r:List Oper) (k:Nat) (b:Act),(∀o∈r,∀d,o.dst=some d→x≠some d)→(actV S vs r k b).put x v=actV S vs r k (b.put x v)
 | [],_,_,_=>rfl
 | o::r,k,b,h=>by
   unfold actV
   rw[actV_put r (k+1) _ fun o' ho'=>h o' (by simp[ho'])]
   congr 1
   split
   ·exact Act.put_comm _ _ _ fun d hd=>h o (by simp) d hd
   ·rfl
theorem actV_congr {S S':Nat→Bool} {vs vs':Nat→Value}: ∀(r:List Oper) (k:Nat) (b:Act),(∀j,j<r.length→S (k+j)=S' (k+j)∧(S (k+j)=true→vs (k+j)=vs' (k+j)))→actV S vs r k b=actV S' vs' r k b
 | [],_,_,_=>rfl
 | o::r,k,b,h=>by
   unfold actV
   have h0:=h 0 (by simp)
   rw[Nat.add_zero] at h0
   rw[actV_congr r (k+1) _ fun j hj=>by have:=h (j+1) (by simp;omega);rwa [show k+(j+1)=k+1+j by omega] at this]
   congr 1
   rw[←h0.1]
   split
   ·rename_i q;rw[h0.2 q]
   ·rfl
theorem actV_set {S:Nat→Bool} {vs:Nat→Value} {v:Value}: ∀(r:List Oper) (k:Nat) (b:Act) (i:Nat) (o:Oper),r[i]? =some o→S (k+i)=false→
  (∀j o',r[j]? =some o'→i≠j→ ∀d,o.dst=some d→o'.dst≠some d)→
  (actV S vs r k b).put o.dst v=actV (fun j=>S j||decide (j=k+i)) (fun j=>if j=k+i then v else vs j) r k b
 | [],_,_,_,_,h,_,_=>by simp at h
 | o'::r,k,b,0,o,h,hS,hd=>by
   obtain rfl:o'=o:=by simpa using h
   rw[Nat.add_zero] at hS
   unfold actV
   rw[hS,actV_put r (k+1) _ fun o2 ho2 d hd2 e=> ?_]
   ·simp only[Nat.add_zero,decide_true,Bool.or_true,if_true,Bool.false_eq_true,if_false]
    refine actV_congr r (k+1) _ fun j hj=>⟨by rw[decide_eq_false (by omega),Bool.or_false],fun _=>by rw[if_neg (by omega)]⟩
   ·obtain⟨j,hj⟩:=List.mem_iff_getElem?.1 ho2
    exact hd (j+1) o2 (by simpa using hj) (by omega) d e hd2
 | o'::r,k,b,i+1,o,h,hS,hd=>by
   unfold actV
   have e:k+(i+1)=k+1+i:=by omega
   rw[actV_set r (k+1) _ i o (by simpa using h) (by rw[←e];exact hS) fun j o2 hj hij=>hd (j+1) o2 (by simpa using hj) (by omega),e]
   congr 1
   have hk:decide (k=k+1+i)=false:=decide_eq_false (by omega)
   simp only[hk,Bool.or_false]
   rw[if_neg (show ¬k=k+1+i by omega)]
end
theorem wp_swap {P:Program} {o:Oper} {b b':Act} {W:World} {next:Act→World→Prop} {Q:Exit→Act→World→Prop} {G:Value→World→Prop} (he:execOp b'.eval o=execOp b.eval o)
  (h:o.wp P b W (fun c W'=> ∃v,c=b.put o.dst v∧G v W') (fun e _ _=>e= .outgrown∧False))
  (hz: ∀t,o.dst=some t→t<b.tmps.size) (hn: ∀v W',G v W'→next (b'.put o.dst v) W'):o.wp P b' W next Q:=by
 have key: ∀v W',(∃u,b.put o.dst v=b.put o.dst u∧G u W')→next (b'.put o.dst v) W':=fun v W' ⟨u,hu,hg⟩=>by
  have:=hn u W' hg
  cases hd:o.dst with
  | none=>rw[hd] at this;exact this
  | some t=>
    rw[hd] at this hu
    have e:v=u:=by
     have h1:=congrArg (fun c:Act=>c.tmps[t]?) hu
     simp only[Act.put] at h1
     rw[Array.getElem?_setIfInBounds_self_of_lt (hz t hd),Array.getElem?_setIfInBounds_self_of_lt (hz t hd)] at h1
     injection h1
    rw[e];exact this
 unfold Oper.wp at*
 rw[he]
 generalize (execOp b.eval o).run P W=r at*
 cases r with
 | ok n w'=>
   cases n<;>simp only[Oper.upon] at h⊢
   case value v=>exact key v w' h
   case skip=>exact key undef w' h
   case defer d=> 
    obtain⟨v,hv,_⟩:=h
    exfalso
    have h1:=congrArg (fun c:Act=>c.defers.length) hv
    have e1: ∀(c:Act) (v:Value),(c.put o.dst v).defers=c.defers:=fun c v=>by cases o.dst<;>rfl
    simp[e1] at h1
   case enter f args=>
    refine Calls.mono h fun e w'' he=> ?_
    cases e with
    | returned v=>exact key v w'' he
    | panicked c=>exact he.2.elim
    | outgrown=>obtain⟨_,_,h1⟩:=he;exact h1.2.elim
   case row row args=>exact Rows.mono h fun v w'' he=>key v w'' he
 | halt x w'=>cases x<;>simp only[Oper.upon] at h⊢ <;>exact h.2.elim
section
variable {P:Program} {l:List Oper} {L:List Sp} {w:World} {a:Act} {Q:Exit→Act→World→Prop}
theorem nlisted_set {listed:Array Bool} {i:Nat} (hi:i<listed.size) (h:listed.getD i false=false) (n:Nat) (hn:i<n):
  ((List.range n).filter fun j=> !(listed.setIfInBounds i true).getD j false).length+1=((List.range n).filter fun j=> !listed.getD j false).length:=by
 induction n with
 | zero=>omega
 | succ n ih=>
   rw[List.range_succ,List.filter_append,List.filter_append,List.length_append,List.length_append]
   by_cases e:i=n
   ·subst e
    have e1:(List.range i).filter (fun j=> !(listed.setIfInBounds i true).getD j false)=(List.range i).filter fun j=> !listed.getD j false:=by
     refine List.filter_congr fun j hj=> ?_
     rw[getD_set_ne false (by have:=List.mem_range.1 hj;omega)]
    have e2:(listed.setIfInBounds i true).getD i false=true:=by simp[hi]
    rw[e1]
    simp only[List.filter_cons,List.filter_nil,e2,h,Bool.not_true,Bool.not_false,Bool.false_eq_true,if_false,if_true,List.length_nil,List.length_singleton]
   ·have:=ih (by omega)
    simp only[List.filter_cons,List.filter_nil,getD_set_ne false e]
    omega
end
end Go.Proofs.YtnjpoljbagfdnaaGreat
namespace Go.Proofs.YtnjpoljbagfdnaaGreat
set_option maxRecDepth 20000
set_option linter.unusedVariables false
set_option linter.unusedSimpArgs false
open Go.RowKit
inductive Sg where
 | val (c:Value)
 | pur (q:(Nat→Value)→Value→Prop)
 | mem (p:(Nat→Value)→World→Value→Prop)
def Sg.R (vs:Nat→Value):Sg→World→Value→Prop
 | .val c,_,v=>v=c
 | .pur q,_,v=>q vs v
 | .mem p,W,v=>p vs W v
def Sg.isMem:Sg→Bool
 | .mem _=>true
 | _=>false
def Sg.pick:Sg→Value→Value
 | .val c,_=>c
 | _,v=>v
theorem Sg.pick_of (vs:Nat→Value): ∀(s:Sg) {W:World} {v:Value},s.R vs W v→s.pick v=v
 | .val _,_,_,h=>h.symm
 | .pur _,_,_,_=>rfl
 | .mem _,_,_,_=>rfl
def maskV (l:List Oper) (k:Nat) (vs:Nat→Value):Nat→Value:=fun j=>if reachB l l.length k j=true then vs j else undef
theorem mask_at {l:List Oper} {k j:Nat} {vs:Nat→Value} (h:reachB l l.length k j=true):maskV l k vs j=vs j:=if_pos h
def sgA (L:List Sg) (k:Nat):Sg:=L.getD k (.val undef)
def tnA (T:List (Option (World→World→Prop))) (k:Nat):World→World→Prop:=match T.getD k none with
 | none=>fun W W'=>W'=W
 | some t=>t
def clG (l:List Oper) (L:List Sg) (T:List (Option (World→World→Prop))):List (Nat×Nat):=
 (List.range l.length).flatMap fun i=>(List.range l.length).filterMap fun k=>if(sgA L i).isMem&&(T.getD k none).isSome&& !(i==k)&& !reachB l l.length i k then some (i,k) else none
def Stb (I:World→Prop) (L:List Sg) (T:List (Option (World→World→Prop))):List (Nat×Nat)→Prop
 | []=>True
 | q::r=>(∀vs W W' v,I W→I W'→tnA T q.2 W W'→(sgA L q.1).R vs W v→(sgA L q.1).R vs W' v)∧Stb I L T r
def Its (I:World→Prop):List (Option (World→World→Prop))→Prop
 | []=>True
 | none::r=>Its I r
 | some t::r=>(∀W W',I W→t W W'→I W')∧Its I r
theorem Its.at {I:World→Prop}: ∀ {T:List (Option (World→World→Prop))},Its I T→ ∀t,some t∈T→ ∀W W',I W→t W W'→I W'
 | none::r,h,t,ht=>by
   rcases List.mem_cons.1 ht with e | ht
   ·cases e
   ·exact Its.at (T:=r) h t ht
 | some u::r,h,t,ht=>by
   rcases List.mem_cons.1 ht with e | ht
   ·injection e with e;subst e;exact h.1
   ·exact Its.at (T:=r) h.2 t ht
theorem Stb.at {I:World→Prop} {L:List Sg} {T:List (Option (World→World→Prop))}: ∀ {X:List (Nat×Nat)},Stb I L T X→ ∀q∈X,∀vs W W' v,I W→I W'→tnA T q.2 W W'→(sgA L q.1).R vs W v→(sgA L q.1).R vs W' v
 | _::_,h,q,hq=>by
   rcases List.mem_cons.1 hq with rfl | hq
   ·exact h.1
   ·exact h.2.at q hq
def Obw (P:Program) (J:Nat→World→Prop) (l:List Oper) (L:List Sg) (T:List (Option (World→World→Prop))) (vs:Nat→Value) (Q:Exit→Act→World→Prop):List Oper→List Sg→Nat→Act→Prop
 | [],_,_,b=> ∀W',Hid (J l.length W')→Hid (∀j,j<l.length→(sgA L j).R (maskV l j vs) W' (vs j))→Q .normal b W'
 | _::_,[],_,_=>False
 | o::r,s::ss,k,b=>(∀W K Q0,Hid (J k W)→Hid (∀j,reachB l l.length k j=true→(sgA L j).R (maskV l j vs) W (vs j))→Hid (∀v W',tnA T k W W'→s.R (maskV l k vs) W' v→K (b.put o.dst v) W')→o.wp P b W K Q0)∧Obw P J l L T vs Q r ss (k+1) (b.put o.dst (s.pick (vs k)))
section
variable {P:Program} {I Hs:World→Prop} {D:List Nat} {J:Nat→World→Prop} {l:List Oper} {L:List Sg} {T:List (Option (World→World→Prop))} {w:World} {a:Act} {Q:Exit→Act→World→Prop}
def okD (l:List Oper) (D:List Nat) (i:Nat):Bool:=D.all fun d=>d==i||reachB l l.length d i
def JH (I Hs:World→Prop) (l:List Oper) (D:List Nat) (i:Nat) (W:World):Prop:=I W∧(okD l D i=true→Hs W)
def ItD (I Hs:World→Prop) (D:List Nat) (T:List (Option (World→World→Prop))):Nat→List (Option (World→World→Prop))→Prop
 | _,[]=>True
 | k,none::r=>ItD I Hs D T (k+1) r
 | k,some t::r=>(k∈D∨ ∀W W',I W→Hs W→t W W'→Hs W')∧ItD I Hs D T (k+1) r
theorem ItD.at {I Hs:World→Prop} {D:List Nat} {T:List (Option (World→World→Prop))}: ∀ {r:List (Option (World→World→Prop))} {k:Nat},ItD I Hs D T k r→ ∀i t,r[i]? =some (some t)→k+i∈D∨ ∀W W',I W→Hs W→t W W'→Hs W'
 | none::r,k,h,i,t,ht=>by
   cases i with
   | zero=>simp at ht
   | succ i=>have:=ItD.at (r:=r) (k:=k+1) h i t (by simpa using ht);rwa [show k+1+i=k+(i+1) by omega] at this
 | some u::r,k,h,i,t,ht=>by
   cases i with
   | zero=>simp at ht;subst ht;exact h.1
   | succ i=>have:=ItD.at (r:=r) (k:=k+1) h.2 i t (by simpa using ht);rwa [show k+1+i=k+(i+1) by omega] at this
theorem obw_at {vs:Nat→Value} (hvs: ∀j,j<l.length→(sgA L j).pick (vs j)=vs j): ∀(r:List Oper) (ss:List Sg) (k:Nat) (b:Act),(∀j,r[j]? =l[k+j]?)→(∀j,ss.getD j (.val undef)=sgA L (k+j))→Obw P J l L T vs Q r ss k b→
  (∀i o,r[i]? =some o→ ∀W K Q0,Hid (J (k+i) W)→Hid (∀j,reachB l l.length (k+i) j=true→(sgA L j).R (maskV l j vs) W (vs j))→Hid (∀v W',tnA T (k+i) W W'→(sgA L (k+i)).R (maskV l (k+i) vs) W' v→K ((actV (fun j=>decide (j<k+i)) vs r k b).put o.dst v) W')→o.wp P (actV (fun j=>decide (j<k+i)) vs r k b) W K Q0)∧
  (∀W',Hid (J l.length W')→Hid (∀j,j<l.length→(sgA L j).R (maskV l j vs) W' (vs j))→Q .normal (actV (fun _=>true) vs r k b) W')
 | [],_,_,_,_,_,h=>⟨fun i o ho=>by simp at ho,h⟩
 | _::_,[],_,_,_,_,h=>h.elim
 | o::r,s::ss,k,b,hr,hs,h=>by
   obtain⟨h1,h2⟩:=h
   have hs0:s=sgA L k:=by simpa using hs 0
   have hk:k<l.length:=by
    have:=hr 0
    rw[Nat.add_zero] at this
    exact(List.getElem?_eq_some_iff.1 this.symm).1
   rw[hs0,hvs k hk] at h2
   have hn:=obw_at hvs r ss (k+1) _ (fun j=>by have:=hr (j+1);rw[show k+(j+1)=k+1+j by omega] at this;simpa using this) (fun j=>by have:=hs (j+1);rw[show k+(j+1)=k+1+j by omega] at this;simpa using this) h2
   refine⟨fun i o' ho'=> ?_,?_⟩
   ·cases i with
    | zero=>
      obtain rfl:o=o':=by simpa using ho'
      have e:actV (fun j=>decide (j<k+0)) vs (o::r) k b=b:=by
       unfold actV
       rw[decide_eq_false (by omega)]
       have: ∀(r:List Oper) (k2:Nat) (b:Act),k≤k2→actV (fun j=>decide (j<k+0)) vs r k2 b=b:=by
        intro r
        induction r with
        | nil=>intros;rfl
        | cons o r ih=>
          intro k2 b hk2
          unfold actV
          rw[decide_eq_false (by omega)]
          exact ih (k2+1) b (by omega)
       exact this r (k+1) b (by omega)
      rw[e,Nat.add_zero,←hs0]
      exact h1
    | succ i=>
      have e:k+(i+1)=k+1+i:=by omega
      have:=hn.1 i o' (by simpa using ho')
      rw[e]
      unfold actV
      rw[decide_eq_true (by omega)]
      exact this
   ·exact hn.2
theorem gen_any (hB:freB l=true) (hsz: ∀(i:Nat) (o:Oper),l[i]? =some o→ ∀t,o.dst=some t→t<a.tmps.size)
  (hIT: ∀t,some t∈T→ ∀W W',I W→t W W'→I W') (hHT:ItD I Hs D T 0 T) (hst:Stb I L T (clG l L T)) (h: ∀vs,Obw P (JH I Hs l D) l L T vs Q l L 0 a): ∀(fuel:Nat) (listed:Array Bool) (vs:Nat→Value) (W:World),
  ((List.range l.length).filter fun j=> !listed.getD j false).length=fuel→Cl l.toArray listed→I W→((∀d∈D,listed.getD d false=false)→Hs W)→(∀j,j<l.length→(sgA L j).pick (vs j)=vs j)→(∀j,listed.getD j false=true→(sgA L j).R (maskV l j vs) W (vs j))→
  wpAny P .any l.toArray Q fuel listed (actV (fun j=>listed.getD j false) vs l 0 a) W:=by
 have hI: ∀k W W',I W→tnA T k W W'→I W':=fun k W W' hi ht=>by
  unfold tnA at ht
  cases e:T.getD k none with
  | none=>rw[e] at ht;rw[show W'=W from ht];exact hi
  | some t=>
    rw[e] at ht
    refine hIT t ?_ W W' hi ht
    rw[List.getD_eq_getElem?_getD] at e
    cases e2:T[k]? with
    | none=>rw[e2] at e;cases e
    | some q=>rw[e2] at e;simp only[Option.getD_some] at e;subst e;exact List.mem_of_getElem? e2
 have hH: ∀k W W',I W→k∉D→Hs W→tnA T k W W'→Hs W':=fun k W W' hi hk hs ht=>by
  unfold tnA at ht
  cases e:T.getD k none with
  | none=>rw[e] at ht;rw[show W'=W from ht];exact hs
  | some t=>
    rw[e] at ht
    rw[List.getD_eq_getElem?_getD] at e
    cases e2:T[k]? with
    | none=>rw[e2] at e;cases e
    | some q=>
      rw[e2] at e;simp only[Option.getD_some] at e;subst e
      rcases hHT.at k t e2 with h | h
      ·rw[Nat.zero_add] at h;exact absurd h hk
      ·exact h W W' hi hs ht
 have all: ∀(listed:Array Bool) (vs:Nat→Value) (W:World),Cl l.toArray listed→I W→((∀d∈D,listed.getD d false=false)→Hs W)→(∀j,j<l.length→(sgA L j).pick (vs j)=vs j)→(∀j,listed.getD j false=true→(sgA L j).R (maskV l j vs) W (vs j))→(∀j,j<l.length→listed.getD j false=true)→Q .normal (actV (fun j=>listed.getD j false) vs l 0 a) W:=fun listed vs W hc hb hd hp hr hl=>by
  have:=(obw_at hp l L 0 a (fun j=>by rw[Nat.zero_add]) (fun j=>by rw[Nat.zero_add];rfl) (h vs)).2 W (hDD ⟨hb,fun ok=>hd fun d hd'=>by
   have h1:=List.all_eq_true.1 ok d hd'
   simp only[Bool.or_eq_true,beq_iff_eq] at h1
   rcases h1 with h1 | h1
   ·rw[Array.getD_eq_getD_getElem?,Array.getElem?_eq_none (by rw[hc.1,h1];simp)];rfl
   ·have h2:=reach_lt hB _ _ _ h1
    rw[Array.getD_eq_getD_getElem?,Array.getElem?_eq_none (by rw[hc.1];simp;omega)];rfl⟩) (hDD fun j hj=>hr j (hl j hj))
  rwa [actV_congr (S':=fun _=>true) (vs':=vs) l 0 a fun j hj=>by rw[Nat.zero_add];exact⟨hl j hj,fun _=>rfl⟩]
 have none_ready: ∀(listed:Array Bool),Cl l.toArray listed→Region.ready .any l.toArray listed= []→ ∀j,j<l.length→listed.getD j false=true:=fun listed hc hr j=>by
  induction j using Nat.strongRecOn with
  | _ j ih=>
    intro hj
    by_cases q:listed.getD j false=true
    ·exact q
    ·exfalso
     have:j∈Region.ready .any l.toArray listed:=by
      rw[mem_ready]
      refine⟨by rw[getD_tf (by rw[hc.1];simpa using hj)];simpa using q,l[j],by simp[hj],fun e he hb=> ?_⟩
      have:=((fre_parts hB).2 j l[j] (List.getElem?_eq_getElem hj)).2.1 e he hb
      exact ih e.on this (by omega)
     rw[hr] at this
     cases this
 intro fuel
 induction fuel with
 | zero=>
   intro listed vs W hf hc hb hd hp hr
   have hl: ∀j,j<l.length→listed.getD j false=true:=fun j hj=>by
    have:=List.filter_eq_nil_iff.1 (List.eq_nil_of_length_eq_zero hf) j (List.mem_range.2 hj)
    simpa using this
   refine⟨?_,all listed vs W hc hb hd hp hr hl⟩
   cases hq:Region.ready .any l.toArray listed with
   | nil=>rfl
   | cons i r=>
     obtain⟨h1,o,ho,_⟩:=mem_ready.1 (show i∈Region.ready .any l.toArray listed by rw[hq];simp)
     have hi:i<l.length:=by simpa using (Array.getElem?_eq_some_iff.1 ho).1
     rw[getD_tf (by rw[hc.1];simpa using hi),hl i hi] at h1
     cases h1
 | succ fuel ih=>
   intro listed vs W hf hc hb hd hp hr
   refine⟨fun h0=>all listed vs W hc hb hd hp hr (none_ready listed hc h0),fun i hi=> ?_⟩
   obtain⟨h1,o,ho,hdeps⟩:=mem_ready.1 hi
   have ho':l[i]? =some o:=by simpa using ho
   have hil:i<l.length:=(List.getElem?_eq_some_iff.1 ho').1
   have his:i<listed.size:=by rw[hc.1];simpa using hil
   have hif:listed.getD i false=false:=by rw[←getD_tf his];exact h1
   obtain⟨hgd,_,hdst,hlook⟩:=(fre_parts hB).2 i o ho'
   have hsel:=fun (cs:Array SelectCase) (b:Bool)=>Region.noSelect_spec (fre_parts hB).1 i o cs b ho
   have hob:=(obw_at hp l L 0 a (fun j=>by rw[Nat.zero_add]) (fun j=>by rw[Nat.zero_add];rfl) (h vs)).1 i o ho'
   rw[Nat.zero_add] at hob
   have hlst: ∀j,reachB l l.length i j=true→listed.getD j false=true:=fun j hj=>reach_listed hc l.length i j (fun o2 ho2 e he hb=>by rw[ho'] at ho2;injection ho2 with ho2;subst ho2;exact hdeps e he hb) hj
   have hno: ∀j,listed.getD j false=true→reachB l l.length j i=false:=fun j hj=>by
    cases q:reachB l l.length j i with
    | false=>rfl
    | true=>
      have:=reach_listed hc l.length j i (fun o2 ho2 e he hb=>hc.2 j o2 (by simpa using ho2) hj e he hb) q
      rw[hif] at this
      cases this
   have hwp:=hob W (fun c W'=> ∃v,c=(actV (fun j=>decide (j<i)) vs l 0 a).put o.dst v∧(tnA T i W W'∧(sgA L i).R (maskV l i vs) W' v)) (fun e _ _=>e= .outgrown∧False) (hDD ⟨hb,fun ok=>hd fun d hd'=>by
    have h1:=List.all_eq_true.1 ok d hd'
    simp only[Bool.or_eq_true,beq_iff_eq] at h1
    rcases h1 with h1 | h1
    ·rw[h1];exact hif
    ·cases q:listed.getD d false with
     | false=>rfl
     | true=>have:=hno d q;rw[h1] at this;cases this⟩) (hDD fun j hj=>hr j (hlst j hj)) (hDD fun v W' hbv hv=>⟨v,rfl,hbv,hv⟩)
   unfold wpOp
   simp only[ho]
   rw[if_pos (wanted_none hgd _)]
   refine .inl (wp_swap ?_ hwp (fun t ht=> ?_) fun v W' ⟨hbv,hv⟩=> ?_)
   ·refine execOp_congr o (fun cs b e=>hsel cs b e) fun x hx=> ?_
    cases x with
    | tmp t=>
      refine actV_eval l 0 a a rfl rfl fun k o' hk hd=> ?_
      rw[Nat.zero_add]
      have ht:t∈o.looksAt l.toArray:=List.mem_append_left _ (List.mem_filterMap.2 ⟨.tmp t,by simpa using hx,rfl⟩)
      rcases hlook k o' t hk hd ht with q | q
      ·rw[hlst k q,decide_eq_true (reach_lt hB _ _ _ q)]
      ·have hki:=reach_lt hB _ _ _ q
       rw[decide_eq_false (by omega)]
       cases hkl:listed.getD k false with
       | false=>rfl
       | true=>
         exfalso
         have:=hno k hkl
         rw[q] at this
         cases this
    | const v=>rfl
    | global g=>rfl
    | func f=>rfl
   ·have: ∀(S:Nat→Bool) (r:List Oper) (k:Nat) (b:Act),(actV S vs r k b).tmps.size=b.tmps.size:=by
     intro S r
     induction r with
     | nil=>intros;rfl
     | cons o r ih=>intro k b;unfold actV;rw[ih];split;exact put_size _ _ _;rfl
    rw[this]
    exact hsz i o ho' t ht
   ·have e:=actV_set (S:=fun j=>listed.getD j false) (vs:=vs) (v:=v) l 0 a i o ho' (by rw[Nat.zero_add];exact hif) fun j o2 hj hij d hd=>hdst j o2 hj hij d hd
    rw[Nat.zero_add] at e
    rw[e]
    rw[actV_congr (S':=fun j=>(listed.setIfInBounds i true).getD j false) (vs':=fun j=>if j=i then v else vs j) l 0 a fun j hj=>⟨by
     rw[Nat.zero_add]
     by_cases q:j=i
     ·subst q;simp[his]
     ·rw[decide_eq_false q,Bool.or_false,getD_set_ne false (fun e=>q e.symm)],fun _=>rfl⟩]
    have hset: ∀j,(listed.setIfInBounds i true).getD j false=true→j≠i→listed.getD j false=true:=fun j hj q=>by
     rwa [getD_set_ne false (fun e=>q e.symm)] at hj
    have hmask: ∀j,reachB l l.length j i=false→maskV l j (fun m=>if m=i then v else vs m)=maskV l j vs:=fun j hj=>by
     funext m
     unfold maskV
     by_cases q:m=i
     ·subst q;rw[if_neg (by simp[hj]),if_neg (by simp[hj])]
     ·simp only[if_neg q]
    have hii:reachB l l.length i i=false:=by
     cases q:reachB l l.length i i with
     | false=>rfl
     | true=>have:=reach_lt hB _ _ _ q;omega
    have hI':I W':=hI i W W' hb hbv
    refine ih (listed.setIfInBounds i true) _ W' ?_ (hc.set hi) hI' (fun hd'=> ?_) (fun j hj=> ?_) (fun j hj=> ?_)
    ·have:=nlisted_set his hif l.length hil
     omega
    ·have hni:i∉D:=fun hm=>by have:=hd' i hm;simp[his] at this
     exact hH i W W' hb hni (hd fun d hdm=>by
      have hne:i≠d:=fun e=>hni (e▸hdm)
      have:=hd' d hdm
      rwa [getD_set_ne false hne] at this) hbv
    ·by_cases q:j=i
     ·subst q;simp only[if_true];exact Sg.pick_of _ _ hv
     ·simp only[if_neg q];exact hp j hj
    ·by_cases q:j=i
     ·subst q;simp only[if_true];rw[hmask _ hii];exact hv
     ·simp only[if_neg q]
      have hjl:=hset j hj q
      rw[hmask j (hno j hjl)]
      have hjn:j<l.length:=by
       by_cases q:j<l.length
       ·exact q
       ·rw[Array.getD_eq_getD_getElem?,Array.getElem?_eq_none (by rw[hc.1];simpa using q)] at hjl
        cases hjl
      have hold:=hr j hjl
      cases hs:sgA L j with
      | val c=>rw[hs] at hold;exact hold
      | pur p=>rw[hs] at hold;exact hold
      | mem p=>
        cases ht:T.getD i none with
        | none=>
          have:W'=W:=by unfold tnA at hbv;rw[ht] at hbv;exact hbv
          rw[this,←hs];exact hold
        | some t=>
          rw[←hs]
          refine hst.at (j,i) ?_ _ W W' _ hb hI' hbv hold
          unfold clG
          refine List.mem_flatMap.2 ⟨j,List.mem_range.2 hjn,List.mem_filterMap.2 ⟨i,List.mem_range.2 hil,?_⟩⟩
          rw[if_pos]
          simp only[hs,ht,Sg.isMem,Option.isSome_some,hno j hjl,Bool.not_false,Bool.and_true,Bool.true_and]
          simpa using q
theorem wp_region_genH {id:Nat} (L:List Sg) (T:List (Option (World→World→Prop))) (I Hs:World→Prop) (D:List Nat) (X:List (Nat×Nat)) (hm:P.follows .mixedOrders=true) (hB:freB l=true) (hX:clG l L T=X) (hsz:(l.all fun o=>match o.dst with | some t=>decide (t<a.tmps.size) | none=>true)=true)
  (hI0:I w.drew) (hH0:Hs w.drew) (hIT:Its I T) (hHT:ItD I Hs D T 0 T) (hst:Stb I L T X)
  (h: ∀vs,Obw P (JH I Hs l D) l L T vs Q l L 0 a):(Code.region id l.toArray true).wp P Q a w:=by
 refine wp_region_any hm ?_
 subst hX
 have hv: ∀j,j<l.length→(sgA L j).pick ((sgA L j).pick undef)=(sgA L j).pick undef:=fun j _=>by cases sgA L j<;>rfl
 have h0: ∀j,(Array.replicate l.toArray.size false).getD j false=false:=fun j=>by
  simp only[Array.getD_eq_getD_getElem?,Array.getElem?_replicate]
  split<;>rfl
 have:=gen_any (P:=P) (Q:=Q) hB (fun i o ho t ht=>by
  have:=List.all_eq_true.1 hsz o (List.mem_of_getElem? ho)
  rw[ht] at this
  simpa using this) hIT.at hHT hst h l.toArray.size (Array.replicate l.toArray.size false) (fun j=>(sgA L j).pick undef) w.drew (by
   have:(List.range l.length).filter (fun j=> !(Array.replicate l.toArray.size false).getD j false)=List.range l.length:=List.filter_eq_self.2 fun j _=>by rw[h0];rfl
   rw[this];simp) ⟨by simp,fun j o _ hj=>by rw[h0] at hj;cases hj⟩ hI0 (fun _=>hH0) hv (fun j hj=>by rw[h0] at hj;cases hj)
 have e:actV (fun j=>(Array.replicate l.toArray.size false).getD j false) (fun j=>(sgA L j).pick undef) l 0 a=a:=by
  have: ∀(r:List Oper) (k:Nat) (b:Act),actV (fun j=>(Array.replicate l.toArray.size false).getD j false) (fun j=>(sgA L j).pick undef) r k b=b:=by
   intro r
   induction r with
   | nil=>intros;rfl
   | cons o r ih=>intro k b;unfold actV;rw[h0];exact ih _ _
  exact this l 0 a
 rw[e] at this
 exact this
theorem Obw.mono {J J':Nat→World→Prop} (hJ: ∀k W,J' k W→J k W) {vs:Nat→Value}: ∀ {r:List Oper} {ss:List Sg} {k:Nat} {b:Act},Obw P J l L T vs Q r ss k b→Obw P J' l L T vs Q r ss k b
 | [],_,_,_,h=>fun W' hj hr=>h W' (hDD (hJ _ _ hj.out)) hr
 | _::_,[],_,_,h=>h
 | _::_,_::_,_,_,h=>⟨fun W K Q0 hj hr hk=>h.1 W K Q0 (hDD (hJ _ _ hj.out)) hr hk,h.2.mono hJ⟩
theorem itD_nil {I:World→Prop} {T:List (Option (World→World→Prop))}: ∀(r:List (Option (World→World→Prop))) (k:Nat),ItD I (fun _=>True) [] T k r
 | [],_=>trivial
 | none::r,k=>itD_nil r (k+1)
 | some _::r,k=>⟨.inr fun _ _ _ _ _=>trivial,itD_nil r (k+1)⟩
theorem wp_region_gen {id:Nat} (L:List Sg) (T:List (Option (World→World→Prop))) (I:World→Prop) (X:List (Nat×Nat)) (hm:P.follows .mixedOrders=true) (hB:freB l=true) (hX:clG l L T=X) (hsz:(l.all fun o=>match o.dst with | some t=>decide (t<a.tmps.size) | none=>true)=true)
  (hI0:I w.drew) (hIT:Its I T) (hst:Stb I L T X)
  (h: ∀vs,Obw P (fun _=>I) l L T vs Q l L 0 a):(Code.region id l.toArray true).wp P Q a w:=
 wp_region_genH L T I (fun _=>True) [] X hm hB hX hsz hI0 trivial hIT (itD_nil T 0) hst fun vs=>(h vs).mono fun _ _ hj=>hj.1
end
end Go.Proofs.YtnjpoljbagfdnaaGreat
