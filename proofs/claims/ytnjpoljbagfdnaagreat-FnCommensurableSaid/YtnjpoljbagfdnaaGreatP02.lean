/- Parts of the proof: GrD, GrC, GrF, Let, CanP, Walk, IsWord, UpW, Whole, LoW, Cpy, UpI, Word, Prod, Subst, Eqn, Sol, SolU, Mark, Put, IIL, SolM, Fmt, EqP, Parts, Sing, Par, ParS, CycP, EqnM, DrawW, Fre, Rgn. -/
import Derived.Test.YtnjpoljbagfdnaaGreatP01
import Derived.Deep.RegionHeld3
import Derived.Outline
set_option maxRecDepth 100000
set_option maxHeartbeats 16000000
set_option linter.unusedVariables false
set_option linter.unusedSimpArgs false
namespace Go.Proofs.YtnjpoljbagfdnaaGreat
open Go.RowKit
open _root_.Nat renaming le_refl→zaa,zero_le→zaf,zero_add→zag,lt_or_eq_of_le→zal,le_of_lt_succ→zan,add_zero→zaq,le_of_not_lt→za2
open Go.RowKit.Below renaming refl→zab,drew→zaj
open _root_.List renaming take_succ_eq_append_getElem→zac,getElem?_eq_some_iff→zai,range→zam,take_length→zao,mem_range→zar,filter_cons→zas,all_eq_true→zat,mem_filterMap→zav,getD→zaw,eq_nil_of_length_eq_zero→zay,foldl_append→zaz,mem_cons→zaB,length_take_le→zaC,mem_append→zaD,getElem?_append_left→zaF,length_append→zaJ,getD_eq_getElem?_getD→zaK,pairwise_iff_getElem→zaL,drop_eq_getElem_cons→zaM,any_eq_true→zaN,getElem?_eq_getElem→zaO,foldl_cons→zaQ,filterMap_append→zaR,take_append_drop→zaS,dropLast_eq_take→zaT,length_singleton→zaU,mem_of_getElem?→zaW,filter_append→zaZ,length_cons→za1,length_nil→za4,filter_nil→za5
open _root_.Bool renaming and_eq_true→zad,or_eq_true→zax,eq_iff_iff→zaI,or_false→zaX,false_eq_true→zaY,and_false→za6,not_false→za8
open Go.World renaming cell?_setCell_other→zae,cell?_setCell_same→zau,drewN_drewN→zaA,alloc→zaH
open _root_.Array renaming getElem?_setIfInBounds_self_of_lt→zah,getD_eq_getD_getElem?→zak,getElem?_eq_none→zap,replicate→zaG,size_setIfInBounds→zaP,mem_toList_iff→zaV
open _root_.Classical renaming byContradiction→zaE
open _root_.Int renaming neg_neg→za0
open _root_.Option renaming getD_some→za3
open Go.Value renaming ownBlock→za7
def insA (y:Int) (xs:List Int) (k:Nat):List Int×Bool:=(xs.take k).foldl (insS cmpI y) ([],false)
theorem qIX (y:Int) (xs:List Int) (k:Nat) (h:k<xs.length):insA y xs (k+1)=insS cmpI y (insA y xs k) xs[k]:=by
 unfold insA;rw[zac h,zaz];rfl
theorem qNr (y:Int) (xs:List Int) (k:Nat) (h:k≤xs.length):(insA y xs k).1.length≤2*k:=by
 induction k with
 | zero=>simp[insA]
 | succ k ih=>
   rw[qIX y xs k tO];have:=ih tO
   unfold insS;split
   ·simp;omega
   ·split<;>(simp;omega)
theorem qDO (v:Value) (xs:List Int) (y:Int) (w:World) (h:RdI w v xs) (hy:I64 y) (hl:xs.length≤1073741824):
  Calls Tryz.prog 211 #[v, .int .i64 y] w fun e w'=> ∃r,e= .returned r∧OwI w' w.heap.size r (insF cmpI xs y)∧Below w.heap.size w w':=by
 have H:=qA h;obtain⟨A,cap,rfl,a6,hm,hr,hb⟩:=h.arg;have HR:=qA hr;have HY:=qA hy;clear h hb hr hy;go_enter Tryz.func211,Tryz.ntmps211
 go_wp2;go_loopw [5,6,7] (fun out p i wr=> ∃k:Nat,k≤xs.length∧i= .int .i64 k∧p= .bool (insA y xs k).2∧OwI wr w.heap.size out (insA y xs k).1∧Below w.heap.size w wr)
  (fun _ _ i _=>xs.length-(intOf i).toNat)
 case atStart=>exact⟨0,zaf _,rfl,rfl,qAE _ [] qAT (by simp) (zaa _),(zab _ _).alloc (zaa _) _⟩
 case round=>
  obtain⟨k,hk,rfl,rfl,aa,ab⟩:=hrel;have aq:=ab.size;have kR:=qNr y xs k hk;by_cases ac:k<xs.length
  ·obtain⟨b,off,rfl,eX,hc⟩:=H.out.at tO;have oS:=hc k ac;have dv:b<wr.heap.size:=tO;have aF:=(ab.cell (p:=⟨b,off+k,none⟩) eX).trans oS;have HS:=qA (qIX y xs k ac);have HX:=qA (HR.out xs[k] (by simp));generalize hs:insA y xs k=s at aa HS kR⊢;obtain⟨o,p⟩:=s;generalize xs[k]=z at aF oS HS HX;have Bb:=qA oS;clear hc hs oS;have HO:=qA aa;obtain⟨A1,ah,rfl,dl,dj,_,_⟩:=aa.form;clear aa;simp only at kR
   rcases e1:(z==y) with _ | _
   ·have pI:z≠y:=by simpa using e1
    by_cases h2:y<z
    ·cases p
     ·have F:Hid (insA y xs (k+1)=(o++ [y,z],true)):=qA (by rw[HS.out];unfold insS;rw[if_neg (fun e=>pI (qw.1 e).symm),if_pos ⟨qCp.2 h2,rfl⟩]);clear pI;go_wp2_with (first | ((at_builtin;refine qd rfl (.tmp 31) (.tmp 33) rfl _ _ _ (OwI.alloc HO.out _) rfl _ _ rfl (qa _ _ _) HY.out (by first | omega | (simp<;>omega)) (by first | omega | (simp<;>omega)) ?_;intro v1 oz o1 g1 p1);have bI:=g1.size;simp at bI;have fe:=qe ab aq HO.out.1 (zaa _) g1;have nD:=(fe.cell (p:=⟨b,off+k,none⟩) eX).trans Bb.out;clear fe) | (at_builtin;refine qd rfl (.tmp 35) (.tmp 40) rfl _ _ _ (OwI.alloc o1 _) rfl _ _ rfl (qa _ _ _) HX.out (by first | omega | (simp<;>omega)) (by first | omega | (simp<;>omega)) ?_;intro v2 wv2 o2 g2 p2))
      go_roundw
      case rel=>
       have fe:=qe ab aq HO.out.1 (zaa _) g1;exact⟨k+1,tO,by go_num,by rw[F.out],by rw[F.out];simpa using o2,qe fe fe.size o1.1 (zaa _) g2⟩
      case measure=>simp[intOf];omega
     ·have F:Hid (insA y xs (k+1)=(o++ [z],true)):=qA (by rw[HS.out];unfold insS;rw[if_neg (fun e=>pI (qw.1 e).symm),if_neg (by simp)]);clear pI;go_wp2_with (at_builtin;refine qd rfl (.tmp 35) (.tmp 40) rfl _ _ _ (OwI.alloc HO.out _) rfl _ _ rfl (qa _ _ _) HX.out (by first | omega | (simp<;>omega)) (by first | omega | (simp<;>omega)) ?_;intro v2 wv2 o2 g2 p2)
      go_roundw
      case rel=>exact⟨k+1,tO,by go_num,by rw[F.out],by rw[F.out];exact o2,qe ab aq HO.out.1 (zaa _) g2⟩
      case measure=>simp[intOf];omega
    ·have F:Hid (insA y xs (k+1)=(o++ [z],p)):=qA (by rw[HS.out];unfold insS;rw[if_neg (fun e=>pI (qw.1 e).symm),if_neg (fun e=>h2 (qCp.1 e.1))]);clear pI;go_wp2_with (at_builtin;refine qd rfl (.tmp 35) (.tmp 40) rfl _ _ _ (OwI.alloc HO.out _) rfl _ _ rfl (qa _ _ _) HX.out (by first | omega | (simp<;>omega)) (by first | omega | (simp<;>omega)) ?_;intro v2 wv2 o2 g2 p2)
     go_roundw
     case rel=>exact⟨k+1,tO,by go_num,by rw[F.out],by rw[F.out];exact o2,qe ab aq HO.out.1 (zaa _) g2⟩
     case measure=>simp[intOf];omega
   ·have pI:z=y:=by simpa using e1
    have F:Hid (insA y xs (k+1)=(o++ [z],true)):=qA (by rw[HS.out];unfold insS;rw[if_pos (qw.2 pI.symm)]);have h2: ¬y<z:=tO;clear pI;go_wp2_with (at_builtin;refine qd rfl (.tmp 35) (.tmp 40) rfl _ _ _ (OwI.alloc HO.out _) rfl _ _ rfl (qa _ _ _) HX.out (by first | omega | (simp<;>omega)) (by first | omega | (simp<;>omega)) ?_;intro v2 wv2 o2 g2 p2)
    go_roundw
    case rel=>exact⟨k+1,tO,by go_num,by rw[F.out],by rw[F.out];exact o2,qe ab aq HO.out.1 (zaa _) g2⟩
    case measure=>simp[intOf];omega
  ·obtain rfl:k=xs.length:=tO
   have HF:Hid (insF cmpI xs y=if(insA y xs xs.length).2 then(insA y xs xs.length).1 else(insA y xs xs.length).1++ [y]):=qA (by unfold insF insA;rw[zao]);generalize insA y xs xs.length=s at aa HF kR⊢;obtain⟨o,p⟩:=s;have HO:=qA aa;obtain⟨A1,ah,rfl,dl,dj,_,_⟩:=aa.form;clear aa;simp only at kR
   cases p
   ·go_wp2_with (at_builtin;refine qd rfl (.tmp 44) (.tmp 46) rfl _ _ _ (OwI.alloc HO.out _) rfl _ _ rfl (qa _ _ _) HY.out (by first | omega | (simp<;>omega)) (by first | omega | (simp<;>omega)) ?_;intro v2 wv2 o2 g2 p2)
    go_ret;exact⟨_,rfl,by rw[HF.out];exact o2,qe ab aq HO.out.1 (zaa _) g2⟩
   ·go_wp2;go_ret;exact⟨_,rfl,by rw[HF.out];exact HO.out,ab⟩
def mt (v x:Int) (e:EdD):Option Int:=
 if 0<x then(if e.2.1=x∧e.1=v then some e.2.2 else none) else if x<0 then(if e.2.1=wrap64 (-x)∧e.2.2=v then some e.1 else none) else none
def qv (es:List EdD) (v x:Int):List Int:=es.filterMap (mt v x)
def qF (es:List EdD) (v x:Int):Int:=(qv es v x).headD (-1)
theorem qGE (es:List EdD) (v x:Int) (k:Nat) (h:k<es.length):qv (es.take (k+1)) v x=qv (es.take k) v x++(mt v x es[k]).toList:=by
 unfold qv;rw[zac h,zaR];congr 1
theorem qEN (es:List EdD) (v x:Int) (k:Nat):(qv (es.take k) v x).length≤(qv es v x).length:=by
 unfold qv;conv=>rhs;rw[←zaS k es,zaR]
 simp
theorem qKO (y:Int):insF cmpI [] y= [y]:=by rw[qES];rfl
theorem qFB (v:Value) (g:GrD) (u x:Int) (w:World) (h:ArgG w v g) (fX:(qv g.2.2 u x).length≤1):
  Calls Tryz.prog 164 #[v, .int .i64 u, .int .i64 x] w fun e w'=> ∃r,e= .returned r∧OwI w' w.heap.size r (qv g.2.2 u x)∧Below w.heap.size w w':=by
 obtain⟨s,rfl,_,_,ha⟩:=h;have H:=qA ha;obtain⟨A,cap,rfl,a6,hm,_,hr,_⟩:=ha;have HR:=qA hr;unfold maxLen at hm;clear hr;go_enter Tryz.func164,Tryz.ntmps164
 go_wp2;have hb:Below w.heap.size w ((w.alloc (.cells #[.int .i64 g.1,.int .i64 g.2.1, .slice A g.2.2.length cap] 26)).alloc (.cells #[] 3)):=(by repeat(first | exact .refl _ _ | (refine BxS ?_ _) | (refine qD ?_ _) | (refine zaj ?_) | (refine BxA ?_ _)));have k2:((w.alloc (.cells #[.int .i64 g.1,.int .i64 g.2.1, .slice A g.2.2.length cap] 26)).alloc (.cells #[] 3)).cell? ⟨w.heap.size,2,none⟩=some (.slice A g.2.2.length cap):=by simp[go_sem]
 have aP:w.heap.size+1<((w.alloc (.cells #[.int .i64 g.1,.int .i64 g.2.1, .slice A g.2.2.length cap] 26)).alloc (.cells #[] 3)).heap.size:=by simp
 have o0:OwI ((w.alloc (.cells #[.int .i64 g.1,.int .i64 g.2.1, .slice A g.2.2.length cap] 26)).alloc (.cells #[] 3)) (w.heap.size+1) (.slice (some ⟨w.heap.size+1,0,none⟩) 0 0) []:=qCH (w.alloc (.cells #[.int .i64 g.1,.int .i64 g.2.1, .slice A g.2.2.length cap] 26)) [] (w.heap.size+1) (by simp) qAT (by simp) (zaa _);generalize (w.alloc (.cells #[.int .i64 g.1,.int .i64 g.2.1, .slice A g.2.2.length cap] 26)).alloc (.cells #[] 3)=w1 at hb k2 aP o0⊢;have HB:=qA hb;have K2:=qA k2;have O0:=qA o0;clear hb k2 o0;go_loopw [7,8] (fun out i wr=> ∃k:Nat,k≤g.2.2.length∧i= .int .i64 k∧OwI wr (w.heap.size+1) out (qv (g.2.2.take k) u x)∧Below (w.heap.size+1) w1 wr) (fun _ i _=>g.2.2.length-(intOf i).toNat)
 case atStart=>exact⟨0,zaf _,rfl,O0.out,zab _ _⟩
 case round=>
  obtain⟨k,hk,rfl,aa,ab⟩:=hrel;have aq:=ab.size;have aC:=qA (HB.out.trans (ab.mono tO));have p2:=(ab.cell (p:=⟨w.heap.size,2,none⟩) (show w.heap.size<w.heap.size+1 by omega)).trans K2.out;have HO:=qA aa;have ay:=qA ab;obtain⟨A1,ah,rfl,dl,dj,_,_⟩:=aa.form;clear ab;by_cases ac:k<g.2.2.length
  ·obtain⟨b,off,rfl,dv,c0,c1,c2,_⟩:=(H.out.below aC.out).at ac;have HS:=qA (qGE g.2.2 u x k ac);have HX:=qA (HR.out g.2.2[k] (by simp));have dR:=qEN g.2.2 u x (k+1);have EK:Hid ((qv (g.2.2.take (k+1)) u x).length≤1):=qA tO;clear dR aa;generalize g.2.2[k]=e at*;obtain⟨f,l,t⟩:=e;simp only at c0 c1 c2
   have keep:mt u x (f,l,t)=none→qv (g.2.2.take (k+1)) u x=qv (g.2.2.take k) u x:=fun e=>by rw[HS.out,e];simp
   have KE:=qA keep;have put: ∀y,mt u x (f,l,t)=some y→qv (g.2.2.take k) u x= []∧qv (g.2.2.take (k+1)) u x= [y]:=fun y e=>by
    have h1:=HS.out;have h2:=EK.out;rw[e] at h1;rw[h1] at h2;simp at h2
    refine⟨h2,by rw[h1,h2];rfl⟩
   have PU:=qA put;clear keep put;by_cases hp:0<x
   ·have hn: ¬x<0:=tO;rcases e1:(l==x) with _ | _
    ·have F:=qA (KE.out (by simp at e1;simp[mt,hp,e1]));go_wp2;go_roundw
     case rel=>exact⟨k+1,tO,by go_num,by rw[F.out];exact HO.out.alloc _,ay.out.alloc tO _⟩
     case measure=>simp[intOf];omega
    ·rcases e2:(f==u) with _ | _
     ·have F:=qA (KE.out (by simp at e2;simp[mt,hp,e2]));go_wp2;go_roundw
      case rel=>exact⟨k+1,tO,by go_num,by rw[F.out];exact HO.out.alloc _,ay.out.alloc tO _⟩
      case measure=>simp[intOf];omega
     ·have F:=qA (PU.out t (by simp at e1 e2;simp[mt,hp,e1,e2]));have aM:=HO.out;rw[F.out.1] at aM;have mx:=qA aM;clear aM;have hz:(qv (g.2.2.take k) u x).length=0:=by rw[F.out.1];rfl
      rw[hz];go_wp2_with fail;refine(qDO _ [] t _ ((mx.out.alloc _).rd) HX.out.2.2 (by simp)).mono ?_
      rintro e w9 ⟨r9,rfl,o9,b9⟩;rw[qKO] at o9;have O9:=qA (o9.mono (base':=w.heap.size+1) (by simp;omega));have B9:Hid (Below (w.heap.size+1) w1 w9):=qA ((ay.out.alloc tO _).trans (b9.mono (by simp;omega)));obtain⟨A9,bh,rfl,_⟩:=o9.form;clear o9 b9;go_wp2;go_roundw
      case rel=>exact⟨k+1,tO,by go_num,by rw[F.out.2];exact O9.out,B9.out⟩
      case measure=>simp[intOf];omega
   ·by_cases hn:x<0
    ·rcases e1:(l==wrap64 (-x)) with _ | _
     ·have F:=qA (KE.out (by simp at e1;simp[mt,hp,hn,e1]));go_wp2;go_roundw
      case rel=>exact⟨k+1,tO,by go_num,by rw[F.out];exact HO.out.alloc _,ay.out.alloc tO _⟩
      case measure=>simp[intOf];omega
     ·rcases e2:(t==u) with _ | _
      ·have F:=qA (KE.out (by simp at e2;simp[mt,hp,hn,e2]));go_wp2;go_roundw
       case rel=>exact⟨k+1,tO,by go_num,by rw[F.out];exact HO.out.alloc _,ay.out.alloc tO _⟩
       case measure=>simp[intOf];omega
      ·have F:=qA (PU.out f (by simp at e1 e2;simp[mt,hp,hn,e1,e2]));have aM:=HO.out;rw[F.out.1] at aM;have mx:=qA aM;clear aM;have hz:(qv (g.2.2.take k) u x).length=0:=by rw[F.out.1];rfl
       rw[hz];go_wp2_with fail;refine(qDO _ [] f _ ((mx.out.alloc _).rd) HX.out.1 (by simp)).mono ?_
       rintro e w9 ⟨r9,rfl,o9,b9⟩;rw[qKO] at o9;have O9:=qA (o9.mono (base':=w.heap.size+1) (by simp;omega));have B9:Hid (Below (w.heap.size+1) w1 w9):=qA ((ay.out.alloc tO _).trans (b9.mono (by simp;omega)));obtain⟨A9,bh,rfl,_⟩:=o9.form;clear o9 b9;go_wp2;go_roundw
       case rel=>exact⟨k+1,tO,by go_num,by rw[F.out.2];exact O9.out,B9.out⟩
       case measure=>simp[intOf];omega
    ·have F:=qA (KE.out (by simp[mt,hp,hn]));go_wp2;go_roundw
     case rel=>exact⟨k+1,tO,by go_num,by rw[F.out];exact HO.out.alloc _,ay.out.alloc tO _⟩
     case measure=>simp[intOf];omega
  ·obtain rfl:k=g.2.2.length:=tO
   clear aa;go_wp2;go_ret;exact⟨_,rfl,by have:=HO.out.mono (base':=w.heap.size) tO;rw[zao] at this;rw[zao];exact this,aC.out⟩
theorem qU (v:Value) (g:GrD) (u x:Int) (w:World) (h:ArgG w v g) (fX:(qv g.2.2 u x).length≤1):
  Calls Tryz.prog 86 #[v, .int .i64 u, .int .i64 x] w fun e w'=>e= .returned (.int .i64 (qF g.2.2 u x))∧Below w.heap.size w w':=by
 have H:=qA h;obtain⟨s,rfl,_,_,ha⟩:=h;obtain⟨A,cap,rfl⟩:=ha.form;obtain⟨R,hR⟩: ∃R,R=qF g.2.2 u x:=⟨_,rfl⟩;rw[←hR];unfold qF at hR;have HR:=qA hR;clear hR;go_enter Tryz.func86,Tryz.ntmps86
 go_wp2_with fail;have hb:Below w.heap.size w (w.alloc (.cells #[.int .i64 g.1,.int .i64 g.2.1, .slice A g.2.2.length cap] 26)):=(by repeat(first | exact .refl _ _ | (refine BxS ?_ _) | (refine qD ?_ _) | (refine zaj ?_) | (refine BxA ?_ _)));refine(qFB _ g u x _ (H.out.below hb) fX).mono ?_
 rintro e w1 ⟨r,rfl,o1,b1⟩;have B1:=qA (hb.trans (b1.mono hb.size));generalize qv g.2.2 u x=L at o1 HR;clear hb b1 ha;obtain⟨A1,ah,rfl,aR,dj,_,_⟩:=o1.form;match L,o1,HR with
 | [],o1,HR=>
   have F:Hid (R= -1):=HR;clear o1;go_wp2;go_ret;exact⟨qAW F.out.symm,B1.out⟩
 | y::L,o1,HR=>
   obtain rfl:R=y:=HR.out
   clear HR;obtain⟨b,off,rfl,dv,hc⟩:=o1.rd.at (by simp);have c0:=hc 0 (by simp);simp only[List.getElem_cons_zero,zaq] at c0;clear o1 hc;go_wp2;go_ret;exact⟨rfl,B1.out⟩
theorem qBS (v:Value) (g:GrD) (w:World) (h:ArgG w v g):
  Calls Tryz.prog 187 #[v] w fun e w'=>e= .returned (.bool (grB g))∧Below w.heap.size w w':=by
 obtain⟨s,rfl,_,_,ha⟩:=h;have H:=qA ha;obtain⟨A,cap,rfl,a6,hm,_⟩:=ha;unfold maxLen at hm;rcases t1:inB g.1 1 3 with _ | _
 ·go_enter Tryz.func187,Tryz.ntmps187
  go_wp2_with (go_at_call 137;refine(qBo _ _ _ _).mono ?_;rintro e w' ⟨rfl,rfl⟩)
  go_ret;exact⟨qM (by unfold grB;rw[t1];rfl),(by repeat(first | exact .refl _ _ | (refine BxS ?_ _) | (refine qD ?_ _) | (refine zaj ?_) | (refine BxA ?_ _)))⟩
 rcases t2:inB g.2.1 1 40 with _ | _
 ·go_enter Tryz.func187,Tryz.ntmps187
  go_wp2_with (go_at_call 137;refine(qBo _ _ _ _).mono ?_;rintro e w' ⟨rfl,rfl⟩)
  go_ret;exact⟨qM (by unfold grB;rw[t1,t2];rfl),(by repeat(first | exact .refl _ _ | (refine BxS ?_ _) | (refine qD ?_ _) | (refine zaj ?_) | (refine BxA ?_ _)))⟩
 by_cases t3:120<g.2.2.length
 ·go_enter Tryz.func187,Tryz.ntmps187
  go_wp2_with (go_at_call 137;refine(qBo _ _ _ _).mono ?_;rintro e w' ⟨rfl,rfl⟩)
  go_ret;exact⟨qM (by unfold grB;rw[t1,t2,decide_eq_false tO];rfl),(by repeat(first | exact .refl _ _ | (refine BxS ?_ _) | (refine qD ?_ _) | (refine zaj ?_) | (refine BxA ?_ _)))⟩
 go_enter Tryz.func187,Tryz.ntmps187
 go_wp2_with (go_at_call 137;refine(qBo _ _ _ _).mono ?_;rintro e w' ⟨rfl,rfl⟩)
 have hb:Below w.heap.size w (w.alloc (.cells #[.int .i64 g.1,.int .i64 g.2.1, .slice A g.2.2.length cap] 26)):=(by repeat(first | exact .refl _ _ | (refine BxS ?_ _) | (refine qD ?_ _) | (refine zaj ?_) | (refine BxA ?_ _)));have k0:(w.alloc (.cells #[.int .i64 g.1,.int .i64 g.2.1, .slice A g.2.2.length cap] 26)).cell? ⟨w.heap.size,0,none⟩=some (.int .i64 g.1):=by simp[go_sem]
 have k1:(w.alloc (.cells #[.int .i64 g.1,.int .i64 g.2.1, .slice A g.2.2.length cap] 26)).cell? ⟨w.heap.size,1,none⟩=some (.int .i64 g.2.1):=by simp[go_sem]
 have k2:(w.alloc (.cells #[.int .i64 g.1,.int .i64 g.2.1, .slice A g.2.2.length cap] 26)).cell? ⟨w.heap.size,2,none⟩=some (.slice A g.2.2.length cap):=by simp[go_sem]
 have aP:w.heap.size<(w.alloc (.cells #[.int .i64 g.1,.int .i64 g.2.1, .slice A g.2.2.length cap] 26)).heap.size:=by simp
 generalize w.alloc (.cells #[.int .i64 g.1,.int .i64 g.2.1, .slice A g.2.2.length cap] 26)=w1 at hb k0 k1 k2 aP⊢;have HB:=qA hb;have K0:=qA k0;have K1:=qA k1;have K2:=qA k2;clear hb;clear k0 k1 k2;go_loopw [24] (fun i wr=> ∃k:Nat,k≤g.2.2.length∧i= .int .i64 k∧(∀j,j<k→okE g j=true)∧Below w1.heap.size w1 wr) (fun i _=>g.2.2.length-(intOf i).toNat)
 case atStart=>exact⟨0,zaf _,rfl,fun j hj=>absurd hj tO,zab _ _⟩
 case round=>
  obtain⟨k,hk,rfl,aB,ab⟩:=hrel;have HA:=qA aB;have ay:=qA ab;have aC:=qA (HB.out.trans (ab.mono HB.out.size));have aq:=ab.size;have p0:=(ab.cell (p:=⟨w.heap.size,0,none⟩) aP).trans K0.out;have p1:=(ab.cell (p:=⟨w.heap.size,1,none⟩) aP).trans K1.out;have p2:=(ab.cell (p:=⟨w.heap.size,2,none⟩) aP).trans K2.out;have bm:w.heap.size<wr.heap.size:=tO;by_cases ac:k<g.2.2.length
  ·obtain⟨b,off,rfl,dv,c0,c1,c2,_⟩:=(H.out.below aC.out).at ac;have ST:Hid (okE g k=true→ ∀j,j<k+1→okE g j=true):=qA fun F j hj=>by
    rcases zal (zan hj) with hj | rfl
    ·exact HA.out j hj
    ·exact F
   have FA:Hid (okE g k=false→grB g=false):=qA (qIp k ac);clear aB ab;by_cases h0:0<k
   ·obtain⟨j,rfl⟩: ∃j,k=j+1:=⟨k-1,tO⟩;obtain⟨b2,iT,fh,_,d0,d1,d2,_⟩:=(H.out.below aC.out).at (k:=j) tO;obtain⟨rfl,rfl⟩:b=b2∧off=iT:=by simpa using fh
    have HZ:Hid (okE g (j+1)=(qAa g.1 g.2.1 g.2.2[j+1]&& !decide (0≤cmpE g.2.2[j] g.2.2[j+1]))):=qA (qGQ h0 ac);have i0:(0:Int)≤(j:Int):=tO;have i1:(j:Int)<(g.2.2.length:Int):=tO;have i2:(j:Int)+1<(g.2.2.length:Int):=tO;clear fh h0;generalize g.2.2[j]=y at d0 d1 d2 HZ;generalize g.2.2[j+1]=x at c0 c1 c2 HZ;have hE:=fun w=>qGf g.1 g.2.1 (some ⟨b,off,none⟩) g.2.2.length cap x w;rcases e1:qAa g.1 g.2.1 x with _ | _
    ·have F:Hid (okE g (j+1)=false):=qA (by rw[HZ.out,e1];rfl);simp only[e1] at hE;have HE:=qA hE;clear hE;go_wp2_with fail;obtain⟨W,hW⟩: ∃W,W=zaH wr (.cells #[.int .i64 x.1, .int .i64 x.2.1, .int .i64 x.2.2] 97):=⟨_,rfl⟩;rw[←hW];have bW:Below wr.heap.size wr W:=by rw[hW];exact(zab _ _).alloc (zaa _) _
     have sW:wr.heap.size<W.heap.size:=by rw[hW];simp
     replace p0:=(bW.cell (p:=⟨w.heap.size,0,none⟩) (show w.heap.size<wr.heap.size by omega)).trans p0;replace p1:=(bW.cell (p:=⟨w.heap.size,1,none⟩) (show w.heap.size<wr.heap.size by omega)).trans p1;replace p2:=(bW.cell (p:=⟨w.heap.size,2,none⟩) (show w.heap.size<wr.heap.size by omega)).trans p2;replace c0:=(bW.cell (p:=⟨b,off+(j+1)*3,none⟩) (show b<wr.heap.size by omega)).trans c0;replace c1:=(bW.cell (p:=⟨b,off+(j+1)*3+1,none⟩) (show b<wr.heap.size by omega)).trans c1;replace c2:=(bW.cell (p:=⟨b,off+(j+1)*3+2,none⟩) (show b<wr.heap.size by omega)).trans c2;replace d0:=(bW.cell (p:=⟨b,off+j*3,none⟩) (show b<wr.heap.size by omega)).trans d0;replace d1:=(bW.cell (p:=⟨b,off+j*3+1,none⟩) (show b<wr.heap.size by omega)).trans d1;replace d2:=(bW.cell (p:=⟨b,off+j*3+2,none⟩) (show b<wr.heap.size by omega)).trans d2;have l0:W.cell? ⟨wr.heap.size,0,none⟩=some (.int .i64 x.1):=by rw[hW];simp[go_sem]
     have l1:W.cell? ⟨wr.heap.size,1,none⟩=some (.int .i64 x.2.1):=by rw[hW];simp[go_sem]
     have l2:W.cell? ⟨wr.heap.size,2,none⟩=some (.int .i64 x.2.2):=by rw[hW];simp[go_sem]
     clear hW;have f0:=BelW.cell p0 (show w.heap.size<W.heap.size by omega);have f1:=BelW.cell p1 (show w.heap.size<W.heap.size by omega);have f2:=BelW.cell p2 (show w.heap.size<W.heap.size by omega);have f3:=BelW.cell c0 (show b<W.heap.size by omega);have f4:=BelW.cell c1 (show b<W.heap.size by omega);have f5:=BelW.cell c2 (show b<W.heap.size by omega);have f6:=BelW.cell d0 (show b<W.heap.size by omega);have f7:=BelW.cell d1 (show b<W.heap.size by omega);have f8:=BelW.cell d2 (show b<W.heap.size by omega);have f9:=BelW.cell l0 (show wr.heap.size<W.heap.size by omega);have zq:=BelW.cell l1 (show wr.heap.size<W.heap.size by omega);have sQ:=BelW.cell l2 (show wr.heap.size<W.heap.size by omega);(refine qH tK tK ?_;(repeat(go_big_quiet_step (first | (go_at_call 227;exact Calls.bel_of (HE.out _)))));refine wpQuiet_nil ?_;intro wq aA;obtain⟨pq,ae⟩:=aA;have bq:=pq.h;rw[←ae] at bq;clear ae pq)
     clear f0 f1 f2 f3 f4 f5 f6 f7 f8 f9 zq sQ;go_wp2;go_ret;exact⟨qM (FA.out F.out).symm,(aC.out.trans (bW.mono tO)).trans (bq.mono tO)⟩
    ·simp only[e1] at hE;have HE:=qA hE;clear hE;rcases e2:decide (0≤cmpE y x) with _ | _
     ·have F:Hid (okE g (j+1)=true):=qA (by rw[HZ.out,e1,e2];rfl);go_wp2_with fail;obtain⟨W,hW⟩: ∃W,W=zaH wr (.cells #[.int .i64 x.1, .int .i64 x.2.1, .int .i64 x.2.2] 97):=⟨_,rfl⟩;rw[←hW];have bW:Below wr.heap.size wr W:=by rw[hW];exact(zab _ _).alloc (zaa _) _
      have sW:wr.heap.size<W.heap.size:=by rw[hW];simp
      replace p0:=(bW.cell (p:=⟨w.heap.size,0,none⟩) (show w.heap.size<wr.heap.size by omega)).trans p0;replace p1:=(bW.cell (p:=⟨w.heap.size,1,none⟩) (show w.heap.size<wr.heap.size by omega)).trans p1;replace p2:=(bW.cell (p:=⟨w.heap.size,2,none⟩) (show w.heap.size<wr.heap.size by omega)).trans p2;replace c0:=(bW.cell (p:=⟨b,off+(j+1)*3,none⟩) (show b<wr.heap.size by omega)).trans c0;replace c1:=(bW.cell (p:=⟨b,off+(j+1)*3+1,none⟩) (show b<wr.heap.size by omega)).trans c1;replace c2:=(bW.cell (p:=⟨b,off+(j+1)*3+2,none⟩) (show b<wr.heap.size by omega)).trans c2;replace d0:=(bW.cell (p:=⟨b,off+j*3,none⟩) (show b<wr.heap.size by omega)).trans d0;replace d1:=(bW.cell (p:=⟨b,off+j*3+1,none⟩) (show b<wr.heap.size by omega)).trans d1;replace d2:=(bW.cell (p:=⟨b,off+j*3+2,none⟩) (show b<wr.heap.size by omega)).trans d2;have l0:W.cell? ⟨wr.heap.size,0,none⟩=some (.int .i64 x.1):=by rw[hW];simp[go_sem]
      have l1:W.cell? ⟨wr.heap.size,1,none⟩=some (.int .i64 x.2.1):=by rw[hW];simp[go_sem]
      have l2:W.cell? ⟨wr.heap.size,2,none⟩=some (.int .i64 x.2.2):=by rw[hW];simp[go_sem]
      clear hW;have f0:=BelW.cell p0 (show w.heap.size<W.heap.size by omega);have f1:=BelW.cell p1 (show w.heap.size<W.heap.size by omega);have f2:=BelW.cell p2 (show w.heap.size<W.heap.size by omega);have f3:=BelW.cell c0 (show b<W.heap.size by omega);have f4:=BelW.cell c1 (show b<W.heap.size by omega);have f5:=BelW.cell c2 (show b<W.heap.size by omega);have f6:=BelW.cell d0 (show b<W.heap.size by omega);have f7:=BelW.cell d1 (show b<W.heap.size by omega);have f8:=BelW.cell d2 (show b<W.heap.size by omega);have f9:=BelW.cell l0 (show wr.heap.size<W.heap.size by omega);have zq:=BelW.cell l1 (show wr.heap.size<W.heap.size by omega);have sQ:=BelW.cell l2 (show wr.heap.size<W.heap.size by omega);(refine qH tK tK ?_;(repeat(go_big_quiet_step (first | (go_at_call 227;exact Calls.bel_of (HE.out _)) | (go_at_call 218;exact Calls.bel_of (qBh y x _)))));refine wpQuiet_nil ?_;intro wq aA;obtain⟨pq,ae⟩:=aA;have bq:=pq.h;rw[←ae] at bq;clear ae pq)
      clear f0 f1 f2 f3 f4 f5 f6 f7 f8 f9 zq sQ;go_wp2;go_roundw
      case rel=>exact⟨j+1+1,tO,by go_num,ST.out F.out,(ay.out.trans (bW.mono tO)).trans (bq.mono tO)⟩
      case measure=>simp[intOf];omega
     ·have F:Hid (okE g (j+1)=false):=qA (by rw[HZ.out,e1,e2];rfl);go_wp2_with fail;obtain⟨W,hW⟩: ∃W,W=zaH wr (.cells #[.int .i64 x.1, .int .i64 x.2.1, .int .i64 x.2.2] 97):=⟨_,rfl⟩;rw[←hW];have bW:Below wr.heap.size wr W:=by rw[hW];exact(zab _ _).alloc (zaa _) _
      have sW:wr.heap.size<W.heap.size:=by rw[hW];simp
      replace p0:=(bW.cell (p:=⟨w.heap.size,0,none⟩) (show w.heap.size<wr.heap.size by omega)).trans p0;replace p1:=(bW.cell (p:=⟨w.heap.size,1,none⟩) (show w.heap.size<wr.heap.size by omega)).trans p1;replace p2:=(bW.cell (p:=⟨w.heap.size,2,none⟩) (show w.heap.size<wr.heap.size by omega)).trans p2;replace c0:=(bW.cell (p:=⟨b,off+(j+1)*3,none⟩) (show b<wr.heap.size by omega)).trans c0;replace c1:=(bW.cell (p:=⟨b,off+(j+1)*3+1,none⟩) (show b<wr.heap.size by omega)).trans c1;replace c2:=(bW.cell (p:=⟨b,off+(j+1)*3+2,none⟩) (show b<wr.heap.size by omega)).trans c2;replace d0:=(bW.cell (p:=⟨b,off+j*3,none⟩) (show b<wr.heap.size by omega)).trans d0;replace d1:=(bW.cell (p:=⟨b,off+j*3+1,none⟩) (show b<wr.heap.size by omega)).trans d1;replace d2:=(bW.cell (p:=⟨b,off+j*3+2,none⟩) (show b<wr.heap.size by omega)).trans d2;have l0:W.cell? ⟨wr.heap.size,0,none⟩=some (.int .i64 x.1):=by rw[hW];simp[go_sem]
      have l1:W.cell? ⟨wr.heap.size,1,none⟩=some (.int .i64 x.2.1):=by rw[hW];simp[go_sem]
      have l2:W.cell? ⟨wr.heap.size,2,none⟩=some (.int .i64 x.2.2):=by rw[hW];simp[go_sem]
      clear hW;have f0:=BelW.cell p0 (show w.heap.size<W.heap.size by omega);have f1:=BelW.cell p1 (show w.heap.size<W.heap.size by omega);have f2:=BelW.cell p2 (show w.heap.size<W.heap.size by omega);have f3:=BelW.cell c0 (show b<W.heap.size by omega);have f4:=BelW.cell c1 (show b<W.heap.size by omega);have f5:=BelW.cell c2 (show b<W.heap.size by omega);have f6:=BelW.cell d0 (show b<W.heap.size by omega);have f7:=BelW.cell d1 (show b<W.heap.size by omega);have f8:=BelW.cell d2 (show b<W.heap.size by omega);have f9:=BelW.cell l0 (show wr.heap.size<W.heap.size by omega);have zq:=BelW.cell l1 (show wr.heap.size<W.heap.size by omega);have sQ:=BelW.cell l2 (show wr.heap.size<W.heap.size by omega);(refine qH tK tK ?_;(repeat(go_big_quiet_step (first | (go_at_call 227;exact Calls.bel_of (HE.out _)) | (go_at_call 218;exact Calls.bel_of (qBh y x _)))));refine wpQuiet_nil ?_;intro wq aA;obtain⟨pq,ae⟩:=aA;have bq:=pq.h;rw[←ae] at bq;clear ae pq)
      clear f0 f1 f2 f3 f4 f5 f6 f7 f8 f9 zq sQ;go_wp2;go_ret;exact⟨qM (FA.out F.out).symm,(aC.out.trans (bW.mono tO)).trans (bq.mono tO)⟩
   ·obtain rfl:k=0:=tO
    have HZ:=qA (qFo ac);generalize g.2.2[0]=x at c0 c1 c2 HZ;simp only[Nat.zero_mul,zaq] at c0 c1 c2;have hE:=fun w=>qGf g.1 g.2.1 (some ⟨b,off,none⟩) g.2.2.length cap x w;rcases e1:qAa g.1 g.2.1 x with _ | _
    ·have F:Hid (okE g 0=false):=qA (by rw[HZ.out,e1]);simp only[e1] at hE;have HE:=qA hE;clear hE;go_wp2_with fail;obtain⟨W,hW⟩: ∃W,W=zaH wr (.cells #[.int .i64 x.1, .int .i64 x.2.1, .int .i64 x.2.2] 97):=⟨_,rfl⟩;rw[←hW];have bW:Below wr.heap.size wr W:=by rw[hW];exact(zab _ _).alloc (zaa _) _
     have sW:wr.heap.size<W.heap.size:=by rw[hW];simp
     replace p0:=(bW.cell (p:=⟨w.heap.size,0,none⟩) (show w.heap.size<wr.heap.size by omega)).trans p0;replace p1:=(bW.cell (p:=⟨w.heap.size,1,none⟩) (show w.heap.size<wr.heap.size by omega)).trans p1;replace p2:=(bW.cell (p:=⟨w.heap.size,2,none⟩) (show w.heap.size<wr.heap.size by omega)).trans p2;replace c0:=(bW.cell (p:=⟨b,off,none⟩) (show b<wr.heap.size by omega)).trans c0;replace c1:=(bW.cell (p:=⟨b,off+1,none⟩) (show b<wr.heap.size by omega)).trans c1;replace c2:=(bW.cell (p:=⟨b,off+2,none⟩) (show b<wr.heap.size by omega)).trans c2;have l0:W.cell? ⟨wr.heap.size,0,none⟩=some (.int .i64 x.1):=by rw[hW];simp[go_sem]
     have l1:W.cell? ⟨wr.heap.size,1,none⟩=some (.int .i64 x.2.1):=by rw[hW];simp[go_sem]
     have l2:W.cell? ⟨wr.heap.size,2,none⟩=some (.int .i64 x.2.2):=by rw[hW];simp[go_sem]
     clear hW;have f0:=BelW.cell p0 (show w.heap.size<W.heap.size by omega);have f1:=BelW.cell p1 (show w.heap.size<W.heap.size by omega);have f2:=BelW.cell p2 (show w.heap.size<W.heap.size by omega);have f3:=BelW.cell c0 (show b<W.heap.size by omega);have f4:=BelW.cell c1 (show b<W.heap.size by omega);have f5:=BelW.cell c2 (show b<W.heap.size by omega);have f6:=BelW.cell l0 (show wr.heap.size<W.heap.size by omega);have f7:=BelW.cell l1 (show wr.heap.size<W.heap.size by omega);have f8:=BelW.cell l2 (show wr.heap.size<W.heap.size by omega);(refine qH tK tK ?_;(repeat(go_big_quiet_step (first | (go_at_call 227;exact Calls.bel_of (HE.out _)))));refine wpQuiet_nil ?_;intro wq aA;obtain⟨pq,ae⟩:=aA;have bq:=pq.h;rw[←ae] at bq;clear ae pq)
     clear f0 f1 f2 f3 f4 f5 f6 f7 f8;go_wp2;go_ret;exact⟨qM (FA.out F.out).symm,(aC.out.trans (bW.mono tO)).trans (bq.mono tO)⟩
    ·have F:Hid (okE g 0=true):=qA (by rw[HZ.out,e1]);simp only[e1] at hE;have HE:=qA hE;clear hE;go_wp2_with fail;obtain⟨W,hW⟩: ∃W,W=zaH wr (.cells #[.int .i64 x.1, .int .i64 x.2.1, .int .i64 x.2.2] 97):=⟨_,rfl⟩;rw[←hW];have bW:Below wr.heap.size wr W:=by rw[hW];exact(zab _ _).alloc (zaa _) _
     have sW:wr.heap.size<W.heap.size:=by rw[hW];simp
     replace p0:=(bW.cell (p:=⟨w.heap.size,0,none⟩) (show w.heap.size<wr.heap.size by omega)).trans p0;replace p1:=(bW.cell (p:=⟨w.heap.size,1,none⟩) (show w.heap.size<wr.heap.size by omega)).trans p1;replace p2:=(bW.cell (p:=⟨w.heap.size,2,none⟩) (show w.heap.size<wr.heap.size by omega)).trans p2;replace c0:=(bW.cell (p:=⟨b,off,none⟩) (show b<wr.heap.size by omega)).trans c0;replace c1:=(bW.cell (p:=⟨b,off+1,none⟩) (show b<wr.heap.size by omega)).trans c1;replace c2:=(bW.cell (p:=⟨b,off+2,none⟩) (show b<wr.heap.size by omega)).trans c2;have l0:W.cell? ⟨wr.heap.size,0,none⟩=some (.int .i64 x.1):=by rw[hW];simp[go_sem]
     have l1:W.cell? ⟨wr.heap.size,1,none⟩=some (.int .i64 x.2.1):=by rw[hW];simp[go_sem]
     have l2:W.cell? ⟨wr.heap.size,2,none⟩=some (.int .i64 x.2.2):=by rw[hW];simp[go_sem]
     clear hW;have f0:=BelW.cell p0 (show w.heap.size<W.heap.size by omega);have f1:=BelW.cell p1 (show w.heap.size<W.heap.size by omega);have f2:=BelW.cell p2 (show w.heap.size<W.heap.size by omega);have f3:=BelW.cell c0 (show b<W.heap.size by omega);have f4:=BelW.cell c1 (show b<W.heap.size by omega);have f5:=BelW.cell c2 (show b<W.heap.size by omega);have f6:=BelW.cell l0 (show wr.heap.size<W.heap.size by omega);have f7:=BelW.cell l1 (show wr.heap.size<W.heap.size by omega);have f8:=BelW.cell l2 (show wr.heap.size<W.heap.size by omega);(refine qH tK tK ?_;(repeat(go_big_quiet_step (first | (go_at_call 227;exact Calls.bel_of (HE.out _)))));refine wpQuiet_nil ?_;intro wq aA;obtain⟨pq,ae⟩:=aA;have bq:=pq.h;rw[←ae] at bq;clear ae pq)
     clear f0 f1 f2 f3 f4 f5 f6 f7 f8;go_wp2;go_roundw
     case rel=>exact⟨1,tO,by go_num,ST.out F.out,(ay.out.trans (bW.mono tO)).trans (bq.mono tO)⟩
     case measure=>simp[intOf];omega
  ·obtain rfl:k=g.2.2.length:=tO
   have F:=qA (qOE HA.out);clear aB ab;go_wp2;go_ret;exact⟨qM (by rw[F.out,t1,t2,decide_eq_true tO];rfl),aC.out⟩
def qBN (a b:EdD):Bool:=(a.2.1==b.2.1)&&((a.1==b.1)||(a.2.2==b.2.2))
theorem qCi (a b:EdD):qBN a b=qBN b a:=by
 have h: ∀x y:Int,(x==y)=(y==x):=fun x y=>by rw[zaI];simp;constructor<;>(intro h;exact h.symm)
 unfold qBN;rw[h a.2.1,h a.1,h a.2.2]
def Fol (es:List EdD):Prop:=es.Pairwise fun a b=>qBN a b=false
instance (es:List EdD):Decidable (Fol es):=by unfold Fol;infer_instance
def qb (g:GrD):Bool:=grB g&&decide (Fol g.2.2)
theorem qOG {es:List EdD} (h: ∀i (hi:i<es.length),∀k (hk:k<i),qBN es[i] (es[k]'tO)=false):Fol es:=by
 unfold Fol;rw[zaL];intro i j hi hj eC;rw[qCi];exact h j hj i eC
theorem qHG {g:GrD} (h:grB g=true) (hf: ∀i (hi:i<g.2.2.length),∀k (hk:k<i),qBN g.2.2[i] (g.2.2[k]'tO)=false):qb g=true:=by
 unfold qb;rw[h,decide_eq_true (qOG hf)];rfl
theorem qHn {g:GrD} (h:grB g=false):qb g=false:=by
 unfold qb;rw[h];rfl
theorem qGm {g:GrD} {i k:Nat} (hi:i<g.2.2.length) (hk:k<i) (h:qBN g.2.2[i] (g.2.2[k]'tO)=true):qb g=false:=by
 unfold qb;rw[decide_eq_false,za6];intro hf;unfold Fol at hf;rw[zaL] at hf;have:=hf k i tO hi hk
 rw[qCi,h] at this;cases this
theorem qE {g:GrD} (h:qb g=true):grB g=true∧Fol g.2.2:=by
 unfold qb at h;simpa using h
theorem qAI (v:Value) (g:GrD) (w:World) (h:ArgG w v g):
  Calls Tryz.prog 148 #[v] w fun e w'=>e= .returned (.bool (qb g))∧Below w.heap.size w w':=by
 have HG:=qA h;obtain⟨s,rfl,_,_,ha⟩:=h;have H:=qA ha;obtain⟨A,cap,rfl,a6,hm,_⟩:=ha;unfold maxLen at hm;go_enter Tryz.func148,Tryz.ntmps148
 go_wp2;have hb:Below w.heap.size w (w.alloc (.cells #[.int .i64 g.1,.int .i64 g.2.1, .slice A g.2.2.length cap] 26)):=(by repeat(first | exact .refl _ _ | (refine BxS ?_ _) | (refine qD ?_ _) | (refine zaj ?_) | (refine BxA ?_ _)));have k0:(w.alloc (.cells #[.int .i64 g.1,.int .i64 g.2.1, .slice A g.2.2.length cap] 26)).cell? ⟨w.heap.size,0,none⟩=some (.int .i64 g.1):=by simp[go_sem]
 have k1:(w.alloc (.cells #[.int .i64 g.1,.int .i64 g.2.1, .slice A g.2.2.length cap] 26)).cell? ⟨w.heap.size,1,none⟩=some (.int .i64 g.2.1):=by simp[go_sem]
 have k2:(w.alloc (.cells #[.int .i64 g.1,.int .i64 g.2.1, .slice A g.2.2.length cap] 26)).cell? ⟨w.heap.size,2,none⟩=some (.slice A g.2.2.length cap):=by simp[go_sem]
 have aP:w.heap.size<(w.alloc (.cells #[.int .i64 g.1,.int .i64 g.2.1, .slice A g.2.2.length cap] 26)).heap.size:=by simp
 generalize w.alloc (.cells #[.int .i64 g.1,.int .i64 g.2.1, .slice A g.2.2.length cap] 26)=w1 at hb k0 k1 k2 aP⊢;have HB:=qA hb;have K0:=qA k0;have K1:=qA k1;have K2:=qA k2;clear hb;clear k0 k1 k2;go_loopw [3] (fun i wo=> ∃k:Nat,k≤g.2.2.length∧i= .int .i64 k∧(0<k→grB g=true)∧(∀i (hi:i<g.2.2.length),i<k→ ∀j (hj:j<i),qBN g.2.2[i] (g.2.2[j]'tO)=false)∧Below w1.heap.size w1 wo) (fun i _=>g.2.2.length-(intOf i).toNat)
 case atStart=>exact⟨0,zaf _,rfl,fun h=>absurd h tO,fun i hi h=>absurd h tO,zab _ _⟩
 case round=>
  obtain⟨k,hk,rfl,J1,aB,ab⟩:=hrel;obtain⟨wo,rfl⟩: ∃wo:World,wo=wr:=⟨_,rfl⟩;have HA:=qA aB;have RI:=qA J1;have ay:=qA ab;have aC:=qA (HB.out.trans (ab.mono HB.out.size));have aq:=ab.size;have p0:=(ab.cell (p:=⟨w.heap.size,0,none⟩) aP).trans K0.out;have p1:=(ab.cell (p:=⟨w.heap.size,1,none⟩) aP).trans K1.out;have p2:=(ab.cell (p:=⟨w.heap.size,2,none⟩) aP).trans K2.out;have bm:w.heap.size<wo.heap.size:=tO;clear J1 aB ab;by_cases ac:k<g.2.2.length
  ·go_wp2_with fail;refine(qq _ g _ (HG.out.below aC.out)).mono ?_
   rintro e wp ⟨rfl,bp⟩;have BP:=qA bp;have szp:=bp.size;replace p0:=(bp.cell (p:=⟨w.heap.size,0,none⟩) bm).trans p0;replace p1:=(bp.cell (p:=⟨w.heap.size,1,none⟩) bm).trans p1;replace p2:=(bp.cell (p:=⟨w.heap.size,2,none⟩) bm).trans p2;have ch:=qA (aC.out.trans (bp.mono tO));have l4:=qA (ay.out.trans (bp.mono tO));clear bp;rcases e0:grB g with _ | _
   ·go_wp2_with fail;refine(qq _ g _ (HG.out.below ch.out)).mono ?_
    rintro e wz ⟨rfl,bz⟩;have BZ:=qA bz;clear bz;go_wp2;go_ret;exact⟨qM (by rw[qHn e0]),ch.out.trans (BZ.out.mono tO)⟩
   go_wp2;go_loopw [4] (fun j wr=> ∃m:Nat,m≤k∧j= .int .i64 m∧(∀j (hj:j<k),j<m→qBN g.2.2[k] (g.2.2[j]'tO)=false)∧Below wp.heap.size wp wr) (fun j _=>k-(intOf j).toNat)
   case atStart=>exact⟨0,zaf _,rfl,fun j hj h=>absurd h tO,zab _ _⟩
   case round=>
    obtain⟨m,dj,rfl,bD,aG⟩:=hrel;have HI:=qA bD;have bK:=qA aG;have szi:=aG.size;replace p0:=(aG.cell (p:=⟨w.heap.size,0,none⟩) (show w.heap.size<wp.heap.size by omega)).trans p0;replace p1:=(aG.cell (p:=⟨w.heap.size,1,none⟩) (show w.heap.size<wp.heap.size by omega)).trans p1;replace p2:=(aG.cell (p:=⟨w.heap.size,2,none⟩) (show w.heap.size<wp.heap.size by omega)).trans p2;have kh:=qA (ch.out.trans (aG.mono tO));have hZ:w.heap.size<wr.heap.size:=tO;clear bD aG;by_cases al:m<k
    ·obtain⟨b,off,rfl,dv,c0,c1,c2,_⟩:=(H.out.below kh.out).at ac;obtain⟨b2,iT,fh,_,d0,d1,d2,_⟩:=(H.out.below kh.out).at (k:=m) tO;obtain⟨rfl,rfl⟩:b=b2∧off=iT:=by simpa using fh
     have i1:(m:Int)<(g.2.2.length:Int):=tO;have CL:Hid (qBN g.2.2[k] (g.2.2[m]'tO)=true→qb g=false):=qA (qGm ac al);have CN:Hid (qBN g.2.2[k] (g.2.2[m]'tO)=false→ ∀j (hj:j<k),j<m+1→qBN g.2.2[k] (g.2.2[j]'tO)=false):=qA fun F j hj hjm=>by
      rcases zal (zan hjm) with h | rfl
      ·exact HI.out j hj h
      ·exact F
     clear fh;generalize g.2.2[k]=x at*;generalize g.2.2[m]'tO=y at*;have hC:Hid (qBN x y=((x.2.1==y.2.1)&&((x.1==y.1)||(x.2.2==y.2.2)))):=qA rfl;rcases t1:(x.2.1==y.2.1) with _ | _
     ·have F:=qA (CN.out (by rw[hC.out,t1];rfl));go_wp2;go_roundw
      case rel=>exact⟨m+1,tO,by go_num,F.out,(bK.out.alloc tO _).alloc (by simp;omega) _⟩
      case measure=>simp[intOf];omega
     rcases t2:(x.1==y.1) with _ | _
     ·rcases t3:(x.2.2==y.2.2) with _ | _
      ·have F:=qA (CN.out (by rw[hC.out,t1,t2,t3];rfl));go_wp2;go_roundw
       case rel=>exact⟨m+1,tO,by go_num,F.out,(bK.out.alloc tO _).alloc (by simp;omega) _⟩
       case measure=>simp[intOf];omega
      ·have F:=qA (CL.out (by rw[hC.out,t1,t2,t3];rfl));go_wp2;go_ret;exact⟨qM F.out.symm,(kh.out.alloc tO _).alloc (by simp;omega) _⟩
     ·have F:=qA (CL.out (by rw[hC.out,t1,t2];rfl));go_wp2;go_ret;exact⟨qM F.out.symm,(kh.out.alloc tO _).alloc (by simp;omega) _⟩
    ·obtain rfl:m=k:=tO
     go_wp2;go_roundw
     case rel=>exact⟨m+1,tO,by go_num,fun _=>e0,fun i hi gp j hj=>by
      rcases zal (zan gp) with h | rfl
      ·exact HA.out i hi h j hj
      ·exact HI.out j hj hj,l4.out.trans (bK.out.mono tO)⟩
     case measure=>simp[intOf];omega
  ·obtain rfl:k=g.2.2.length:=tO
   go_wp2_with fail;refine(qq _ g _ (HG.out.below aC.out)).mono ?_
   rintro e wz ⟨rfl,bz⟩;have BZ:=qA bz;have F:Hid (grB g=qb g):=qA (by
    rcases e0:grB g with _ | _
    ·exact(qHn e0).symm
    ·exact(qHG e0 fun i hi j hj=>HA.out i hi hi j hj).symm)
   clear bz;go_wp2;go_ret;exact⟨qM F.out,aC.out.trans (BZ.out.mono tO)⟩
theorem qAP (v:Value) (g:GrD) (w:World) (h:ArgG w v g):
  Calls Tryz.prog 158 #[v] w fun e w'=>e= .returned (.bool (qb g))∧Below w.heap.size w w':=by
 have HG:=qA h;obtain⟨s,rfl,_,_,ha⟩:=h;have H:=qA ha;obtain⟨A,cap,rfl,a6,hm,kF,_⟩:=ha;unfold maxLen at hm;have bx:Below w.heap.size w (w.alloc (.cells #[.int .i64 g.1,.int .i64 g.2.1, .slice A g.2.2.length cap] 26)):=(by repeat(first | exact .refl _ _ | (refine BxS ?_ _) | (refine qD ?_ _) | (refine zaj ?_) | (refine BxA ?_ _)));have kx:(w.alloc (.cells #[.int .i64 g.1,.int .i64 g.2.1, .slice A g.2.2.length cap] 26)).cell? ⟨w.heap.size,2,none⟩=some (.slice A g.2.2.length cap):=by simp[go_sem]
 have sx:w.heap.size<(w.alloc (.cells #[.int .i64 g.1,.int .i64 g.2.1, .slice A g.2.2.length cap] 26)).heap.size:=by simp
 have BX:=qA bx;have KX:=qA kx;clear bx kx;go_enter Tryz.func158,Tryz.ntmps158
 go_wp2_with fail;refine(qBS _ g _ (HG.out.below BX.out)).mono ?_
 rintro e w1 ⟨rfl,b1⟩;have HB:=qA (BX.out.trans (b1.mono BX.out.size));have k2:=(b1.cell (p:=⟨w.heap.size,2,none⟩) sx).trans KX.out;have aP:w.heap.size<w1.heap.size:=by have:=b1.size;omega
 have K2:=qA k2;clear b1 sx;rcases e0:grB g with _ | _
 ·go_wp2;go_ret;exact⟨qM (qHn e0).symm,HB.out⟩
 go_wp2;clear k2;go_loopw [13] (fun i wo=> ∃k:Nat,k≤g.2.2.length∧i= .int .i64 k∧(∀i (hi:i<g.2.2.length),i<k→ ∀j (hj:j<g.2.2.length),i<j→qBN g.2.2[j] g.2.2[i]=false)∧Below w1.heap.size w1 wo) (fun i _=>g.2.2.length-(intOf i).toNat)
 case atStart=>exact⟨0,zaf _,rfl,fun i hi h=>absurd h tO,zab _ _⟩
 case round=>
  obtain⟨k,hk,rfl,aB,ab⟩:=hrel;obtain⟨wo,rfl⟩: ∃wo:World,wo=wr:=⟨_,rfl⟩;have HA:=qA aB;have ay:=qA ab;have aC:=qA (HB.out.trans (ab.mono HB.out.size));have aq:=ab.size;have p2:=(ab.cell (p:=⟨w.heap.size,2,none⟩) aP).trans K2.out;have bm:w.heap.size<wo.heap.size:=tO;clear aB ab;by_cases ac:k<g.2.2.length
  ·obtain⟨b,off,rfl,dv,c0,c1,c2,_⟩:=(H.out.below aC.out).at ac;have j1:((k:Int)+1)≤(g.2.2.length:Int):=tO;have j0:(0:Int)≤(k:Int)+1:=tO;have j2:((k:Int)+1)≤(cap:Int):=tO;have CUT:=qA (H.out.cut (k:=k+1) tO);generalize hx:g.2.2[k]=x at c0 c1 c2;have HX:=qA hx;clear hx;have NW:w.heap.size<wo.heap.size:=bm;by_cases rZ:cap=k+1
   ·have Qb:g.2.2.length=k+1:=tO;go_wp2;refine wp_loop_rounds 1 ?_;rw[rounds_succ];have cD:g.2.2.length-(k+1)=0:=tO;go_wp2;go_roundw
    case rel=>exact⟨k+1,tO,by go_num,fun i hi gp j hj eC=>by
      rcases zal (zan gp) with h | rfl
      ·exact HA.out i hi h j hj eC
      ·omega,ay.out.alloc tO _⟩
    case measure=>simp[intOf];omega
   ·have cu:=CUT.out;rw[if_neg rZ] at cu;simp only[Option.map_some,Addr.add_lit] at cu;have CU:=qA cu;clear cu;obtain⟨N,hN⟩: ∃N,N=g.2.2.length-(k+1):=⟨_,rfl⟩;rw[←hN] at CU;have uK:(N:Int)=(g.2.2.length:Int)-((k:Int)+1):=tO;have MN:k+1+N=g.2.2.length:=tO;go_wp2;have hq:Below wo.heap.size wo (wo.alloc (.cells #[.int .i64 x.1,.int .i64 x.2.1,.int .i64 x.2.2] 97)):=(zab _ _).alloc (zaa _) _;have l0:(wo.alloc (.cells #[.int .i64 x.1,.int .i64 x.2.1,.int .i64 x.2.2] 97)).cell? ⟨wo.heap.size,0,none⟩=some (.int .i64 x.1):=by simp[go_sem]
    have l1:(wo.alloc (.cells #[.int .i64 x.1,.int .i64 x.2.1,.int .i64 x.2.2] 97)).cell? ⟨wo.heap.size,1,none⟩=some (.int .i64 x.2.1):=by simp[go_sem]
    have l2:(wo.alloc (.cells #[.int .i64 x.1,.int .i64 x.2.1,.int .i64 x.2.2] 97)).cell? ⟨wo.heap.size,2,none⟩=some (.int .i64 x.2.2):=by simp[go_sem]
    have sq:wo.heap.size<(wo.alloc (.cells #[.int .i64 x.1,.int .i64 x.2.1,.int .i64 x.2.2] 97)).heap.size:=by simp
    generalize wo.alloc (.cells #[.int .i64 x.1,.int .i64 x.2.1,.int .i64 x.2.2] 97)=wq at hq l0 l1 l2 sq⊢;have HQ:=qA hq;have L0:=qA l0;have L1:=qA l1;have L2:=qA l2;have Gn:=qA (aC.out.trans (hq.mono tO));have xu:=qA (ay.out.trans (hq.mono tO));clear hq l0 l1 l2;go_loopw [24] (fun j wr=> ∃m:Nat,m≤N∧j= .int .i64 m∧(∀j (hj:j<g.2.2.length),k<j→j<k+1+m→qBN g.2.2[j] x=false)∧Below wq.heap.size wq wr) (fun j _=>N-(intOf j).toNat)
    case atStart=>exact⟨0,zaf _,rfl,fun j hj h1 h2=>absurd h2 tO,zab _ _⟩
    case round=>
     obtain⟨m,dj,rfl,bD,aG⟩:=hrel;have HI:=qA bD;have bK:=qA aG;have szi:=aG.size;have l0:=(aG.cell (p:=⟨wo.heap.size,0,none⟩) sq).trans L0.out;have l1:=(aG.cell (p:=⟨wo.heap.size,1,none⟩) sq).trans L1.out;have l2:=(aG.cell (p:=⟨wo.heap.size,2,none⟩) sq).trans L2.out;have kh:=qA (Gn.out.trans (aG.mono tO));have hZ:wo.heap.size<wr.heap.size:=tO;clear bD aG;by_cases al:m<N
     ·have H0:(g.2.2.drop (k+1))[m]'(by simp;omega)=g.2.2[k+1+m]'tO:=by rw[List.getElem_drop]
      obtain⟨b2,iT,fh,dw,d0,d1,d2,_⟩:=(CU.out.below kh.out).at (k:=m) (by simp;omega);rw[H0] at d0 d1 d2;obtain⟨rfl,rfl⟩:b=b2∧off+(k+1)*3=iT:=by simpa using fh
      have CL:Hid (qBN (g.2.2[k+1+m]'tO) x=true→qb g=false):=qA (fun h=>qGm (i:=k+1+m) (k:=k) tO tO (by rw[HX.out];exact h));have CN:Hid (qBN (g.2.2[k+1+m]'tO) x=false→ ∀j (hj:j<g.2.2.length),k<j→j<k+1+(m+1)→qBN g.2.2[j] x=false):=qA fun F j hj hkj hjm=>by
       by_cases e:j=k+1+m
       ·subst e;exact F
       ·exact HI.out j hj hkj tO
      clear fh H0;generalize g.2.2[k+1+m]'tO=y at*;have hC:Hid (qBN y x=((x.2.1==y.2.1)&&((x.1==y.1)||(x.2.2==y.2.2)))):=qA (by rw[qCi];rfl);rcases t1:(x.2.1==y.2.1) with _ | _
      ·have F:=qA (CN.out (by rw[hC.out,t1];rfl));go_wp2;go_roundw
       case rel=>exact⟨m+1,tO,by go_num,F.out,bK.out.alloc tO _⟩
       case measure=>simp[intOf];omega
      rcases t2:(x.1==y.1) with _ | _
      ·rcases t3:(x.2.2==y.2.2) with _ | _
       ·have F:=qA (CN.out (by rw[hC.out,t1,t2,t3];rfl));go_wp2;go_roundw
        case rel=>exact⟨m+1,tO,by go_num,F.out,bK.out.alloc tO _⟩
        case measure=>simp[intOf];omega
       ·have F:=qA (CL.out (by rw[hC.out,t1,t2,t3];rfl));go_wp2;go_ret;exact⟨qM F.out.symm,kh.out.alloc tO _⟩
      ·have F:=qA (CL.out (by rw[hC.out,t1,t2];rfl));go_wp2;go_ret;exact⟨qM F.out.symm,kh.out.alloc tO _⟩
     ·obtain rfl:m=N:=tO
      go_wp2;go_roundw
      case rel=>exact⟨k+1,tO,by go_num,fun i hi gp j hj eC=>by
       rcases zal (zan gp) with h | rfl
       ·exact HA.out i hi h j hj eC
       ·have:=HI.out j hj eC tO
        rw[HX.out];exact this,xu.out.trans (bK.out.mono tO)⟩
      case measure=>simp[intOf];omega
  ·obtain rfl:k=g.2.2.length:=tO
   have F:Hid (qb g=true):=qA (qHG e0 fun i hi j hj=>HA.out j tO tO i hi hj);go_wp2;go_ret;exact⟨qM F.out.symm,aC.out⟩
def qG:Nat→List Int
 | 0=> []
 | n+1=>qG n++ [((n:Nat):Int)+1,-(((n:Nat):Int)+1)]
theorem qy (n:Nat):(qG n).length=2*n:=by
 induction n with
 | zero=>rfl
 | succ n ih=>simp[qG,ih];omega
theorem qIr {n:Nat} {x:Int} (h:x∈qG n):(1≤x∧x≤n)∨(1≤ -x∧ -x≤n):=by
 induction n with
 | zero=>cases h
 | succ n ih=>
   simp only[qG,zaD,zaB,List.not_mem_nil,or_false] at h;rcases h with h | h | h
   ·have:=ih h;omega
   ·omega
   ·omega
theorem qFO {n:Nat} (hn:n≤1073741824):I64s (qG n):=fun x hx=>by
 have:=qIr hx
 unfold I64;omega
theorem qAs (n:Nat) (w:World) (hn:n≤1073741824):
  Calls Tryz.prog 85 #[.int .i64 n] w fun e w'=> ∃r,e= .returned r∧OwI w' w.heap.size r (qG n)∧Below w.heap.size w w':=by
 go_enter Tryz.func85,Tryz.ntmps85
 go_wp2;go_loopw [3,4] (fun out i wr=> ∃k:Nat,k≤n∧i= .int .i64 (k+1)∧OwI wr w.heap.size out (qG k)∧Below w.heap.size w wr)
  (fun _ i _=>n+1-(intOf i).toNat)
 case atStart=>exact⟨0,zaf _,rfl,qAE _ [] qAT (by simp) (zaa _),(zab _ _).alloc (zaa _) _⟩
 case round=>
  obtain⟨k,hk,rfl,aa,ab⟩:=hrel;have aq:=ab.size;have kR:=qy k;by_cases ac:k<n
  ·have HS:Hid (qG (k+1)=qG k++ [(k:Int)+1,-((k:Int)+1)]):=qA rfl;generalize qG k=acc at aa HS kR;have HO:=qA aa;obtain⟨A1,ah,rfl,dl,dj,_,_⟩:=aa.form;clear aa;have HX:Hid (I64 ((k:Int)+1)):=qA ⟨tO,tO⟩;have HY:Hid (I64 (-((k:Int)+1))):=qA ⟨tO,tO⟩;go_wp2_with (first | ((at_builtin;refine qd rfl (.tmp 11) (.tmp 13) rfl _ _ _ (OwI.alloc HO.out _) rfl _ _ rfl (qa _ _ _) HX.out (by first | omega | (simp<;>omega)) (by first | omega | (simp<;>omega)) ?_;intro v1 oz o1 g1 p1);have bI:=g1.size;simp at bI) | (at_builtin;refine qd rfl (.tmp 15) (.tmp 18) rfl _ _ _ (OwI.alloc o1 _) rfl _ _ rfl (qa _ _ _) HY.out (by first | omega | (simp<;>omega)) (by first | omega | (simp<;>omega)) ?_;intro v2 wv2 o2 g2 p2))
   go_roundw
   case rel=>
    have fe:=qe ab aq HO.out.1 (zaa _) g1;exact⟨k+1,tO,by go_num,by rw[HS.out];simpa using o2,qe fe fe.size o1.1 (zaa _) g2⟩
   case measure=>simp[intOf];omega
  ·obtain rfl:k=n:=tO
   go_wp2;go_ret;exact⟨_,rfl,aa,ab⟩
theorem qCA (n:Nat) (w:World) (hn:n≤1073741824):
  Calls Tryz.prog 79 #[.int .i64 n] w fun e w'=> ∃r,e= .returned r∧OwI w' w.heap.size r (qG n)∧Below w.heap.size w w':=by
 go_enter Tryz.func79,Tryz.ntmps79
 go_wp2;go_loopw [3,4] (fun out i wr=> ∃k:Nat,k≤n∧i= .int .i64 (k+1)∧OwI wr w.heap.size out (qG k)∧Below w.heap.size w wr)
  (fun _ i _=>n+1-(intOf i).toNat)
 case atStart=>exact⟨0,zaf _,rfl,qAE _ [] qAT (by simp) (zaa _),(zab _ _).alloc (zaa _) _⟩
 case round=>
  obtain⟨k,hk,rfl,aa,ab⟩:=hrel;have aq:=ab.size;have kR:=qy k;by_cases ac:k<n
  ·have HS:Hid (qG (k+1)=qG k++ [(k:Int)+1,-((k:Int)+1)]):=qA rfl;generalize qG k=acc at aa HS kR;have HO:=qA aa;obtain⟨A1,ah,rfl,dl,dj,_,_⟩:=aa.form;clear aa;have HX:Hid (I64s [(k:Int)+1,-((k:Int)+1)]):=qA (fun x hx=>by simp at hx;unfold I64;omega);have HL:Hid (RdI (wr.alloc (.cells #[.int .i64 ((k:Int)+1), .int .i64 (-((k:Int)+1))] 3)) (.slice (some ⟨wr.heap.size,0,none⟩) 2 2) [(k:Int)+1,-((k:Int)+1)]):=
    qA (qAE wr _ HX.out (by simp) (zaa _)).rd
   go_wp2_with (at_builtin;refine qEJ rfl (.tmp 11) (.tmp 15) rfl w.heap.size _ _ (HO.out.alloc _) rfl _ _ HL.out rfl (by simp;omega) (by first | omega | (simp;omega)) ?_;intro v2 w2 o2 g2 p2)
   go_roundw
   case rel=>exact⟨k+1,tO,by go_num,by rw[HS.out];exact o2,qe ab aq HO.out.1 (zaa _) g2⟩
   case measure=>simp[intOf];omega
  ·obtain rfl:k=n:=tO
   go_wp2;go_ret;exact⟨_,rfl,aa,ab⟩
inductive Conn (es:List EdD) (v:Int):Int→Prop
 | base:Conn es v v
 | fwd (e:EdD) (he:e∈es) (h:Conn es v e.1):Conn es v e.2.2
 | back (e:EdD) (he:e∈es) (h:Conn es v e.2.2):Conn es v e.1
def qDI (o:List Int) (e:EdD):List Int:=
 if e.2.2∈(if e.1∈o then insF cmpI o e.2.2 else o) then insF cmpI (if e.1∈o then insF cmpI o e.2.2 else o) e.1 else(if e.1∈o then insF cmpI o e.2.2 else o)
theorem qDt {xs:List Int} {x y:Int}:y∈insF cmpI xs x↔y=x∨y∈xs:=by rw[qES];exact qFx x xs qNW y
theorem qBu {o:List Int} {e:EdD} {x:Int}:x∈qDI o e↔x∈o∨((e.1∈o∨e.2.2∈o)∧(x=e.1∨x=e.2.2)):=by
 unfold qDI;by_cases h1:e.1∈o
 ·simp only[h1,if_true];have h2:e.2.2∈insF cmpI o e.2.2:=qDt.2 (.inl rfl);rw[if_pos h2,qDt,qDt];constructor
  ·rintro(h | h | h)
   ·exact .inr ⟨.inl trivial, .inl h⟩
   ·exact .inr ⟨.inl trivial, .inr h⟩
   ·exact .inl h
  ·rintro(h | ⟨_,h | h⟩)
   ·exact .inr (.inr h)
   ·exact .inl h
   ·exact .inr (.inl h)
 ·simp only[h1,if_false];by_cases h2:e.2.2∈o
  ·rw[if_pos h2,qDt];constructor
   ·rintro(h | h)
    ·exact .inr ⟨.inr h2, .inl h⟩
    ·exact .inl h
   ·rintro(h | ⟨_,h | h⟩)
    ·exact .inr h
    ·exact .inl h
    ·exact .inr (by rw[h];exact h2)
  ·rw[if_neg h2];constructor
   ·exact .inl
   ·rintro(h | ⟨h | h,_⟩)
    ·exact h
    ·exact absurd h (by simp)
    ·exact absurd h h2
def qET (es:List EdD) (o:List Int):List Int:=es.foldl qDI o
theorem qCj {es:List EdD} {o:List Int} {x:Int} (h:x∈o):x∈qET es o:=by
 unfold qET;induction es generalizing o with
 | nil=>exact h
 | cons e es ih=>exact ih (qBu.2 (.inl h))
theorem qKi {es:List EdD} {o:List Int} {e:EdD} (he:e∈es) (h:e.1∈o∨e.2.2∈o):e.1∈qET es o∧e.2.2∈qET es o:=by
 unfold qET;induction es generalizing o with
 | nil=>cases he
 | cons d es ih=>
   rcases zaB.1 he with rfl | he
   ·exact⟨qCj (es:=es) (o:=qDI o e) (qBu.2 (.inr ⟨h, .inl rfl⟩)),qCj (es:=es) (o:=qDI o e) (qBu.2 (.inr ⟨h, .inr rfl⟩))⟩
   ·refine ih he ?_;rcases h with h | h
    ·exact .inl (qBu.2 (.inl h))
    ·exact .inr (qBu.2 (.inl h))
theorem qJb {es es':List EdD} {v:Int} {o:List Int} (gr: ∀e∈es',e∈es) (h: ∀x∈o,Conn es v x): ∀x∈qET es' o,Conn es v x:=by
 unfold qET;induction es' generalizing o with
 | nil=>exact h
 | cons e es' ih=>
   refine ih (fun d hd=>gr d (by simp[hd])) fun x hx=> ?_;have he:=gr e (by simp);rcases qBu.1 hx with hx | ⟨h1 | h1,rfl | rfl⟩
   ·exact h x hx
   ·exact h _ h1
   ·exact .fwd e he (h _ h1)
   ·exact .back e he (h _ h1)
   ·exact h _ h1
def Clo (es:List EdD) (o:List Int):Prop:= ∀e∈es,(e.1∈o↔e.2.2∈o)
theorem qIw {es:List EdD} {o:List Int} (h:Clo es o): ∀x,x∈qET es o↔x∈o:=by
 have key: ∀es':List EdD,(∀e∈es',e∈es)→ ∀o',(∀x,x∈o'↔x∈o)→ ∀x,x∈es'.foldl qDI o'↔x∈o:=by
  intro es';induction es' with
  | nil=>intro _ o' ho;exact ho
  | cons e es' ih=>
    intro gr o' ho;refine ih (fun d hd=>gr d (by simp[hd])) _ fun x=> ?_;rw[qBu,ho,ho,ho];have:=h e (gr e (by simp))
    constructor
    ·rintro(hx | ⟨h1 | h1,rfl | rfl⟩)
     ·exact hx
     ·exact h1
     ·exact this.1 h1
     ·exact this.2 h1
     ·exact h1
    ·exact .inl
 exact key es (fun _ h=>h) o fun _=>Iff.rfl
def phi (es:List EdD) (o:List Int):Nat:=(es.filter fun e=>decide (e.1∈o∧e.2.2∈o)).length
theorem qLE {α:Type} {p q:α→Bool} {l:List α} (hpq: ∀x,p x=true→q x=true) {a:α} (ha:a∈l) (hq:q a=true) (hp:p a=false):(l.filter p).length<(l.filter q).length:=by
 have le: ∀l:List α,(l.filter p).length≤(l.filter q).length:=by
  intro l;induction l with
  | nil=>simp
  | cons b l ih=>
    rw[zas,zas];split
    ·rename_i h
     rw[if_pos (hpq b h)];simp;exact ih
    ·split
     ·simp;omega
     ·exact ih
 induction l with
 | nil=>cases ha
 | cons b l ih=>
   rw[zas,zas];rcases zaB.1 ha with rfl | ha
   ·rw[if_neg (by simp[hp]),if_pos hq];have:=le l
    simp;omega
   ·have:=ih ha
    split
    ·rename_i h
     rw[if_pos (hpq b h)];simp;exact this
    ·split
     ·simp;omega
     ·exact this
theorem qPI {es:List EdD} {o:List Int} (h: ¬Clo es o):phi es o<phi es (qET es o):=by
 unfold Clo at h;have: ∃e,e∈es∧ ¬(e.1∈o↔e.2.2∈o):=by
  apply zaE
  intro hn;exact h fun e he=>zaE fun ai=>hn ⟨e,he,ai⟩
 obtain⟨e,he,ai⟩:=this;have pt:e.1∈o∨e.2.2∈o:=by
  apply zaE
  intro hn;exact ai ⟨fun h=>absurd (.inl h) hn,fun h=>absurd (.inr h) hn⟩
 refine qLE (fun d hd=> ?_) he ?_ ?_
 ·simp only[decide_eq_true_eq] at hd⊢;exact⟨qCj hd.1,qCj hd.2⟩
 ·simp only[decide_eq_true_eq];exact qKi he pt
 ·rw[decide_eq_false_iff_not];exact fun hh=>ai ⟨fun _=>hh.2,fun _=>hh.1⟩
def qDB (es:List EdD) (v:Int):Nat→List Int
 | 0=> [v]
 | i+1=>qET es (qDB es v i)
theorem qLr (es:List EdD) (v:Int) (i:Nat):Clo es (qDB es v i)∨i≤phi es (qDB es v i):=by
 induction i with
 | zero=>exact .inr (zaf _)
 | succ i ih=>
   by_cases h:Clo es (qDB es v i)
   ·left
    intro e he;show e.1∈qET es _↔e.2.2∈qET es _
    rw[qIw h,qIw h];exact h e he
   ·right
    have h1:=qPI h;rcases ih with ih | ih
    ·exact absurd ih h
    ·show i+1≤phi es (qET es (qDB es v i))
     omega
def qBi (es:List EdD) (v:Int):List Int:=qDB es v (es.length+1)
theorem qBp (es:List EdD) (v x:Int):x∈qBi es v↔Conn es v x:=by
 have AS:Clo es (qBi es v):=by
  rcases qLr es v (es.length+1) with h | h
  ·exact h
  ·have:phi es (qDB es v (es.length+1))≤es.length:=List.length_filter_le _ _
   omega
 have hv: ∀i,v∈qDB es v i:=by
  intro i;induction i with
  | zero=>simp[qDB]
  | succ i ih=>exact qCj ih
 have hs: ∀i,∀x∈qDB es v i,Conn es v x:=by
  intro i;induction i with
  | zero=>intro x hx;simp[qDB] at hx;subst hx;exact .base
  | succ i ih=>exact qJb (fun _ h=>h) ih
 refine⟨hs _ x,fun h=> ?_⟩;induction h with
 | base=>exact hv _
 | fwd e he _ ih=>exact(AS e he).1 ih
 | back e he _ ih=>exact(AS e he).2 ih
theorem qAL {es:List EdD} {v:Int} {S:Int→Prop} (hv:S v) (hc: ∀e∈es,(S e.1↔S e.2.2)) {x:Int} (h:Conn es v x):S x:=by
 induction h with
 | base=>exact hv
 | fwd e he _ ih=>exact(hc e he).1 ih
 | back e he _ ih=>exact(hc e he).2 ih
theorem qAS {l:List Int} {x:Int}:hasB l x=true↔x∈l:=by
 unfold hasB;rw[zaN];constructor
 ·rintro⟨y,hy,h⟩
  have:y=x:=by simpa using h
  rw[←this];exact hy
 ·intro h;exact⟨x,h,by simp⟩
theorem qCJ {l:List Int} {x:Int} (h:hasB l x=false):x∉l:=fun hm=>by
 rw[qAS.2 hm] at h;cases h
theorem qLk (o:List Int) (e:EdD):(qDI o e).length≤o.length+2:=by
 unfold qDI;have h1:(if e.1∈o then insF cmpI o e.2.2 else o).length≤o.length+1:=by
  split
  ·exact qCM _ _
  ·omega
 generalize (if e.1∈o then insF cmpI o e.2.2 else o)=o1 at h1⊢;split
 ·have:=qCM (c:=cmpI) o1 e.1
  omega
 ·omega
theorem qIf (es:List EdD) (o:List Int):(es.foldl qDI o).length≤o.length+2*es.length:=by
 induction es generalizing o with
 | nil=>simp
 | cons e es ih=>
   have h1:=ih (qDI o e);have h2:=qLk o e;simp only[zaQ,za1];omega
theorem qGj (es:List EdD) (v:Int) (i:Nat) (hl:es.length≤120):(qDB es v i).length≤1+240*i:=by
 induction i with
 | zero=>simp[qDB]
 | succ i ih=>
   have:=qIf es (qDB es v i)
   show(qET es (qDB es v i)).length≤_
   unfold qET;omega
def rsL (es:List EdD) (v:Int) (i k:Nat):List Int:=(es.take k).foldl qDI (qDB es v i)
theorem qMy (es:List EdD) (v:Int) (i k:Nat) (h:k<es.length):rsL es v i (k+1)=qDI (rsL es v i k) es[k]:=by
 unfold rsL;rw[zac h,zaz];rfl
theorem qOV (es:List EdD) (v:Int) (i k:Nat) (hl:es.length≤120) (hi:i≤121) (hk:k≤120):(rsL es v i k).length≤100000:=by
 have h1:=qGj es v i hl;have h2:=qIf (es.take k) (qDB es v i);have h3:(es.take k).length≤k:=zaC _ _;unfold rsL;omega
theorem qNp {o:List Int} {e:EdD} (h1:hasB o e.1=false) (h2:hasB o e.2.2=false):qDI o e=o:=by
 unfold qDI;rw[if_neg (qCJ h1),if_neg (qCJ h2)]
theorem qNA {o:List Int} {e:EdD} (h1:hasB o e.1=false) (h2:hasB o e.2.2=true):qDI o e=insF cmpI o e.1:=by
 unfold qDI;rw[if_neg (qCJ h1),if_pos (qAS.1 h2)]
theorem qOm {o:List Int} {e:EdD} (h1:hasB o e.1=true):qDI o e=insF cmpI (insF cmpI o e.2.2) e.1:=by
 unfold qDI;rw[if_pos (qAS.1 h1),if_pos (qDt.2 (.inl rfl))]
theorem qGG (v:Value) (g:GrD) (u:Int) (w:World) (h:ArgG w v g) (hg:grB g=true) (hu:inB u 0 (wrap64 (g.2.1-1))=true) (hu64:I64 u):
  Calls Tryz.prog 232 #[v, .int .i64 u] w fun e w'=> ∃r,e= .returned r∧OwI w' w.heap.size r (qBi g.2.2 u)∧Below w.heap.size w w':=by
 have HG:=qA h;obtain⟨_,aE,aK,_⟩:=qB hg;have fL:wrap64 (g.2.1-1)=g.2.1-1:=IntWalk.wrap64_in _ ⟨tO,tO⟩;rw[fL] at hu;clear fL;have HU:=qA hu64;clear hu64;obtain⟨s,rfl,_,_,ha⟩:=h;have H:=qA ha;obtain⟨A,cap,rfl,a6,hm,_,hr,_⟩:=ha;have HR:=qA hr;unfold maxLen at hm;have bx:Below w.heap.size w (w.alloc (.cells #[.int .i64 g.1,.int .i64 g.2.1, .slice A g.2.2.length cap] 26)):=(by repeat(first | exact .refl _ _ | (refine BxS ?_ _) | (refine qD ?_ _) | (refine zaj ?_) | (refine BxA ?_ _)));have Ki:(w.alloc (.cells #[.int .i64 g.1,.int .i64 g.2.1, .slice A g.2.2.length cap] 26)).cell? ⟨w.heap.size,1,none⟩=some (.int .i64 g.2.1):=by simp[go_sem]
 have kx:(w.alloc (.cells #[.int .i64 g.1,.int .i64 g.2.1, .slice A g.2.2.length cap] 26)).cell? ⟨w.heap.size,2,none⟩=some (.slice A g.2.2.length cap):=by simp[go_sem]
 have sx:w.heap.size<(w.alloc (.cells #[.int .i64 g.1,.int .i64 g.2.1, .slice A g.2.2.length cap] 26)).heap.size:=by simp
 have BX:=qA bx;have KX:=qA kx;have Nq:=qA Ki;clear bx kx Ki hr;go_enter Tryz.func232,Tryz.ntmps232
 go_wp2_with fail;have aY:=qq _ g _ (HG.out.below BX.out);rw[hg] at aY;have aH:=qA aY;clear aY;refine aH.out.mono ?_;rintro e w0 ⟨rfl,b1⟩;have B0:=qA (BX.out.trans (b1.mono BX.out.size));have k2:=(b1.cell (p:=⟨w.heap.size,2,none⟩) sx).trans KX.out;have k1:=(b1.cell (p:=⟨w.heap.size,1,none⟩) sx).trans Nq.out;have aP:w.heap.size<w0.heap.size:=by have:=b1.size;omega
 clear b1 sx aH;go_wp2_with fail;have bD:=ql u 0 (g.2.1-1) w0;rw[hu] at bD;have oC:=qA bD;clear bD;refine oC.out.mono ?_;rintro e w' ⟨rfl,rfl⟩;clear oC;go_wp2;have hb:Below w0.heap.size w0 (w0.alloc (.cells #[.int .i64 u] 3)):=(zab _ _).alloc (zaa _) _;have o0:OwI (w0.alloc (.cells #[.int .i64 u] 3)) w0.heap.size (.slice (some ⟨w0.heap.size,0,none⟩) 1 1) [u]:=qAE w0 [u] (fun x hx=>by simp at hx;subst hx;exact HU.out) (by simp) (zaa _);have aw:w0.heap.size<(w0.alloc (.cells #[.int .i64 u] 3)).heap.size:=by simp
 generalize w0.alloc (.cells #[.int .i64 u] 3)=w1 at hb o0 aw⊢;have HB:=qA (B0.out.trans (hb.mono B0.out.size));have K2:=qA ((hb.cell (p:=⟨w.heap.size,2,none⟩) aP).trans k2);have O0:=qA (o0.mono (base':=w.heap.size+1) tO);clear hb k1 k2 o0;go_loopw [5,6] (fun out i wo=> ∃k:Nat,k≤g.2.2.length+1∧i= .int .i64 k∧OwI wo (w.heap.size+1) out (qDB g.2.2 u k)∧Below (w.heap.size+1) w1 wo) (fun _ i _=>g.2.2.length+1-(intOf i).toNat)
 case atStart=>exact⟨0,zaf _,rfl,O0.out,zab _ _⟩
 case round=>
  obtain⟨k,hk,rfl,aa,ab⟩:=hrel;obtain⟨wo,rfl⟩: ∃wo:World,wo=wr:=⟨_,rfl⟩;have ay:=qA ab;have aC:=qA (HB.out.trans (ab.mono tO));have aq:=ab.size;have p2:=(ab.cell (p:=⟨w.heap.size,2,none⟩) (show w.heap.size<w.heap.size+1 by omega)).trans K2.out;have bm:w.heap.size<wo.heap.size:=tO;have fE:=qGj g.2.2 u k aK;have HO:=qA aa;obtain⟨A1,ah,rfl,_⟩:=aa.form;clear aa ab;by_cases ac:k<g.2.2.length+1
  ·have dh:(k:Int)<(g.2.2.length:Int)+1:=tO;go_wp2;go_loopw [5,7] (fun out j wr=> ∃m:Nat,m≤g.2.2.length∧j= .int .i64 m∧OwI wr (w.heap.size+1) out (rsL g.2.2 u k m)∧Below (w.heap.size+1) wo wr) (fun _ j _=>g.2.2.length-(intOf j).toNat)
   case atStart=>exact⟨0,zaf _,rfl,HO.out,zab _ _⟩
   case round=>
    obtain⟨m,dj,rfl,aa,aG⟩:=hrel;have si:=aG.size;have p2:=(aG.cell (p:=⟨w.heap.size,2,none⟩) (show w.heap.size<w.heap.size+1 by omega)).trans p2;have bK:=qA aG;have ch:=qA (aC.out.trans (aG.mono tO));have hZ:w.heap.size<wr.heap.size:=tO;have Dr:=qOV g.2.2 u k m aK tO tO;clear aG;by_cases al:m<g.2.2.length
    ·obtain⟨b,off,rfl,dv,c0,c1,c2,_⟩:=(H.out.below ch.out).at al;have HX:=qA (HR.out g.2.2[m] (by simp));have HS:=qA (qMy g.2.2 u k m al);generalize g.2.2[m]=e at*;generalize rsL g.2.2 u k m=o at*;have aM:=qA aa;obtain⟨A2,ak,rfl,_⟩:=aa.form;clear aa;go_wp2_with fail;obtain⟨W,hW⟩: ∃W,W=zaH wr (.cells #[.int .i64 e.1,.int .i64 e.2.1,.int .i64 e.2.2] 97):=⟨_,rfl⟩;rw[←hW];have bW:Below wr.heap.size wr W:=by rw[hW];exact(zab _ _).alloc (zaa _) _
     have sW:wr.heap.size<W.heap.size:=by rw[hW];simp
     have l0:W.cell? ⟨wr.heap.size,0,none⟩=some (.int .i64 e.1):=by rw[hW];simp[go_sem]
     have l2:W.cell? ⟨wr.heap.size,2,none⟩=some (.int .i64 e.2.2):=by rw[hW];simp[go_sem]
     have OW:=qA (aM.out.below bW);have BW:=qA (bK.out.trans (bW.mono tO));clear hW bW p2 c0 c1 c2;refine(qBt _ o e.1 _ OW.out.rd.arg tO).mono ?_
     rintro e' w' ⟨rfl,rfl⟩;rcases h1:hasB o e.1 with _ | _
     ·go_wp2_with fail;refine(qBt _ o e.2.2 _ OW.out.rd.arg tO).mono ?_
      rintro e' w' ⟨rfl,rfl⟩;rcases h2:hasB o e.2.2 with _ | _
      ·have F:=qA (qNp h1 h2);go_wp2;go_roundw
       case rel=>exact⟨m+1,tO,by go_num,by rw[HS.out,F.out];exact OW.out,BW.out⟩
       case measure=>simp[intOf];omega
      ·have F:=qA (qNA h1 h2);go_wp2_with fail;refine(qDO _ o e.1 _ OW.out.rd HX.out.1 tO).mono ?_
       rintro e' w2 ⟨r2,rfl,o2,b2⟩;have O2:=qA o2;have B2:=qA b2;obtain⟨A3,jw,rfl,_⟩:=o2.form;clear o2 b2;go_wp2;go_roundw
       case rel=>exact⟨m+1,tO,by go_num,by rw[HS.out,F.out];exact O2.out.mono tO,BW.out.trans (B2.out.mono tO)⟩
       case measure=>simp[intOf];omega
     ·have F:=qA (qOm h1);go_wp2_with fail;refine(qDO _ o e.2.2 _ OW.out.rd HX.out.2.2 tO).mono ?_
      rintro e' w2 ⟨r2,rfl,o2,b2⟩;have O2:=qA o2;have B2:=qA b2;have s2:=b2.size;have K3:=(b2.cell (p:=⟨wr.heap.size,0,none⟩) sW).trans l0;have pA:=(b2.cell (p:=⟨wr.heap.size,2,none⟩) sW).trans l2;obtain⟨A3,jw,rfl,_⟩:=o2.form;have xD:=qCM (c:=cmpI) o e.2.2;have fF:hasB (insF cmpI o e.2.2) e.2.2=true:=qAS.2 (qDt.2 (.inl rfl));have mX:=qA fF;clear o2 b2 l0 l2 fF;generalize insF cmpI o e.2.2=o1 at*;go_wp2_with fail;refine(qBt _ o1 e.2.2 _ O2.out.rd.arg tO).mono ?_
      rintro e' w' ⟨rfl,rfl⟩;rw[mX.out];go_wp2_with fail;refine(qDO _ o1 e.1 _ O2.out.rd HX.out.1 tO).mono ?_
      rintro e' w3 ⟨r3,rfl,o3,b3⟩;have O3:=qA o3;have B3:=qA b3;obtain⟨A4,Qa,rfl,_⟩:=o3.form;clear o3 b3;go_wp2;go_roundw
      case rel=>exact⟨m+1,tO,by go_num,by rw[HS.out,F.out];exact O3.out.mono tO,(BW.out.trans (B2.out.mono tO)).trans (B3.out.mono tO)⟩
      case measure=>simp[intOf];omega
    ·obtain rfl:m=g.2.2.length:=tO
     have F:Hid (rsL g.2.2 u k g.2.2.length=qDB g.2.2 u (k+1)):=qA (by unfold rsL;rw[zao];rfl);have aM:=qA aa;obtain⟨A2,ak,rfl,_⟩:=aa.form;clear aa;go_wp2;go_roundw
     case rel=>exact⟨k+1,tO,by go_num,by rw[←F.out];exact aM.out,ay.out.trans bK.out⟩
     case measure=>simp[intOf];omega
  ·obtain rfl:k=g.2.2.length+1:=tO
   have Pf: ¬((g.2.2.length:Int)+1<(g.2.2.length:Int)+1):=tO;go_wp2;go_ret;exact⟨_,rfl,HO.out.mono tO,aC.out⟩
theorem qNY {v x y y':Int} {e e':EdD} (h:mt v x e=some y) (h':mt v x e'=some y'):qBN e e'=true:=by
 unfold mt at h h';by_cases hp:0<x
 ·rw[if_pos hp] at h h';split at h
  ·rename_i a
   split at h'
   ·rename_i b
    unfold qBN;simp[a.1,a.2,b.1,b.2]
   ·cases h'
  ·cases h
 ·rw[if_neg hp] at h h';by_cases hn:x<0
  ·rw[if_pos hn] at h h';split at h
   ·rename_i a
    split at h'
    ·rename_i b
     unfold qBN;simp[a.1,a.2,b.1,b.2]
    ·cases h'
   ·cases h
  ·rw[if_neg hn] at h;cases h
theorem qp {es:List EdD} (h:Fol es) (v x:Int):(qv es v x).length≤1:=by
 unfold qv;unfold Fol at h;induction es with
 | nil=>simp
 | cons e es ih=>
   have p:=List.pairwise_cons.1 h;rw[List.filterMap_cons];cases hm:mt v x e with
   | none=>exact ih p.2
   | some y=>
     have:es.filterMap (mt v x)= []:=by
      rw[List.filterMap_eq_nil_iff];intro e' he';cases mj:mt v x e' with
      | none=>rfl
      | some y'=>
        have:=qNY hm mj
        rw[p.1 e' he'] at this;cases this
     simp[this]
theorem qI {g:GrD} (h:grB g=true) {e:EdD} (he:e∈g.2.2):(0≤e.1∧e.1<g.2.1)∧(1≤e.2.1∧e.2.1≤g.1)∧(0≤e.2.2∧e.2.2<g.2.1):=by
 obtain⟨h1,h2,_,h4⟩:=qB h;obtain⟨k,hk,rfl⟩:=List.getElem_of_mem he;have:=h4 k hk
 have ho:qAa g.1 g.2.1 g.2.2[k]=true:=by
  rcases Nat.eq_zero_or_pos k with rfl | h0
  ·rw[qFo hk] at this;exact this
  ·rw[qGQ h0 hk,zad] at this;exact this.1
 unfold qAa at ho;rw[IntWalk.wrap64_in (g.2.1-1) ⟨tO,tO⟩] at ho;simp only[zad,qAC] at ho;omega
theorem qO {g:GrD} (h:grB g=true) (v x:Int):qF g.2.2 v x= -1∨(0≤qF g.2.2 v x∧qF g.2.2 v x<g.2.1):=by
 unfold qF qv;cases hs:g.2.2.filterMap (mt v x) with
 | nil=>exact .inl rfl
 | cons y l=>
   right
   have hy:y∈g.2.2.filterMap (mt v x):=by rw[hs];simp
   obtain⟨e,he,hm⟩:=zav.1 hy;obtain⟨a,_,b⟩:=qI h he;show 0≤y∧y<g.2.1
   unfold mt at hm;split at hm
   ·split at hm
    ·injection hm with hm;subst hm;exact b
    ·cases hm
   ·split at hm
    ·split at hm
     ·injection hm with hm;subst hm;exact a
     ·cases hm
    ·cases hm
theorem qAn {g:GrD} (h:grB g=true): ∀e∈g.2.2,1≤e.2.1:=fun _ he=>(qI h he).2.1.1
def qW (es:List EdD) (u:Int) (o:List Int) (x:Int):List Int:=
 if 0≤qF es u x then(if hasB o (qF es u x) then o else o++ [qF es u x]) else o
def canF (es:List EdD) (ls:List Int):Nat→Nat→List Int→List Int
 | 0,_,o=>o
 | f+1,i,o=>match o[i]? with
   | none=>o
   | some u=>canF es ls f (i+1) (ls.foldl (qW es u) o)
def canO (g:GrD):List Int:=canF g.2.2 (qG g.1.toNat) 41 0 [0]
def qAB (n:Int) (o:List Int):Prop:=o.Nodup∧(∀y∈o,0≤y∧y<n)∧o[0]? =some 0
theorem qAc: ∀(n:Nat) (o:List Int),o.Nodup→(∀y∈o,0≤y∧y<n)→o.length≤n
 | 0,[],_,_=>zaa _
 | 0,y::o,_,h=>by have:=h y (by simp);omega
 | n+1,o,hd,h=>by
   by_cases hm:(n:Int)∈o
   ·have h1:=List.length_erase_of_mem hm;have h2:=qAc n (o.erase n) (hd.erase _) fun y hy=>by
     have Cf:=(hd.mem_erase_iff).1 hy;have:=h y Cf.2
     have:y≠(n:Int):=Cf.1
     omega
    have:0<o.length:=List.length_pos_of_mem hm
    omega
   ·have:=qAc n o hd fun y hy=>by
     have:=h y hy
     have:y≠(n:Int):=fun e=>hm (e▸hy)
     omega
    omega
def OrdN (n:Int) (o:List Int):Prop:=o.Nodup∧(∀y∈o,0≤y∧y<n)∧1≤o.length
theorem qAB.toN {n:Int} {o:List Int} (h:qAB n o):OrdN n o:=by
 refine⟨h.1,h.2.1,?_⟩;have:=h.2.2
 cases o with
 | nil=>cases this
 | cons _ _=>simp
theorem qAB.len {n:Int} {o:List Int} (h:qAB n o) (hn:n≤40) (kF:0≤n):o.length≤40:=by
 have:=qAc n.toNat o h.1 fun y hy=>by have:=h.2.1 y hy;omega
 omega
theorem qHs {g:GrD} (hg:grB g=true) {u:Int} {o:List Int} (x:Int) (h:qAB g.2.1 o):qAB g.2.1 (qW g.2.2 u o x):=by
 unfold qW;split
 ·rename_i h0
  split
  ·exact h
  ·rename_i hb
   have aJ:qF g.2.2 u x∉o:=qCJ (by simpa using hb);refine⟨List.nodup_append.2 ⟨h.1,by simp,fun a ha b hb e=> ?_⟩,fun y hy=> ?_,?_⟩
   ·simp at hb
    subst hb e;exact aJ ha
   ·rcases zaD.1 hy with hy | hy
    ·exact h.2.1 y hy
    ·simp at hy
     subst hy;rcases qO hg u x with e | e
     ·omega
     ·exact e
   ·have:0<o.length:=by
     have:=h.2.2
     cases o with
     | nil=>cases this
     | cons _ _=>simp
    rw[zaF this];exact h.2.2
 ·exact h
theorem qHW {g:GrD} (hg:grB g=true) {u:Int} (ls:List Int) {o:List Int} (h:qAB g.2.1 o):qAB g.2.1 (ls.foldl (qW g.2.2 u) o):=by
 induction ls generalizing o with
 | nil=>exact h
 | cons x ls ih=>exact ih (qHs hg x h)
theorem qr (es:List EdD) (u:Int) (ls:List Int) (o:List Int) (i:Nat) (y:Int) (h:o[i]? =some y):(ls.foldl (qW es u) o)[i]? =some y:=by
 induction ls generalizing o with
 | nil=>exact h
 | cons x ls ih=>
   refine ih _ ?_;unfold qW;split
   ·split
    ·exact h
    ·rw[zaF (zai.1 h).1];exact h
   ·exact h
theorem qBm (es:List EdD) (u:Int) (ls o:List Int) (k:Nat) (h:k<ls.length):(ls.take (k+1)).foldl (qW es u) o=qW es u ((ls.take k).foldl (qW es u) o) ls[k]:=by
 rw[zac h,zaz];rfl
theorem qAB.one {n:Int} (h:1≤n):qAB n [0]:=⟨by simp,fun y hy=>by simp at hy;omega,rfl⟩
theorem qCx (es:List EdD) (ls:List Int) (f:Nat) (o:List Int):canF es ls f o.length o=o:=by
 cases f with
 | zero=>rfl
 | succ f=>unfold canF;rw[List.getElem?_eq_none (zaa _)]
theorem qBd (es:List EdD) (ls:List Int) (f i:Nat) (o:List Int) (h:i<o.length):canF es ls (f+1) i o=canF es ls f (i+1) (ls.foldl (qW es o[i]) o):=by
 rw[canF,zaO h]
theorem qOu {g:GrD} (hg:grB g=true) (ls:List Int) (f i:Nat) {o:List Int} (h:qAB g.2.1 o):qAB g.2.1 (canF g.2.2 ls f i o):=by
 induction f generalizing i o with
 | zero=>exact h
 | succ f ih=>
   unfold canF;split
   ·exact h
   ·exact ih _ (qHW hg ls h)
theorem qc {g:GrD} (hg:grB g=true):qAB g.2.1 (canO g):=qOu hg _ _ _ (qAB.one (qB hg).2.1.1)
theorem qX {r:Nat} {x:Int}:x∈qG r↔(1≤x∧x≤r)∨(-(r:Int)≤x∧x≤ -1):=by
 induction r with
 | zero=>simp[qG];omega
 | succ n ih=>
   unfold qG;rw[zaD,ih];simp
   omega
theorem qBb {es:List EdD} {v x:Int} (h:0≤qF es v x): ∃e∈es,mt v x e=some (qF es v x):=by
 unfold qF at*;cases hs:qv es v x with
 | nil=>rw[hs] at h;simp at h
 | cons y l=>
   have hy:y∈qv es v x:=by rw[hs];simp
   unfold qv at hy;obtain⟨e,he,hm⟩:=zav.1 hy;exact⟨e,he,by simpa using hm⟩
theorem qFr {es:List EdD} (hf:Fol es) {v x y:Int} {e:EdD} (he:e∈es) (hm:mt v x e=some y):qF es v x=y:=by
 have hy:y∈qv es v x:=zav.2 ⟨e,he,hm⟩;have h1:=qp hf v x;unfold qF;cases hs:qv es v x with
 | nil=>rw[hs] at hy;simp at hy
 | cons z l=>
   rw[hs] at h1 hy;have:l= []:=by simpa using h1
   subst this;simp at hy
   simp[hy]
theorem qAA {g:GrD} (hg:grB g=true) (hf:Fol g.2.2) {v x:Int} (hx: -3≤x∧x≤3) (h:0≤qF g.2.2 v x):qF g.2.2 (qF g.2.2 v x) (-x)=v:=by
 obtain⟨e,he,hm⟩:=qBb h;refine qFr hf he ?_;generalize qF g.2.2 v x=y at*;have fL:wrap64 (-x)= -x:=IntWalk.wrap64_in _ ⟨tO,tO⟩;have pD:wrap64 (- -x)=x:=by rw[za0];exact IntWalk.wrap64_in _ ⟨tO,tO⟩
 unfold mt at hm⊢;by_cases hp:0<x
 ·rw[if_pos hp] at hm;split at hm
  ·rename_i a
   injection hm with hm
   rw[if_neg tO,if_pos tO,pD,if_pos ⟨a.1,hm⟩,a.2]
  ·cases hm
 ·rw[if_neg hp] at hm;by_cases hn:x<0
  ·rw[if_pos hn,fL] at hm;split at hm
   ·rename_i a
    injection hm with hm
    rw[if_pos tO,if_pos ⟨a.1,hm⟩,a.2]
   ·cases hm
  ·rw[if_neg hn] at hm;cases hm
def qY (es:List EdD):Int→List Int→Int
 | v,[]=>v
 | v,x::w=>if qF es v x<0 then-1 else qY es (qF es v x) w
theorem qKr (es:List EdD) (v:Int) (w:List Int) (k:Nat) (h:k<w.length):qY es v (w.drop k)=if qF es v w[k]<0 then-1 else qY es (qF es v w[k]) (w.drop (k+1)):=by
 rw[zaM h];rfl
theorem qBF {g:GrD} (hg:grB g=true): ∀(w:List Int) (v:Int),0≤v∧v<g.2.1→qY g.2.2 v w= -1∨(0≤qY g.2.2 v w∧qY g.2.2 v w<g.2.1)
 | [],v,hv=> .inr hv
 | x::w,v,hv=>by
   unfold qY;rcases qO hg v x with h | h
   ·rw[if_pos tO];exact .inl rfl
   ·rw[if_neg tO];exact qBF hg w _ h
theorem qJE (v vw:Value) (g:GrD) (u:Int) (ws:List Int) (w:World) (h:ArgG w v g) (hw:RdI w vw ws) (hf:qb g=true) (hu:0≤u∧u<g.2.1):
  Calls Tryz.prog 83 #[v, .int .i64 u,vw] w fun e w'=>e= .returned (.tuple #[.int .i64 (qY g.2.2 u ws), .bool (decide (0≤qY g.2.2 u ws))])∧Below w.heap.size w w':=by
 have HG:=qA h;have HW:=qA hw;have HF:=qA hf;obtain⟨hg,bO⟩:=qE hf;have ONE:=qA (qp bO);obtain⟨bn,aE,aK,_⟩:=qB hg;have NV:Hid (∀v x,qF g.2.2 v x= -1∨(0≤qF g.2.2 v x∧qF g.2.2 v x<g.2.1)):=qA fun v x=>qO hg v x;have bD:inB u 0 (wrap64 (g.2.1-1))=true:=by
  rw[IntWalk.wrap64_in _ ⟨tO,tO⟩];exact qAC.2 ⟨hu.1,tO⟩
 have gr:IntKind.i64.wrap (g.2.1-1)=g.2.1-1:=by rw[IntKind.wrap_i64];omega
 have Ca:inB u 0 (g.2.1-1)=true:=qAC.2 ⟨hu.1,tO⟩;have oC:=qA bD;have Hd:=qA Ca;obtain⟨s,rfl,aT,aS,ha⟩:=h;obtain⟨A,cap,rfl⟩:=ha.form;obtain⟨Aw,capw,rfl,oS,Gp,_⟩:=hw.arg;unfold maxLen at Gp;clear hf hg bO ha hw bD Ca;have HR:Hid (qY g.2.2 u ws=qY g.2.2 u (ws.drop 0)):=qA (by rw[List.drop_zero]);generalize qY g.2.2 u ws=R at*;go_enter Tryz.func83,Tryz.ntmps83
 go_wp2_with fail;have bx:Below w.heap.size w (w.alloc (.cells #[.int .i64 g.1,.int .i64 g.2.1, .slice A g.2.2.length cap] 26)):=(by repeat(first | exact .refl _ _ | (refine BxS ?_ _) | (refine qD ?_ _) | (refine zaj ?_) | (refine BxA ?_ _)));have l0:(w.alloc (.cells #[.int .i64 g.1,.int .i64 g.2.1, .slice A g.2.2.length cap] 26)).cell? ⟨w.heap.size,0,none⟩=some (.int .i64 g.1):=by simp[go_sem]
 have l1:(w.alloc (.cells #[.int .i64 g.1,.int .i64 g.2.1, .slice A g.2.2.length cap] 26)).cell? ⟨w.heap.size,1,none⟩=some (.int .i64 g.2.1):=by simp[go_sem]
 have l2:(w.alloc (.cells #[.int .i64 g.1,.int .i64 g.2.1, .slice A g.2.2.length cap] 26)).cell? ⟨w.heap.size,2,none⟩=some (.slice A g.2.2.length cap):=by simp[go_sem]
 have sA:w.heap.size<(w.alloc (.cells #[.int .i64 g.1,.int .i64 g.2.1, .slice A g.2.2.length cap] 26)).heap.size:=by simp
 generalize w.alloc (.cells #[.int .i64 g.1,.int .i64 g.2.1, .slice A g.2.2.length cap] 26)=W at bx l0 l1 l2 sA⊢;have BX:=qA bx;have HA:Hid (∀w',Below W.heap.size W w'→ArgG w' (.agg #[.int .i64 g.1, .int .i64 g.2.1, .slice A g.2.2.length cap]) g):=qA fun w' hb=>HG.out.below (BX.out.trans (hb.mono tO));have fg:=qAI _ g W (HA.out _ (zab _ _));rw[HF.out] at fg;have jt:=qA fg;clear bx fg;refine jt.out.mono ?_;rintro e w1 ⟨rfl,b1⟩;have q0:=(b1.cell (p:=⟨w.heap.size,0,none⟩) sA).trans l0;have q1:=(b1.cell (p:=⟨w.heap.size,1,none⟩) sA).trans l1;have q2:=(b1.cell (p:=⟨w.heap.size,2,none⟩) sA).trans l2;have BW:=qA b1;have L0:=qA l0;have L1:=qA l1;have L2:=qA l2;clear b1 jt l0 l1 l2;go_wp2_with fail;refine(ql _ _ _ _).mono ?_
 rintro e w2 ⟨rfl,rfl⟩;simp only[Hd.out];go_wp2;go_loopw [1,8] (fun a i wr=> ∃(k:Nat) (u':Int),k≤ws.length∧i= .int .i64 k∧a= .int .i64 u'∧(0≤u'∧u'<g.2.1)∧R=qY g.2.2 u' (ws.drop k)∧Below W.heap.size W wr) (fun _ i _=>ws.length-(intOf i).toNat)
 case atStart=>exact⟨0,u,zaf _,rfl,rfl,hu,HR.out,BW.out⟩
 case round=>
  obtain⟨k,u',hk,rfl,rfl,tp,hR,ab⟩:=hrel;have HB:=qA ab;have uG:=qA hR;have hs:=ab.size;have q0:=(ab.cell (p:=⟨w.heap.size,0,none⟩) sA).trans L0.out;have q1:=(ab.cell (p:=⟨w.heap.size,1,none⟩) sA).trans L1.out;have q2:=(ab.cell (p:=⟨w.heap.size,2,none⟩) sA).trans L2.out;have hZ:w.heap.size<wr.heap.size:=tO;by_cases ac:k<ws.length
  ·have DD:=qA (HW.out.below (BX.out.trans (ab.mono tO)));obtain⟨bw,offw,rfl,eX,n5⟩:=DD.out.at tO;have c0:=n5 k ac;have ST:=qA (qKr g.2.2 u' ws k ac);generalize ws[k]=x at c0 ST;have NX:=qA (NV.out u' x);have cS:=qA (fun W' (h:ArgG W' (.agg #[.int .i64 g.1, .int .i64 g.2.1, .slice A g.2.2.length cap]) g)=>qU _ g u' x W' h (ONE.out u' x));clear ab hR n5;go_wp2_with fail;have f0:=BelW.cell q0 hZ;have f1:=BelW.cell q1 hZ;have f2:=BelW.cell q2 hZ;have f3:=BelW.cell c0 eX;(refine qH tK tK ?_;(repeat(go_big_quiet_step (first | (go_at_call 86;exact Calls.bel_of (cS.out _ (HA.out _ (HB.out.trans ((BelW.h _).mono tO))))))));refine wpQuiet_nil ?_;intro wq aA;obtain⟨pq,ae⟩:=aA;have bq:=pq.h;rw[←ae] at bq;clear ae pq)
   clear f0 f1 f2 f3 q0 q1 q2 c0;have HQ:=qA (HB.out.trans (bq.mono tO));have sq:=bq.size;clear bq;generalize qF g.2.2 u' x=y at*;rcases NX.out with hy | hy
   ·subst hy;have F:Hid (R= -1):=qA (by rw[uG.out,ST.out];rfl);go_wp2;exact bodyPost_ret (v:= .tuple #[.int .i64 (-1), .bool false]) (by simp[results,Tryz.results83]) rfl ⟨by rw[F.out];rfl,BX.out.trans (HQ.out.mono tO)⟩
   ·have ic: ¬y<0:=tO;have F:Hid (R=qY g.2.2 y (ws.drop (k+1))):=qA (by rw[uG.out,ST.out,if_neg ic]);go_wp2;go_roundw
    case rel=>exact⟨k+1,y,tO,by go_num,rfl,hy,F.out,HQ.out⟩
    case measure=>simp[intOf];omega
  ·obtain rfl:k=ws.length:=tO
   have F:Hid (R=u'):=qA (by rw[uG.out,List.drop_length];rfl);have hd:Hid (decide (0≤u')=true):=qA (by simp[tp.1]);clear ab hR;go_wp2;exact bodyPost_ret (v:= .tuple #[.int .i64 u', .bool true]) (by simp[results,Tryz.results83]) rfl ⟨by rw[F.out,hd.out],BX.out.trans (HB.out.mono tO)⟩
def okAt (r:Int) (xs:List Int) (i:Nat):Bool:=letB r (xs.getD i 0)&& !(decide (0<i)&&invB (xs.getD (i-1) 0) (xs.getD i 0))
def qAi (r:Int) (xs:List Int):Bool:=inB r 1 3&&decide (xs.length≤24)&&(zam xs.length).all (okAt r xs)
theorem qGu {r:Int} {xs:List Int} (h1:inB r 1 3=true) (h2:xs.length≤24) (h: ∀i,i<xs.length→okAt r xs i=true):qAi r xs=true:=by
 unfold qAi;rw[h1];simp[h2]
 exact h
theorem qCE {r:Int} {xs:List Int} (i:Nat) (hi:i<xs.length) (h:inB r 1 3=true→okAt r xs i=false):qAi r xs=false:=by
 unfold qAi;rcases h1:inB r 1 3 with _ | _
 ·rfl
 ·have h2:=h h1;simp
  intro _;exact⟨i,hi,h2⟩
theorem qKt {r:Int} {xs:List Int} (h:qAi r xs=true):1≤r∧r≤3:=by
 unfold qAi at h;simp only[zad] at h;exact qAC.1 h.1.1
theorem qIz {r:Int} {xs:List Int} (h:qAi r xs=true):xs.length≤24:=by
 unfold qAi at h;simp only[zad,decide_eq_true_eq] at h;exact h.1.2
theorem qNT {r:Int} {xs:List Int} (h:qAi r xs=true) (i:Nat) (hi:i<xs.length):okAt r xs i=true:=by
 unfold qAi at h;simp only[zad,zat,zar] at h;exact h.2 i hi
theorem qId {r:Int} {xs:List Int} (h:qAi r xs=true) (i:Nat) (hi:i<xs.length):xs[i]≠0∧ -r≤xs[i]∧xs[i]≤r:=by
 have h1:=qNT h i hi;unfold okAt at h1;simp only[zad] at h1;have h2:=h1.1;rw[qKD (qAC.2 (qKt h))] at h2;simpa[zaw,hi] using h2
theorem qMi {r:Int} {xs:List Int} (h:0<xs.length):okAt r xs 0=letB r xs[0]:=by
 simp[okAt,zaw,h]
theorem qNR {r:Int} {xs:List Int} {k:Nat} (h0:0<k) (h:k<xs.length):okAt r xs k=(letB r xs[k]&& !invB xs[k-1] xs[k]):=by
 have:k-1<xs.length:=tO
 simp[okAt,zaw,h,h0,this]
theorem qKd {a b:Int} (ha:a≠0) (h1: -3≤a) (h2:a≤3):invB a b=(b==wrap64 (-a)):=by
 have:wrap64 (-a)= -a:=IntWalk.wrap64_in _ ⟨tO,tO⟩
 rw[this];unfold invB;rw[zaI];simp
 omega
theorem qBZ (r:Int) (v:Value) (xs:List Int) (w:World) (h:ArgI w v xs) (hl:xs.length≤1073741824):
  Calls Tryz.prog 128 #[.int .i64 r,v] w fun e w'=>e= .returned (.bool (qAi r xs))∧ ∃n,w'=w.drewN n:=by
 obtain⟨A,cap,rfl,a6,hm,hr,hb⟩:=h;have HR:=qA hr;have HB:=qA hb;clear hr hb;go_enter Tryz.func128,Tryz.ntmps128
 go_wp2;go_loopw [5] (fun i wr=> ∃k:Nat,k≤xs.length∧i= .int .i64 k∧(inB r 1 3=true→ ∀j,j<k→okAt r xs j=true)∧ ∃n,wr=w.drewN n) (fun i _=>xs.length-(intOf i).toNat)
 case atStart=>exact⟨0,zaf _,rfl,fun _ j hj=>absurd hj tO,0,rfl⟩
 case round=>
  obtain⟨k,hk,rfl,af,n,rfl⟩:=hrel;have dD:=qA af;clear af;by_cases ac:k<xs.length
  ·obtain⟨b,off,rfl,hc⟩:=HB.out tO;have aF:=hc k ac;by_cases h0:0<k
   ·have nD:=hc (k-1) tO;have HZ:=qA (qNR (r:=r) h0 ac);have HP:Hid (inB r 1 3=true→xs[k-1]≠0∧ -3≤xs[k-1]∧xs[k-1]≤3):=fun dX=>by
     have h1:=dD.out dX (k-1) tO;unfold okAt at h1;simp only[zad] at h1;have h2:=h1.1;rw[qKD dX] at h2;have h3:=qAC.1 dX;have h4:xs.getD (k-1) 0=xs[k-1]:=by simp[zaw,show k-1<xs.length by omega]
     rw[h4] at h2;omega
    have xg:decide ((0:Int)<(k:Int))=true:=by simp;omega
    clear hc;generalize xs[k-1]=y at nD HZ HP;generalize hx:xs[k]=x at aF HZ;clear hx;have key:Hid (∀(b:Bool),(letB r x&& !(x==wrap64 (-y)))=b→inB r 1 3=true→okAt r xs k=b):=fun b hb dX=>by
     rw[HZ.out,qKd (HP.out dX).1 (HP.out dX).2.1 (HP.out dX).2.2];exact hb
    rcases e1:(x==0) with _ | _
    ·have gh:(x != 0)=true:=by simpa using e1
     rcases e2:inB x (wrap64 (-r)) r with _ | _
     ·have F:=qA (key.out false (by unfold letB;rw[gh,e2];rfl));clear gh;go_wp2;go_quiet ((go_at_call 138;first | exact quiet_left (ql _ _ _ _) | exact qAy (ql _ _ _ _)))
      go_wp2;go_ret;exact⟨qM (qCE k ac F.out).symm,_,zaA _ _ _⟩
     ·rcases e3:(x==wrap64 (-y)) with _ | _
      ·have F:=qA (key.out true (by unfold letB;rw[gh,e2,e3];rfl));clear gh;go_wp2;go_quiet ((go_at_call 138;first | exact quiet_left (ql _ _ _ _) | exact qAy (ql _ _ _ _)))
       go_wp2;go_roundw
       case rel=>exact⟨k+1,tO,by go_num,fun dX j hj=>by
        rcases zal (zan hj) with hj | rfl
        ·exact dD.out dX j hj
        ·exact F.out dX,_,rfl⟩
       case measure=>simp[intOf];omega
      ·have F:=qA (key.out false (by rw[e3];simp));clear gh;go_wp2;go_quiet ((go_at_call 138;first | exact quiet_left (ql _ _ _ _) | exact qAy (ql _ _ _ _)))
       go_wp2;go_ret;exact⟨qM (qCE k ac F.out).symm,_,zaA _ _ _⟩
    ·have gh:(x != 0)=false:=by simpa using e1
     have F:=qA (key.out false (by unfold letB;rw[gh];rfl));clear gh;go_wp2;go_quiet (fail)
     go_wp2;go_ret;exact⟨qM (qCE k ac F.out).symm,_,zaA _ _ _⟩
   ·obtain rfl:k=0:=tO
    rw[zaq] at aF;have HZ:=qA (qMi (r:=r) ac);clear hc;generalize hx:xs[0]=x at aF HZ;clear hx;rcases e1:(x==0) with _ | _
    ·have gh:(x != 0)=true:=by simpa using e1
     rcases e2:inB x (wrap64 (-r)) r with _ | _
     ·have F:Hid (okAt r xs 0=false):=qA (by rw[HZ.out];unfold letB;rw[e2,za6]);clear gh;go_wp2;go_quiet ((go_at_call 138;first | exact quiet_left (ql _ _ _ _) | exact qAy (ql _ _ _ _)))
      go_wp2;go_ret;exact⟨qM (qCE 0 ac fun _=>F.out).symm,_,zaA _ _ _⟩
     ·have F:Hid (okAt r xs 0=true):=qA (by rw[HZ.out];unfold letB;rw[gh,e2];rfl);clear gh;go_wp2;go_quiet ((go_at_call 138;first | exact quiet_left (ql _ _ _ _) | exact qAy (ql _ _ _ _)))
      go_wp2;go_roundw
      case rel=>exact⟨1,tO,by go_num,fun dX j hj=>by
       obtain rfl:j=0:=tO
       exact F.out,_,rfl⟩
      case measure=>simp[intOf];omega
    ·have gh:(x != 0)=false:=by simpa using e1
     have F:Hid (okAt r xs 0=false):=qA (by rw[HZ.out];unfold letB;rw[gh];rfl);clear gh;go_wp2;go_quiet (fail)
     go_wp2;go_ret;exact⟨qM (qCE 0 ac fun _=>F.out).symm,_,zaA _ _ _⟩
  ·obtain rfl:k=xs.length:=tO
   rcases e1:inB r 1 3 with _ | _
   ·have F:Hid (qAi r xs=false):=qA (by unfold qAi;rw[e1];rfl);go_wp2_with (go_at_call 138;refine(ql _ _ _ _).mono ?_;rintro e w' ⟨rfl,rfl⟩)
    go_ret;exact⟨qM F.out.symm,n,rfl⟩
   ·by_cases h24:xs.length≤24
    ·have F:=qA (qGu e1 h24 (dD.out e1));go_wp2_with (go_at_call 138;refine(ql _ _ _ _).mono ?_;rintro e w' ⟨rfl,rfl⟩)
     go_ret;exact⟨qM (by rw[F.out];simp;omega),n,rfl⟩
    ·have F:Hid (qAi r xs=false):=qA (by unfold qAi;rw[decide_eq_false h24];simp);go_wp2_with (go_at_call 138;refine(ql _ _ _ _).mono ?_;rintro e w' ⟨rfl,rfl⟩)
     go_ret;exact⟨qM (by rw[F.out];simp;omega),n,rfl⟩
def Ow3 (lo:Nat) (w:World) (v1:Value) (L1:List (List Int)) (v2:Value) (L2:List (List Int)) (v3:Value) (L3:List (List Int)):Prop:=
 ∃F1 F2 F3,OwLf EI 37 1 w v1 L1 F1∧OwLf EI 37 1 w v2 L2 F2∧OwLf EI 37 1 w v3 L3 F3∧(F1++(F2++F3)).Nodup∧ ∀b∈F1++(F2++F3),lo≤b∧b<w.heap.size
section
variable {lo:Nat} {w w' w0:World} {v1 v2 v3:Value} {L1 L2 L3:List (List Int)}
end
theorem qFV (n:Int) (w:World) (hn:I64 n):
  Calls Tryz.prog 264 #[.int .i64 n] w fun x w'=>x= .returned (.tuple #[if inB n 1 3=true then .agg #[.int .i64 n, .int .i64 1, .slice none 0 0] else .agg #[.int .i64 0, .int .i64 0, .slice none 0 0], .bool (inB n 1 3)])∧Below w.heap.size w w':=by
 rcases e1:inB n 1 3 with _ | _
 ·go_enter Tryz.func264,Tryz.ntmps264
  go_wp2_with (go_at_call 138;refine(ql _ _ _ _).mono ?_;rintro e w' ⟨rfl,rfl⟩)
  exact bodyPost_ret (v:= .tuple #[.agg #[.int .i64 0, .int .i64 0, .slice none 0 0], .bool false]) (by simp[results,Tryz.results264,go_sem]) rfl ⟨rfl,(by repeat(first | exact .refl _ _ | (refine BxS ?_ _) | (refine qD ?_ _) | (refine zaj ?_) | (refine BxA ?_ _)))⟩
 ·go_enter Tryz.func264,Tryz.ntmps264
  go_wp2_with (go_at_call 138;refine(ql _ _ _ _).mono ?_;rintro e w' ⟨rfl,rfl⟩)
  exact bodyPost_ret (v:= .tuple #[.agg #[.int .i64 n, .int .i64 1, .slice none 0 0], .bool true]) (by simp[results,Tryz.results264,go_sem]) rfl ⟨rfl,(by repeat(first | exact .refl _ _ | (refine BxS ?_ _) | (refine qD ?_ _) | (refine zaj ?_) | (refine BxA ?_ _)))⟩
theorem qGC (v:Value) (g:GrD) (e:EdD) (w:World) (h:ArgG w v g) (he:E64 e) (hg:grB g=true) (af:qAa g.1 g.2.1 e=true) (hl:g.2.2.length<120):
  Calls Tryz.prog 239 #[v,edV e] w fun x w'=> ∃r,x= .returned (.tuple #[r, .bool (decide (g.2.2.length<(insF cmpE g.2.2 e).length))])∧OwG w' w.heap.size r (g.1,g.2.1,insF cmpE g.2.2 e)∧Below w.heap.size w w':=by
 have HG:=qA h;obtain⟨r,n,es⟩:=g;have aH:=qA hg;have dD:=qA af;have bR:=qA he;simp only at hl
 obtain⟨A,cap,rfl,HE⟩: ∃A cap,v= .agg #[.int .i64 r, .int .i64 n, .slice A es.length cap]∧Hid (ArgE w (.slice A es.length cap) es):=by
  obtain⟨s,hv,_,_,ha⟩:=HG.out;obtain⟨A,cap,rfl⟩:=ha.form;exact⟨A,cap,hv,qA ha⟩
 obtain⟨e1,e2,e3⟩:=e;clear h hg af he;have bx:Below w.heap.size w (((w.alloc (.cells #[.int .i64 r,.int .i64 n, .slice A es.length cap] 26)).alloc (.cells #[.int .i64 e1, .int .i64 e2, .int .i64 e3] 97)).alloc (.cells #[.int .i64 0,.int .i64 0, .slice none 0 0] 26)):=(by repeat(first | exact .refl _ _ | (refine BxS ?_ _) | (refine qD ?_ _) | (refine zaj ?_) | (refine BxA ?_ _)));unfold edV;go_enter Tryz.func239,Tryz.ntmps239
 go_wp2_with fail;obtain⟨W0,am⟩: ∃W,W=(((w.alloc (.cells #[.int .i64 r,.int .i64 n, .slice A es.length cap] 26)).alloc (.cells #[.int .i64 e1, .int .i64 e2, .int .i64 e3] 97)).alloc (.cells #[.int .i64 0,.int .i64 0, .slice none 0 0] 26)):=⟨_,rfl⟩;rw[←am] at bx⊢;have aW:W0.heap.size=w.heap.size+3:=by rw[am];simp
 have P0:Hid (W0.cell? ⟨w.heap.size,0,none⟩=some (.int .i64 r)):=qA (by rw[am];simp[go_sem]);have P1:Hid (W0.cell? ⟨w.heap.size,1,none⟩=some (.int .i64 n)):=qA (by rw[am];simp[go_sem]);have P2:Hid (W0.cell? ⟨w.heap.size,2,none⟩=some (.slice A es.length cap)):=qA (by rw[am];simp[go_sem]);have E0:Hid (W0.cell? ⟨w.heap.size+1,0,none⟩=some (.int .i64 e1)):=qA (by rw[am];simp[go_sem]);have E1:Hid (W0.cell? ⟨w.heap.size+1,1,none⟩=some (.int .i64 e2)):=qA (by rw[am];simp[go_sem]);have E2:Hid (W0.cell? ⟨w.heap.size+1,2,none⟩=some (.int .i64 e3)):=qA (by rw[am];simp[go_sem]);have R0:Hid (∃u,W0.cell? ⟨w.heap.size+2,0,none⟩=some u):=qA ⟨.int .i64 0,by rw[am];simp[go_sem]⟩;have R1:Hid (∃u,W0.cell? ⟨w.heap.size+2,1,none⟩=some u):=qA ⟨.int .i64 0,by rw[am];simp[go_sem]⟩;have R2:Hid (∃u,W0.cell? ⟨w.heap.size+2,2,none⟩=some u):=qA ⟨.slice none 0 0,by rw[am];simp[go_sem]⟩;have RF:Hid (∀j,W0.frozen? ⟨w.heap.size+2,j,none⟩=false):=qA fun j=>by rw[am];simp[go_sem]
 clear am;have BX:=qA bx;have zJ:=qA (qBV _ (r,n,es) W0 (HG.out.below bx) (show es.length≤1073741824 by omega));clear bx;refine zJ.out.mono ?_;rintro x w1 ⟨r1,rfl,o1,b1⟩;obtain⟨s1,rfl,i1,i2,Jl⟩:=o1;obtain⟨A1,c1,rfl,_⟩:=OwE.form Jl;have aw:=b1.size;have ky:=qA b1;have bz:Below W0.heap.size W0 (w1.alloc (.cells #[.int .i64 r,.int .i64 n, .slice A1 es.length c1] 26)):=b1.alloc aw _;clear zJ b1 Jl;have k0:=(bz.cell (p:=⟨w.heap.size,0,none⟩) (by show w.heap.size<_;omega)).trans P0.out;have k1:=(bz.cell (p:=⟨w.heap.size,1,none⟩) (by show w.heap.size<_;omega)).trans P1.out;have k2:=(bz.cell (p:=⟨w.heap.size,2,none⟩) (by show w.heap.size<_;omega)).trans P2.out;go_wp2_with fail;clear k0 k1 k2;obtain⟨W1,an⟩: ∃W,W=w1.alloc (.cells #[.int .i64 r,.int .i64 n, .slice A1 es.length c1] 26):=⟨_,rfl⟩;rw[←an] at bz⊢;have MP:W1.heap.size=w1.heap.size+1:=by rw[an];simp
 have X0:Hid (W1.cell? ⟨w1.heap.size,0,none⟩=some (.int .i64 r)):=qA (by rw[an];simp[go_sem]);have X1:Hid (W1.cell? ⟨w1.heap.size,1,none⟩=some (.int .i64 n)):=qA (by rw[an];simp[go_sem]);have X2:Hid (W1.cell? ⟨w1.heap.size,2,none⟩=some (.slice A1 es.length c1)):=qA (by rw[an];simp[go_sem]);have XF:Hid (∀j,W1.frozen? ⟨w1.heap.size,j,none⟩=false):=qA fun j=>by rw[an];simp[go_sem]
 have BZ:=qA bz;clear an bz ky;have ju:=qA (qq _ (r,n,es) W1 (HG.out.below (BX.out.trans (BZ.out.mono BX.out.size))));rw[aH.out] at ju;refine ju.out.mono ?_;rintro x w2 ⟨rfl,b2⟩;have cT:=b2.size;have B2:=qA (BZ.out.trans (b2.mono BZ.out.size));have JK:=qA b2;clear b2 ju;have k0:=(B2.out.cell (p:=⟨w.heap.size,0,none⟩) (by show w.heap.size<_;omega)).trans P0.out;have k1:=(B2.out.cell (p:=⟨w.heap.size,1,none⟩) (by show w.heap.size<_;omega)).trans P1.out;have k2:=(B2.out.cell (p:=⟨w.heap.size,2,none⟩) (by show w.heap.size<_;omega)).trans P2.out;have m0:=(B2.out.cell (p:=⟨w.heap.size+1,0,none⟩) (by show w.heap.size+1<_;omega)).trans E0.out;have m1:=(B2.out.cell (p:=⟨w.heap.size+1,1,none⟩) (by show w.heap.size+1<_;omega)).trans E1.out;have m2:=(B2.out.cell (p:=⟨w.heap.size+1,2,none⟩) (by show w.heap.size+1<_;omega)).trans E2.out;have jC:=qA (qEz r n A es.length cap (e1,e2,e3) w2);rw[dD.out] at jC;unfold edV at jC;go_wp2_with fail;refine jC.out.mono ?_;rintro x w3 ⟨rfl,b3⟩;have fS:=b3.size;have B3:=qA (B2.out.trans (b3.mono B2.out.size));have JQ:=qA (JK.out.trans (b3.mono JK.out.size));clear b3 k0 k1 k2 m0 m1 m2 jC;have k2:=(B3.out.cell (p:=⟨w.heap.size,2,none⟩) (by show w.heap.size<_;omega)).trans P2.out;have m0:=(B3.out.cell (p:=⟨w.heap.size+1,0,none⟩) (by show w.heap.size+1<_;omega)).trans E0.out;have m1:=(B3.out.cell (p:=⟨w.heap.size+1,1,none⟩) (by show w.heap.size+1<_;omega)).trans E1.out;have m2:=(B3.out.cell (p:=⟨w.heap.size+1,2,none⟩) (by show w.heap.size+1<_;omega)).trans E2.out;have dk:=qA (qCc _ es (e1,e2,e3) w3 ((HE.out.below BX.out).below B3.out) bR.out tO);unfold edV at dk;have Hk:((es.length:Int)≥120)=False:=by simp;omega
 go_wp2_with fail;refine dk.out.mono ?_;rintro x w4 ⟨r4,rfl,o4,b4⟩;have lZ:=b4.size;have B4:=qA (B3.out.trans (b4.mono B3.out.size));have CK:=qA (JQ.out.trans (b4.mono JQ.out.size));clear b4 k2 m0 m1 m2 dk;obtain⟨L,hL⟩: ∃L,L=insF cmpE es (e1,e2,e3):=⟨_,rfl⟩;rw[←hL] at o4;have io:=qA hL;clear hL;obtain⟨A4,c4,rfl,_⟩:=OwE.form o4;have O4:=qA o4;have x0:=(CK.out.cell (p:=⟨w1.heap.size,0,none⟩) (by show w1.heap.size<_;omega)).trans X0.out;have x1:=(CK.out.cell (p:=⟨w1.heap.size,1,none⟩) (by show w1.heap.size<_;omega)).trans X1.out;have x2:=(CK.out.cell (p:=⟨w1.heap.size,2,none⟩) (by show w1.heap.size<_;omega)).trans X2.out;have xf:=(CK.out.frozen (p:=⟨w1.heap.size,2,none⟩) (by show w1.heap.size<_;omega)).trans (XF.out 2);clear o4;go_wp2_with fail;obtain⟨w5,gd⟩: ∃W,W=w4.setCell ⟨w1.heap.size,2,none⟩ (.slice A4 L.length c4):=⟨_,rfl⟩;have y0:w5.cell? ⟨w1.heap.size,0,none⟩=some (.int .i64 r):=by rw[gd,zae _ _ _ _ (by simp)];exact x0
 have y1:w5.cell? ⟨w1.heap.size,1,none⟩=some (.int .i64 n):=by rw[gd,zae _ _ _ _ (by simp)];exact x1
 have y2:w5.cell? ⟨w1.heap.size,2,none⟩=some (.slice A4 L.length c4):=by rw[gd];exact zau _ _ _ x2
 have B5:Hid (Below W0.heap.size W0 w5):=qA (by rw[gd];exact B4.out.setCell (by show _≤w1.heap.size;omega) _);have O5:Hid (OwE w5 W1.heap.size (.slice A4 L.length c4) L):=qA (by rw[gd];exact(O4.out.mono tO).far (by show w1.heap.size<_;omega) _);rw[←gd];clear gd x0 x1 x2 xf;have k2:=(B5.out.cell (p:=⟨w.heap.size,2,none⟩) (by show w.heap.size<_;omega)).trans P2.out;obtain⟨u0,fl⟩:=R0.out;obtain⟨u1,kc⟩:=R1.out;obtain⟨u2,nI⟩:=R2.out;have r0:=(B5.out.cell (p:=⟨w.heap.size+2,0,none⟩) (by show w.heap.size+2<_;omega)).trans fl;have r1:=(B5.out.cell (p:=⟨w.heap.size+2,1,none⟩) (by show w.heap.size+2<_;omega)).trans kc;have r2:=(B5.out.cell (p:=⟨w.heap.size+2,2,none⟩) (by show w.heap.size+2<_;omega)).trans nI;have eu:=(B5.out.frozen (p:=⟨w.heap.size+2,0,none⟩) (by show w.heap.size+2<_;omega)).trans (RF.out 0);have eE:=(B5.out.frozen (p:=⟨w.heap.size+2,1,none⟩) (by show w.heap.size+2<_;omega)).trans (RF.out 1);have eG:=(B5.out.frozen (p:=⟨w.heap.size+2,2,none⟩) (by show w.heap.size+2<_;omega)).trans (RF.out 2);have gW:w.heap.size+3≤w5.heap.size:=by have:=B5.out.size;omega
 clear fl kc nI Hk;go_region
 have c0:(((w5.setCell ⟨w.heap.size+1+1,0,none⟩ (.int .i64 r)).setCell ⟨w.heap.size+1+1,1,none⟩ (.int .i64 n)).setCell ⟨w.heap.size+1+1,2,none⟩ (.slice A4 L.length c4)).drew.cell? ⟨w.heap.size+1+1,0,none⟩=some (.int .i64 r):=by
  show(((w5.setCell ⟨w.heap.size+1+1,0,none⟩ (.int .i64 r)).setCell ⟨w.heap.size+1+1,1,none⟩ (.int .i64 n)).setCell ⟨w.heap.size+1+1,2,none⟩ (.slice A4 L.length c4)).cell? ⟨w.heap.size+1+1,0,none⟩=some (.int .i64 r)
  rw[zae _ _ _ _ (by simp),zae _ _ _ _ (by simp),zau _ _ _ r0]
 have gn:(((w5.setCell ⟨w.heap.size+1+1,0,none⟩ (.int .i64 r)).setCell ⟨w.heap.size+1+1,1,none⟩ (.int .i64 n)).setCell ⟨w.heap.size+1+1,2,none⟩ (.slice A4 L.length c4)).drew.cell? ⟨w.heap.size+1+1,1,none⟩=some (.int .i64 n):=by
  show(((w5.setCell ⟨w.heap.size+1+1,0,none⟩ (.int .i64 r)).setCell ⟨w.heap.size+1+1,1,none⟩ (.int .i64 n)).setCell ⟨w.heap.size+1+1,2,none⟩ (.slice A4 L.length c4)).cell? ⟨w.heap.size+1+1,1,none⟩=some (.int .i64 n)
  rw[zae _ _ _ _ (by simp)];exact zau _ _ _ ((zae _ _ _ _ (by simp)).trans r1)
 have c2:(((w5.setCell ⟨w.heap.size+1+1,0,none⟩ (.int .i64 r)).setCell ⟨w.heap.size+1+1,1,none⟩ (.int .i64 n)).setCell ⟨w.heap.size+1+1,2,none⟩ (.slice A4 L.length c4)).drew.cell? ⟨w.heap.size+1+1,2,none⟩=some (.slice A4 L.length c4):=by
  show(((w5.setCell ⟨w.heap.size+1+1,0,none⟩ (.int .i64 r)).setCell ⟨w.heap.size+1+1,1,none⟩ (.int .i64 n)).setCell ⟨w.heap.size+1+1,2,none⟩ (.slice A4 L.length c4)).cell? ⟨w.heap.size+1+1,2,none⟩=some (.slice A4 L.length c4)
  exact zau _ _ _ ((zae _ _ _ _ (by simp)).trans ((zae _ _ _ _ (by simp)).trans r2))
 have PE:Hid (Below w.heap.size w w5):=qA (BX.out.trans (B5.out.mono BX.out.size));have bw:Below w.heap.size w (((w5.setCell ⟨w.heap.size+1+1,0,none⟩ (.int .i64 r)).setCell ⟨w.heap.size+1+1,1,none⟩ (.int .i64 n)).setCell ⟨w.heap.size+1+1,2,none⟩ (.slice A4 L.length c4)).drew:=(by repeat(first | exact .refl _ _ | (refine BxS ?_ _) | (refine qD ?_ _) | (refine zaj ?_) | (refine BxA ?_ _) | (refine BxT ?_ (Hid.out PE))));have ow:OwE (((w5.setCell ⟨w.heap.size+1+1,0,none⟩ (.int .i64 r)).setCell ⟨w.heap.size+1+1,1,none⟩ (.int .i64 n)).setCell ⟨w.heap.size+1+1,2,none⟩ (.slice A4 L.length c4)).drew W1.heap.size (.slice A4 L.length c4) L:=
  (((O5.out.far (by show w.heap.size+1+1<_;omega) _).far (by show w.heap.size+1+1<_;omega) _).far (by show w.heap.size+1+1<_;omega) _).drew
 generalize (((w5.setCell ⟨w.heap.size+1+1,0,none⟩ (.int .i64 r)).setCell ⟨w.heap.size+1+1,1,none⟩ (.int .i64 n)).setCell ⟨w.heap.size+1+1,2,none⟩ (.slice A4 L.length c4)).drew=wf at*;clear r0 r1 r2 y0 y1 y2 k2 eu eE eG;go_wp2;have hL:=io.out;clear io;subst hL;refine bodyPost_ret (v:= .tuple #[.agg #[.int .i64 r, .int .i64 n, .slice A4 (insF cmpE es (e1,e2,e3)).length c4], .bool (decide (es.length<(insF cmpE es (e1,e2,e3)).length))]) (by simp[results,Tryz.results239,go_sem,c0,gn,c2]) rfl ⟨_,rfl,⟨.slice A4 (insF cmpE es (e1,e2,e3)).length c4,rfl,i1,i2,ow.mono (base':=w.heap.size) tO⟩,bw⟩
structure LwI (lo gl rk cl:Nat) (ls:List Int) (W wr:World) (out:Value) (L1:List (List Int)) (next:Value) (L2:List (List Int)) (layer:Value) (L3:List (List Int)):Prop where
 o:Ow3 lo wr out L1 next L2 layer L3
 l:OwI wr 0 (.slice (some ⟨gl,0,none⟩) (2*rk) cl) ls
 b:Below lo W wr
 g:gl<wr.heap.size
 a1:out.ownBlock≠some gl
 a2:next.ownBlock≠some gl
 lo_le:lo≤wr.heap.size
section
variable {lo gl rk cl:Nat} {ls:List Int} {W wr w' w0:World} {out next layer v':Value} {L1 L2 L3 L':List (List Int)}
end
theorem qFM (v:Value) (xs:List Int) (w:World) (h:RdI w v xs) (hl:xs.length≤1073741824):
  Calls Tryz.prog 151 #[v] w fun e w'=> ∃r,e= .returned r∧OwI w' w.heap.size r xs∧Below w.heap.size w w':=by
 have H:=qA h;obtain⟨A,cap,rfl,_⟩:=h.arg;clear h;go_enter Tryz.func151,Tryz.ntmps151
 go_wp2_with (at_builtin;refine qEJ rfl (.tmp 3) (.tmp 4) rfl w.heap.size _ [] (qAE _ [] qAT (by simp) (zaa _)) rfl _ _ (H.out.alloc _) rfl (by simp;omega) (by simp) ?_;intro v1 w1 o1 g1 p1)
 go_ret;exact⟨_,rfl,by simpa using o1,((zab _ _).alloc (zaa _) _).grown g1 (by simp) (fun k hk=>by simp[za7] at hk;omega)⟩
section
variable {α:Type} {E:El α} {t:TypeId} {width:Nat} {w w' w1 w2:World} {vs vo vo':Value} {ds:List α} {lo hi:Nat} {p:α→Bool} {k:Nat}
end
def SegI (N g off:Nat) (w:World) (hs:List Value) (L:List (List Int)):Prop:=
 hs.length=L.length∧ ∀i (h:i<hs.length) (h':i<L.length),w.cell? ⟨g,off+i,none⟩=some hs[i]∧RdI w hs[i] L[i]∧ ∀b,hs[i].ownBlock=some b→b<N∧b≠g
structure Up2 (lo N g off:Nat) (W wr:World) (hs:List Value) (LK:List (List Int)) (v:Value) (L:List (List Int)):Prop where
 o:OwII lo wr.heap.size v L wr
 s:SegI N g off wr hs LK
 b:Below lo W wr
 v:v.ownBlock=some g∨ ∃b,v.ownBlock=some b∧N≤b∧b≠g
 n:off+hs.length≤L.length
 hN:N≤wr.heap.size
 kj:lo≤N
 hg:g<N
section
variable {lo N g off:Nat} {W wr w0 w':World} {hs:List Value} {LK L:List (List Int)} {v v':Value} {d:List Int}
end
def negL (xs:List Int):List Int:=xs.map fun x=>wrap64 (-x)
def invL (xs:List Int):List Int:=(negL xs).reverse
theorem qNO (x:Int):I64 (wrap64 x):=by
 unfold I64 wrap64;omega
theorem qLp (xs:List Int) (k:Nat) (hk:k<xs.length):(invL xs).take (k+1)=(invL xs).take k++ [wrap64 (-xs[xs.length-1-k])]:=by
 have h:k<(invL xs).length:=by simpa[invL,negL] using hk
 rw[zac h];congr 2
 simp[invL,negL]
theorem qCI (v:Value) (xs:List Int) (w:World) (h:RdI w v xs) (hl:xs.length≤1073741824):
  Calls Tryz.prog 98 #[v] w fun e w'=> ∃r,e= .returned r∧OwI w' w.heap.size r (invL xs)∧Below w.heap.size w w':=by
 have H:=qA h;obtain⟨A,cap,rfl,a6,hm,hr,hb⟩:=h.arg;clear h hb;go_enter Tryz.func98,Tryz.ntmps98
 obtain⟨i0,cE,cD,bI,cj⟩:=info_parts qCR;go_wp2_with (at_make;refine wpList_make_own _ rfl _ _ 37 rfl w.heap.size 3 i0 (.int .i64 0) 1 Tryz.underlying37 cE cD bI _ _ _ xs.length rfl rfl rfl (by rw[cj];omega) (by unfold maxLen;omega) (zaa _) ?_)
 intro w0 hown0 hgrow0;go_wp2;go_loopw [3,4] (fun out i wr=> ∃k:Nat,k≤xs.length∧i= .int .i64 ((xs.length:Int)-1-(k:Int))∧OwI wr w.heap.size out ((invL xs).take k)∧Below w.heap.size w wr)
  (fun _ i _=>(intOf i+1).toNat)
 case atStart=>exact⟨0,zaf _,by simp,⟨hown0,qAT⟩,(zab _ _).grown hgrow0 (zaa _) (fun k h=>by cases h)⟩
 case round=>
  obtain⟨k,hk,rfl,aa,ab⟩:=hrel;have aq:=ab.size;have ll:((invL xs).take k).length≤k:=zaC _ _;by_cases ac:k<xs.length
  ·obtain⟨b,off,rfl,dv,hc⟩:=(H.out.below ab).at tO;have aF:=hc (xs.length-1-k) tO;have HS:=qA (qLp xs k ac);have HO:=qA aa;clear hc aa;go_wp2_with (at_builtin;refine qd rfl (.tmp 15) (.tmp 21) rfl _ _ _ (OwI.alloc HO.out _) rfl _ _ rfl (qa _ _ _) (qNO _) (by first | omega | (simp<;>omega)) (by first | omega | (simp<;>omega)) ?_;intro v1 oz o1 g1 p1)
   go_roundw
   case rel=>exact⟨k+1,tO,by go_num,by rw[HS.out];exact o1,qe ab aq HO.out.1 (zaa _) g1⟩
   case measure=>simp[intOf];omega
  ·obtain rfl:k=xs.length:=tO
   go_wp2;go_ret;exact⟨_,rfl,by rw[List.take_of_length_le (by simp[invL,negL])] at aa;exact aa,ab⟩
def red1 (acc:List Int) (x:Int):List Int:=if 0<acc.length∧invB (acc.getLastD 0) x=true then acc.dropLast else acc++ [x]
def redL (acc xs:List Int):List Int:=xs.foldl red1 acc
theorem qNS (acc:List Int) (x:Int):(red1 acc x).length≤acc.length+1:=by
 unfold red1;split<;>simp;omega
theorem qFv (acc xs:List Int):(redL acc xs).length≤acc.length+xs.length:=by
 unfold redL;induction xs generalizing acc with
 | nil=>simp
 | cons x xs ih=>have:=ih (red1 acc x);have:=qNS acc x;simp only[zaQ,za1];omega
theorem qIV (acc xs:List Int) (k:Nat) (h:k<xs.length):redL acc (xs.take (k+1))=red1 (redL acc (xs.take k)) xs[k]:=by
 unfold redL;rw[zac h,zaz];rfl
theorem qFq {acc:List Int} (h:0<acc.length):acc.getLastD 0=acc[acc.length-1]:=by
 cases acc with
 | nil=>simp at h
 | cons a l=>simp[List.getLastD,List.getLast_eq_getElem]
theorem qKY {acc:List Int} {x:Int} (h:0<acc.length) (hi:invB acc[acc.length-1] x=true):red1 acc x=acc.take (acc.length-1):=by
 rw[←qFq h] at hi;rw[red1,if_pos ⟨h,hi⟩,zaT]
theorem qIH {acc:List Int} {x:Int} (h:0<acc.length) (hi:invB acc[acc.length-1] x=false):red1 acc x=acc++ [x]:=by
 rw[←qFq h] at hi;rw[red1,if_neg];intro hh;rw[hi] at hh;exact absurd hh.2 (by simp)
theorem qMU {l x:Int} (hl:I64 l) (hx:I64 x):invB l x=(x != 0&&l==wrap64 (-x)&&l != x):=by
 have dR:=hl.1;have xD:=hl.2;unfold invB;by_cases h:x= -9223372036854775808
 ·subst h;have:wrap64 (- -9223372036854775808)= -9223372036854775808:=by decide+kernel
  rw[this,zaI];simp
  omega
 ·rw[I64.neg hx h,zaI];have fi:=hx.1;simp
  constructor
  ·rintro⟨⟨h1,h2⟩,h3⟩
   exact⟨⟨fun hh=>h1 tO,by rw[h3,za0]⟩,fun hh=>h1 tO⟩
  ·rintro⟨⟨h1,h2⟩,h3⟩
   exact⟨⟨fun hh=>h1 tO,fun hh=>by have:=hx.2;omega⟩,by rw[h2,za0]⟩
theorem qDQ (v:Value) (xs:List Int) (w:World) (h:RdI w v xs) (hl:xs.length≤1073741824):
  Calls Tryz.prog 111 #[v] w fun e w'=> ∃r,e= .returned r∧OwI w' w.heap.size r (redL [] xs)∧Below w.heap.size w w':=by
 have H:=qA h;obtain⟨A,cap,rfl,a6,hm,hr,hb⟩:=h.arg;have HR:=qA hr;clear h hb hr;go_enter Tryz.func111,Tryz.ntmps111
 go_wp2;go_loopw [3,4] (fun out i wr=> ∃k:Nat,k≤xs.length∧i= .int .i64 k∧OwI wr w.heap.size out (redL [] (xs.take k))∧Below w.heap.size w wr)
  (fun _ i _=>xs.length-(intOf i).toNat)
 case atStart=>exact⟨0,zaf _,rfl,qAE _ [] qAT (by simp) (zaa _),(zab _ _).alloc (zaa _) _⟩
 case round=>
  obtain⟨k,hk,rfl,aa,ab⟩:=hrel;have aq:=ab.size;have ll:(redL [] (xs.take k)).length≤k:=by have:=qFv [] (xs.take k);have:=zaC k xs;simp at*;omega
  by_cases ac:k<xs.length
  ·obtain⟨b,off,rfl,dv,hc⟩:=(H.out.below ab).at tO;have aF:=hc k ac;have HS:=qA (qIV [] xs k ac);have HX:=qA (HR.out xs[k] (by simp));generalize hg:redL [] (xs.take k)=acc at aa ll HS;clear hg hc;generalize Ou:xs[k]=x at aF HS HX;clear Ou;have HO:=qA aa;obtain⟨A1,ah,rfl,dl,dj,_,eQ⟩:=aa.form;by_cases h0:0<acc.length
   ·obtain⟨g,rfl,Ks,uF⟩:=eQ h0;obtain⟨b1,tR,pu,_,aR⟩:=aa.rd.at h0;obtain⟨rfl,rfl⟩:g=b1∧0=tR:=by simpa using pu
    have du:=aR (acc.length-1) tO;rw[zag] at du;have x9:=qA (aa.2 acc[acc.length-1] (by simp));have HC:=qA (qKY (x:=x) h0);have HP:=qA (qIH (x:=x) h0);generalize acc[acc.length-1]=last at du x9 HC HP;have HT:=qA (qMU x9.out HX.out);have xg:decide ((0:Int)<(acc.length:Int))=true:=by simp;omega
    clear aR eQ aa pu;have push: ∀(hf:invB last x=false),red1 acc x=acc++ [x]:=fun hf=>HP.out hf;have PU:=qA push;clear push;by_cases e1:x=0
    ·subst e1;have PF:=qA (PU.out (by rw[HT.out];simp));go_wp2;go_quiet (fail)
     go_wp2_with (at_builtin;refine qd rfl (.tmp 53) (.tmp 58) rfl _ _ _ (OwI.alloc (OwI.drewN HO.out _) _) rfl _ _ rfl (qa _ _ _) HX.out (by first | omega | (simp<;>omega)) (by first | omega | (simp<;>omega)) ?_;intro v1 oz o1 g1 p1)
     go_roundw
     case rel=>exact⟨k+1,tO,by go_num,by rw[HS.out,PF.out];exact o1,qe (qD ab _) aq (OwI.drewN HO.out _).1 (zaa _) g1⟩
     case measure=>simp[intOf];omega
    ·have gh:(x != 0)=true:=by simp[e1]
     by_cases e2:last=wrap64 (-x)
     ·have xd:(last==wrap64 (-x))=true:=by simp[e2]
      have E2:=qA e2;clear e2;by_cases e3:last=x
      ·have E5:(last != x)=false:=by simp[e3]
       have PF:=qA (PU.out (by rw[HT.out,E5];simp));have E3:=qA e3;clear e3 e1;go_wp2;go_quiet (fail)
       go_wp2_with (at_builtin;refine qd rfl (.tmp 53) (.tmp 58) rfl _ _ _ (OwI.alloc (OwI.drewN HO.out _) _) rfl _ _ rfl (qa _ _ _) HX.out (by first | omega | (simp<;>omega)) (by first | omega | (simp<;>omega)) ?_;intro v1 oz o1 g1 p1)
       go_roundw
       case rel=>exact⟨k+1,tO,by go_num,by rw[HS.out,PF.out];exact o1,qe (qD ab _) aq (OwI.drewN HO.out _).1 (zaa _) g1⟩
       case measure=>simp[intOf];omega
      ·have E5:(last != x)=true:=by simp[e3]
       have PF:=qA (HC.out (by rw[HT.out,gh,xd,E5];rfl));clear e3 e1;go_wp2;go_quiet (fail)
       go_wp2;go_roundw
       case rel=>exact⟨k+1,tO,by go_num,by rw[HS.out,PF.out];exact qJK (OwI.drewN HO.out _) tO,qD ab _⟩
       case measure=>simp[intOf];omega
     ·have xd:(last==wrap64 (-x))=false:=by simp[e2]
      have PF:=qA (PU.out (by rw[HT.out,xd];simp));clear e2 e1;go_wp2;go_quiet (fail)
      go_wp2_with (at_builtin;refine qd rfl (.tmp 53) (.tmp 58) rfl _ _ _ (OwI.alloc (OwI.drewN HO.out _) _) rfl _ _ rfl (qa _ _ _) HX.out (by first | omega | (simp<;>omega)) (by first | omega | (simp<;>omega)) ?_;intro v1 oz o1 g1 p1)
      go_roundw
      case rel=>exact⟨k+1,tO,by go_num,by rw[HS.out,PF.out];exact o1,qe (qD ab _) aq (OwI.drewN HO.out _).1 (zaa _) g1⟩
      case measure=>simp[intOf];omega
   ·obtain rfl:acc= []:=zay tO
    clear eQ aa;go_wp2;go_quiet (fail)
    go_wp2_with (at_builtin;refine qd rfl (.tmp 53) (.tmp 58) rfl _ _ _ (OwI.alloc (OwI.drewN HO.out _) _) rfl _ _ rfl (qa _ _ _) HX.out (by first | omega | (simp<;>omega)) (by first | omega | (simp<;>omega)) ?_;intro v1 oz o1 g1 p1)
    go_roundw
    case rel=>exact⟨k+1,tO,by go_num,by rw[HS.out];exact o1,qe (qD ab _) aq (OwI.drewN HO.out _).1 (zaa _) g1⟩
    case measure=>simp[intOf];omega
  ·obtain rfl:k=xs.length:=tO
   rw[zao] at aa ll;have HO:=qA aa;obtain⟨A1,ah,rfl,dl,dj,_,eQ⟩:=aa.form;clear aa eQ;go_wp2_with (at_builtin;refine qEJ rfl (.tmp 60) (.tmp 61) rfl w.heap.size _ [] (qAE _ [] qAT (by simp) aq) rfl _ _ (HO.out.alloc _).rd rfl (by first | omega | (simp<;>omega)) (by first | omega | (simp<;>omega)) ?_;intro v1 w1 o1 g1 p1)
   go_ret;exact⟨_,rfl,by simpa using o1,(ab.alloc aq _).grown g1 (by simp;omega) (fun k hk=>by simp[za7] at hk;omega)⟩
def qFa (L:List (List Int)):List Int:=redL [] L.flatten
def qAr (L:List (List Int)):Nat:=(L.map List.length).sum
theorem qKy (L:List (List Int)) (k:Nat) (h:k<L.length):qFa (L.take (k+1))=redL (qFa (L.take k)) L[k]:=by
 unfold qFa redL;rw[zac h,List.flatten_append,zaz];simp
theorem qKh (L:List (List Int)) (k:Nat) (h:k<L.length):qAr (L.take k)+L[k].length≤qAr L:=by
 unfold qAr;have:L=L.take k++L[k]::L.drop (k+1):=by rw[←zaM h,zaS]
 have e:=congrArg (fun l=>(l.map List.length).sum) this;simp only[List.map_append,List.map_cons,List.sum_append,List.sum_cons] at e;omega
theorem qLQ (L:List (List Int)):(qFa L).length≤qAr L:=by
 have:=qFv [] L.flatten
 simp only[qFa,qAr,List.length_flatten,za4] at*;omega
theorem qEK (v:Value) (L:List (List Int)) (w:World) (h:RdII w v L) (hl:qAr L≤1073741824) (hn:L.length≤1073741824):
  Calls Tryz.prog 97 #[v] w fun e w'=> ∃r,e= .returned r∧OwI w' w.heap.size r (qFa L)∧Below w.heap.size w w':=by
 have H:=qA h;obtain⟨A,cap,rfl,a6,hm,hA⟩:=h.form;have HA:=qA hA;clear h hA;unfold maxLen at hm;go_enter Tryz.func97,Tryz.ntmps97
 go_wp2;go_loopw [3,11] (fun out i wr=> ∃k:Nat,k≤L.length∧i= .int .i64 k∧OwI wr w.heap.size out (qFa (L.take k))∧Below w.heap.size w wr)
  (fun _ i _=>L.length-(intOf i).toNat)
 case atStart=>exact⟨0,zaf _,rfl,qAE _ [] qAT (by simp) (zaa _),(zab _ _).alloc (zaa _) _⟩
 case round=>
  obtain⟨k,hk,rfl,aa,ab⟩:=hrel;have aq:=ab.size;by_cases ac:k<L.length
  ·have dT:=qKh L k ac;have ll:=qLQ (L.take k);obtain⟨b,off,A1,ah,rfl,dv,nC,aR,dj,aN⟩:=H.out.at ac;have aF:=(ab.cell dv).trans nC;clear nC;have HS:=qA (qKy L k ac);generalize qFa (L.take k)=acc0 at aa ll HS;have HR:=qA aN;clear aN;generalize L[k]=ys at aF aR HR dT HS;have HO:=qA aa;have HB:=qA ab;clear aa ab;unfold maxLen at dj;obtain⟨wo,rfl⟩: ∃wo:World,wo=wr:=⟨_,rfl⟩;go_wp2;go_loopw [3,17] (fun out j wi=> ∃m:Nat,m≤ys.length∧j= .int .i64 m∧OwI wi w.heap.size out (redL acc0 (ys.take m))∧Below w.heap.size w wi)
    (fun _ j _=>ys.length-(intOf j).toNat)
   case atStart=>exact⟨0,zaf _,rfl,HO.out,HB.out⟩
   case round=>
    obtain⟨m,mj,rfl,aa,ab⟩:=hrel;have ve:=ab.size;have kR:(redL acc0 (ys.take m)).length≤acc0.length+m:=by have:=qFv acc0 (ys.take m);have:=zaC m ys;omega
    by_cases dh:m<ys.length
    ·obtain⟨b',off',rfl,Mt,kZ⟩:=(HR.out.below ab).at tO;have vI:=kZ m dh;have BM:=qA (qIV acc0 ys m dh);have HX:=qA (HR.out.2 ys[m] (by simp));clear kZ;generalize redL acc0 (ys.take m)=acc at aa kR BM;generalize ys[m]=x at vI BM HX;have wM:=qA aa;obtain⟨A1,H4,rfl,dl,D5,_,eQ⟩:=aa.form;unfold maxLen at D5;by_cases h0:0<acc.length
     ·obtain⟨g,rfl,Ks,uF⟩:=eQ h0;obtain⟨b1,tR,pu,_,aR⟩:=aa.rd.at h0;obtain⟨rfl,rfl⟩:g=b1∧0=tR:=by simpa using pu
      have du:=aR (acc.length-1) tO;rw[zag] at du;have x9:=qA (aa.2 acc[acc.length-1] (by simp));have HC:=qA (qKY (x:=x) h0);have HP:=qA (qIH (x:=x) h0);generalize acc[acc.length-1]=last at du x9 HC HP;have xg:decide ((0:Int)<(acc.length:Int))=true:=by simp;omega
      clear aR eQ aa pu;rcases hi:invB last x with _ | _
      ·have PF:=qA (HP.out hi);have eR:=qDz last x;rw[hi] at eR;have HI:=qA eR;clear hi eR;go_wp2_with (first | (go_at_call 175;refine(HI.out _ x9.out).mono ?_;rintro e w' ⟨rfl,rfl⟩) | (at_builtin;refine qd rfl (.tmp 39) (.tmp 41) rfl _ _ _ (OwI.alloc wM.out _) rfl _ _ rfl (qa _ _ _) HX.out (by first | omega | (simp<;>omega)) (by first | omega | (simp<;>omega)) ?_;intro v1 oz o1 g1 p1))
       go_roundw
       case rel=>exact⟨m+1,tO,by go_num,by rw[BM.out,PF.out];exact o1,qe ab ve wM.out.1 (zaa _) g1⟩
       case measure=>simp[intOf];omega
      ·have PF:=qA (HC.out hi);have eR:=qDz last x;rw[hi] at eR;have HI:=qA eR;clear hi eR;go_wp2_with (go_at_call 175;refine(HI.out _ x9.out).mono ?_;rintro e w' ⟨rfl,rfl⟩)
       go_roundw
       case rel=>exact⟨m+1,tO,by go_num,by rw[BM.out,PF.out];exact qJK wM.out tO,ab⟩
       case measure=>simp[intOf];omega
     ·obtain rfl:acc= []:=zay tO
      clear eQ aa;go_wp2_with (at_builtin;refine qd rfl (.tmp 39) (.tmp 41) rfl _ _ _ (OwI.alloc wM.out _) rfl _ _ rfl (qa _ _ _) HX.out (by first | omega | (simp<;>omega)) (by first | omega | (simp<;>omega)) ?_;intro v1 oz o1 g1 p1)
      go_roundw
      case rel=>exact⟨m+1,tO,by go_num,by rw[BM.out];exact o1,qe ab ve wM.out.1 (zaa _) g1⟩
      case measure=>simp[intOf];omega
    ·obtain rfl:m=ys.length:=tO
     rw[zao] at aa;have wM:=qA aa;have Ok:=qA ab;clear aa ab;go_wp2;go_roundw
     case rel=>exact⟨k+1,tO,by go_num,by rw[HS.out];exact wM.out,Ok.out⟩
     case measure=>simp[intOf];omega
  ·obtain rfl:k=L.length:=tO
   rw[zao] at aa;go_wp2;go_ret;exact⟨_,rfl,aa,ab⟩
section
variable {α:Type} (c:α→Nat) (m:Int→α→α)
variable {c m}
end
section
variable {α:Type} {E:El α} {t:TypeId} {width:Nat} {w w' w1 w2:World} {v v':Value} {ds:List α} {lo hi:Nat}
theorem qBg (w:World) (g j:Nat) (u:Value):w.grownBy (w.setCell ⟨g,j,none⟩ u) (some g):=
 ⟨rfl,rfl,rfl,by simp,fun b _ hb=>Below.heap_setCell w _ u b (fun e=>hb (by rw[e]))⟩
end
section
variable {w w':World} {v:Value} {ds:List (List Int)} {lo hi:Nat}
end
def lt (x:Int):List UInt8:=
 if x=1 then [97] else if x=2 then [98] else if x=3 then [99] else if x= -1 then [65] else if x= -2 then [66] else if x= -3 then [67] else []
def qIC (base:Nat) (w:World) (v:Value) (L:List (List Int)):Prop:=
 ∃vs:List Value,vs.length=L.length∧w.ownsRow base 37 1 v L.length vs∧ ∀i (h:i<L.length) (h':i<vs.length),RdI w vs[i] L[i]
theorem qIC.rd {base:Nat} {w:World} {v:Value} {L:List (List Int)} (h:qIC base w v L):RdII w v L:=by
 obtain⟨vs,h1,h2,h3⟩:=h;exact⟨vs,h1,RdV.of_own h2,h3⟩
theorem qIC.lit (w:World) (vs:List Value) (L:List (List Int)) (hl:vs.length=L.length) (h: ∀i (h:i<L.length) (h':i<vs.length),RdI w vs[i] L[i]) (hm:L.length≤1099511627776) {base:Nat} (hb:base≤w.heap.size):
  qIC base (w.alloc (.cells vs.toArray 37)) (.slice (some ⟨w.heap.size,0,none⟩) L.length L.length) L:=
 ⟨vs,hl,by have:=qNa w vs tO hb;rw[hl] at this;exact this,fun i h1 h2=>(h i h1 h2).alloc _⟩
theorem qDi (a b:List Int) (i:Nat) (h:i<a.length):(a++b).getD i 0=a.getD i 0:=by
 simp only[zaw];rw[zaF h]
theorem qGz (a b:List Int) (i:Nat) (h:a.length≤i):(a++b).getD i 0=b.getD (i-a.length) 0:=by
 simp only[zaw];rw[List.getElem?_append_right h]
def redP (xs:List Int):Prop:= ∀i,i+1<xs.length→invB (xs.getD i 0) (xs.getD (i+1) 0)=false
theorem qMe {xs:List Int} (h:redP xs) (k:Nat):redP (xs.take k):=by
 intro i hi;simp only[List.length_take] at hi;have e1: ∀j,j<k→(xs.take k).getD j 0=xs.getD j 0:=fun j hj=>by simp only[zaw,List.getElem?_take];rw[if_pos hj]
 rw[e1 i tO,e1 (i+1) tO];exact h i tO
theorem qLf {xs:List Int} {x:Int} (h:redP xs) (hx:0<xs.length→invB (xs.getLastD 0) x=false):redP (xs++ [x]):=by
 intro i hi;simp only[zaJ,zaU] at hi;rcases zal (zan (show i+1<xs.length+1 by omega)) with h1 | h1
 ·rw[qDi _ _ _ tO,qDi _ _ _ h1];exact h i h1
 ·rw[qDi _ _ _ tO,qGz _ _ _ tO,h1,Nat.sub_self];have:=hx tO
  rw[qFq tO] at this;have e:i=xs.length-1:=tO;subst e;simpa[zaw,show xs.length-1<xs.length by omega] using this
theorem qNg {acc:List Int} {x:Int} (h:redP acc):redP (red1 acc x):=by
 unfold red1;split
 ·rw[zaT];exact qMe h _
 ·rename_i hn
  refine qLf h fun h0=> ?_;cases hb:invB (acc.getLastD 0) x with
  | false=>rfl
  | true=>exact absurd ⟨h0,hb⟩ hn
theorem qNv {acc xs:List Int} (h:redP acc):redP (redL acc xs):=by
 unfold redL;induction xs generalizing acc with
 | nil=>exact h
 | cons x xs ih=>exact ih (qNg h)
theorem qMv:redP []:=fun i hi=>by simp at hi
theorem qLx {acc xs:List Int} (h:redP (acc++xs)):redL acc xs=acc++xs:=by
 unfold redL;induction xs generalizing acc with
 | nil=>simp
 | cons x xs ih=>
   have e:red1 acc x=acc++ [x]:=by
    unfold red1;rw[if_neg];rintro⟨h0,hb⟩
    have:=h (acc.length-1) (by simp;omega)
    rw[qDi _ _ _ tO,qGz _ _ _ tO,show acc.length-1+1-acc.length=0 by omega] at this;rw[qFq h0] at hb;have e2:acc.getD (acc.length-1) 0=acc[acc.length-1]:=by simp[zaw,show acc.length-1<acc.length by omega]
    rw[e2] at this;simp only[List.getD_cons_zero] at this;rw[this] at hb;cases hb
   rw[zaQ,e,ih (by simpa using h)];simp
theorem qNm {acc xs:List Int} {x:Int} (h:x∈redL acc xs):x∈acc∨x∈xs:=by
 unfold redL at h;induction xs generalizing acc with
 | nil=>exact .inl h
 | cons y xs ih=>
   rcases ih h with h | h
   ·unfold red1 at h;split at h
    ·exact .inl (List.dropLast_subset _ h)
    ·rcases zaD.1 h with h | h
     ·exact .inl h
     ·right;simp at h;simp[h]
   ·right;simp[h]
theorem qNj {r:Int} {xs:List Int} (h:redP xs) (hx: ∀x∈xs,letB r x=true) (i:Nat) (hi:i<xs.length):okAt r xs i=true:=by
 unfold okAt;have e:xs.getD i 0=xs[i]:=by simp[zaw,hi]
 rw[e,hx _ (by simp),←e];by_cases h0:0<i
 ·have:=h (i-1) tO
  rw[show i-1+1=i by omega] at this;rw[this];simp
 ·simp[h0]
def gL (w:List Int):Prop:= ∀x∈w,x≠0∧ -3≤x∧x≤3
def letR (r:Int) (w:List Int):Prop:= ∀x∈w,x≠0∧ -r≤x∧x≤r
theorem qMV {r:Int} {w:List Int} (h:letR r w):letR r (redL [] w):=fun x hx=>by
 rcases qNm hx with h' | h'
 ·cases h'
 ·exact h x h'
theorem qNC (p:Nat) (A:Option Addr) (cap:Nat) (cs:List Int) (r m:Int) (w:World) (h:Cur p A cap cs w) (ka:1≤r) (dX:r≤3) (ng:0≤m) (hm:m≤100):
  Calls Tryz.prog 135 #[.pointer (some ⟨p,0,none⟩), .int .i64 r, .int .i64 m] w fun e w'=> ∃v xs,e= .returned v∧OwI w' w.heap.size v xs∧(xs.length≤m∧letR r xs∧redP xs)∧Cur p A cap cs w'∧Tr p (p+1) w w':=by
 have H:=qA h;have hp:=h.lt;clear h;have HA:Hid (Cur p A cap cs (w.alloc (.cells #[] 3))):=qA (H.out.below ((zab _ _).alloc (zaa _) _));have HO:Hid (OwI (w.alloc (.cells #[] 3)) w.heap.size (.slice (some ⟨w.heap.size,0,none⟩) 0 0) []):=qA (qAE w [] qAT (by simp) (zaa _));have HT:Hid (Tr p (p+1) w (w.alloc (.cells #[] 3))):=qA ⟨rfl,rfl,rfl,by simp,fun k hk _=>Below.heap_alloc w _ k hk⟩;have fL:IntKind.i64.wrap (m+1)=m+1:=by rw[IntKind.wrap_i64];omega
 go_enter Tryz.func135,Tryz.ntmps135
 go_wp2_with fail;refine(qAF p A cap cs (m+1) _ HA.out tO tO).mono ?_
 rintro e w1 ⟨n0,rfl,⟨n1,n2⟩,c1,t1⟩;have C1:=qA c1;have O1:=qA (HO.out.trP t1 hp);have T1:Hid (Tr p (p+1) w w1):=qA (HT.out.trans t1);clear c1 t1 HA HO HT;go_wp2;go_loopw [7,8] (fun wv nv wr=> ∃(k:Int) (ws:List Int),nv= .int .i64 k∧0≤k∧k+ws.length≤m∧letR r ws∧OwI wr w.heap.size wv ws∧Cur p A cap cs wr∧Tr p (p+1) w wr)
  (fun _ nv _=>(intOf nv).toNat)
 case atStart=>exact⟨n0,[],rfl,n1,by simp;omega,fun x hx=>(by cases hx),O1.out,C1.out,T1.out⟩
 case round=>
  obtain⟨k,ws,rfl,we,ji,iV,hO,hC,hT⟩:=hrel;have HO:=qA hO;have HC:=qA hC;have HT:=qA hT;have rY:=qA iV;have aq:=hT.size;obtain⟨Aw,cw,rfl,_⟩:=hO.form;clear hO hC hT iV;by_cases ac:0<k
  ·go_wp2_with (first
    | (go_at_call 184;(with_reducible refine(qAF p A cap cs r _ HC.out tO tO).mono ?_);rintro e w2 ⟨x,rfl,⟨x0,x1⟩,c2,t2⟩;have C2:=qA c2;have O2:=qA (HO.out.trP t2 hp);have T2:=qA (HT.out.trans t2);clear c2 t2)
    | (go_at_call 134;(with_reducible refine(qDu p A cap cs 2 _ C2.out tO tO).mono ?_);rintro e w3 ⟨bb,rfl,c3,t3⟩;have C3:=qA c3;have O3:=qA (O2.out.trP t3 hp);have T3:=qA (T2.out.trans t3);have fS:=T3.out.size;clear c3 t3;have Qd:IntKind.i64.wrap (1+x)=1+x:=(by rw[IntKind.wrap_i64];omega);have Bo:IntKind.i64.wrap (-(1+x))= -(1+x):=(by rw[IntKind.wrap_i64];omega);have dZ:Hid (I64 (1+x)):=qA ⟨tO,tO⟩;have gU:Hid (I64 (-(1+x))):=qA ⟨tO,tO⟩)
    | ((at_builtin;refine qd rfl (.tmp 27) (.tmp 29) rfl _ _ _ (OwI.alloc O3.out _) rfl _ _ rfl (qa _ _ _) dZ.out (by first | omega | (simp<;>omega)) (by first | omega | (simp<;>omega)) ?_;intro v4 wv4 o4 g4 p4);have G4:=qA g4;have O4:=qA o4;obtain⟨A4,m4,c4,rfl⟩:=o4.any2;clear o4 g4 p4)
    | ((at_builtin;refine qd rfl (.tmp 27) (.tmp 29) rfl _ _ _ (OwI.alloc O3.out _) rfl _ _ rfl (qa _ _ _) gU.out (by first | omega | (simp<;>omega)) (by first | omega | (simp<;>omega)) ?_;intro v4 wv4 o4 g4 p4);have G4:=qA g4;have O4:=qA o4;obtain⟨A4,m4,c4,rfl⟩:=o4.any2;clear o4 g4 p4))
   all_goals (
    have C4:=qA ((C3.out.below ((zab _ _).alloc (zaa _) _)).new H.out G4.out (fun b hb=>(O3.out.1.lt b hb).1));have T4:=qA ((T3.out.bel2 ((zab _ _).alloc (zaa _) _)).grow2 G4.out (fun b hb=>(O3.out.1.lt b hb).1));have mQ:IntKind.i64.wrap (k-1)=k-1:=by rw[IntKind.wrap_i64];omega
    go_roundw
    case rel=>
     refine⟨k-1,_,by go_num,tO,by simp;omega,fun y hy=> ?_,O4.out,C4.out,T4.out⟩;rcases zaD.1 hy with hy | hy
     ·exact rY.out y hy
     ·rw[List.mem_singleton] at hy;subst hy;omega
    case measure=>(simp[intOf];omega))
  ·have Nl:Hid (redP (redL [] ws)):=qA (qNv qMv);have ri:(redL [] ws).length≤m:=by have:=qFv [] ws;simp at this;omega
   have mi:ws.length≤1073741824:=tO;go_wp2_with (go_at_call 111;(with_reducible refine(qDQ _ ws _ HO.out.rd mi).mono ?_);rintro e w5 ⟨r5,rfl,o5,b5⟩;have O5:=qA o5;have B5:=qA b5;obtain⟨A5,m5,c5,rfl⟩:=o5.any2;clear o5 b5)
   exact bodyPost_ret (v:= .slice A5 m5 c5) (by simp[results,Tryz.results135,go_sem]) rfl ⟨_,_,rfl,O5.out.mono aq,⟨ri,qMV rY.out,Nl.out⟩,HC.out.below B5.out,HT.out.bel2 B5.out⟩
inductive Sp where
 | val (c:Value)
 | own (p:World→Value→Prop) (h: ∀W W' v,p W v→Below W.heap.size W W'→p W' v)
 | new (p:World→Value→Prop) (h: ∀W W' v,p W v→Below W.heap.size W W'→p W' v)
 | cp (j:Nat)
def Sp.R (vs:Nat→Value):Sp→World→Value→Prop
 | .val c,_,v=>v=c
 | .own p _,W,v=>p W v
 | .new p _,W,v=>p W v∧ ∀b,v.ownBlock=some b→b<W.heap.size
 | .cp j,_,v=>v=vs j
def Sp.S (vs:Nat→Value):Sp→World→World→Value→Prop
 | .val c,_,_,v=>v=c
 | .own p _,_,W',v=>p W' v
 | .new p _,W,W',v=>p W' v∧ ∀b,v.ownBlock=some b→W.heap.size≤b∧b<W'.heap.size
 | .cp j,_,_,v=>v=vs j
def Sp.fr:Sp→Bool
 | .new _ _=>true
 | _=>false
def Sp.pick:Sp→Value→Value
 | .val c,_=>c
 | _,v=>v
def qAJ (l:List Oper):Nat→Nat→Nat→Bool
 | 0,_,_=>false
 | f+1,i,j=>match l[i]? with
   | none=>false
   | some o=>o.after.toList.any fun e=>Region.binds .any e&&(e.on==j||qAJ l f e.on j)
def freB (l:List Oper):Bool:=
 Region.noSelect l.toArray&&(zam l.length).all fun i=>match l[i]? with
  | none=>true
  | some o=>o.guard.isNone&&(o.after.all fun e=> !Region.binds .any e||decide (e.on<i))&&
    ((zam l.length).all fun k=>match l[k]? with
      | none=>true
      | some o'=>(decide (i=k)|| !(o.dst==o'.dst)||o.dst.isNone)&&
        (match o'.dst with
         | none=>true
         | some t=> !(o.looksAt l.toArray).contains t||qAJ l l.length i k||qAJ l l.length k i))
def actV (S:Nat→Bool) (vs:Nat→Value):List Oper→Nat→Act→Act
 | [],_,b=>b
 | o::r,k,b=>actV S vs r (k+1) (if S k then b.put o.dst (vs k) else b)
section
variable {l:List Oper}
theorem qEr (h:freB l=true):Region.noSelect l.toArray=true∧ ∀i o,l[i]? =some o→o.guard=none∧(∀e∈o.after,Region.binds .any e=true→e.on<i)∧(∀k o',l[k]? =some o'→i≠k→ ∀d,o.dst=some d→o'.dst≠some d)∧
  ∀k o' t,l[k]? =some o'→o'.dst=some t→t∈o.looksAt l.toArray→qAJ l l.length i k=true∨qAJ l l.length k i=true:=by
 unfold freB at h;rw[zad,zat] at h;refine⟨h.1,fun i o ho=> ?_⟩;have hi:i<l.length:=(zai.1 ho).1;have h1:=h.2 i (zar.2 hi);rw[ho] at h1;simp only[zad,Option.isNone_iff_eq_none,zat,zar] at h1;obtain⟨⟨h2,h3⟩,h4⟩:=h1;refine⟨h2,fun e he hb=> ?_,fun k o' hk hik d hd hd'=> ?_,fun k o' t hk ht hl=> ?_⟩
 ·have:=Array.all_eq_true_iff_forall_mem.1 h3 e he
  rw[hb] at this;simpa using this
 ·have h5:=h4 k ((zai.1 hk).1);rw[hk] at h5;simp only[zad,zax,decide_eq_true_eq] at h5;rcases h5.1 with (h6 | h6) | h6
  ·exact hik h6
  ·rw[hd,hd'] at h6;simp at h6
  ·rw[hd] at h6;simp at h6
 ·have h5:=h4 k ((zai.1 hk).1);rw[hk] at h5;simp only[zad] at h5;have h6:=h5.2;rw[ht] at h6;simp only[zax,Bool.not_eq_true'] at h6;rcases h6 with (h6 | h6) | h6
  ·rw[List.contains_iff_mem.2 hl] at h6;cases h6
  ·exact .inl h6
  ·exact .inr h6
theorem qBa {listed:Array Bool} (hc:Cl l.toArray listed): ∀(f i j:Nat),(∀o,l[i]? =some o→ ∀e∈o.after,Region.binds .any e=true→listed.getD e.on false=true)→qAJ l f i j=true→listed.getD j false=true
 | 0,_,_,_,h=>by cases h
 | f+1,i,j,hi,h=>by
   unfold qAJ at h;cases ho:l[i]? with
   | none=>rw[ho] at h;cases h
   | some o=>
     rw[ho] at h;simp only[zaN,zaV,zad,zax,beq_iff_eq] at h;obtain⟨e,he,hb,h⟩:=h;have h1:=hi o ho e he hb;rcases h with h | h
     ·rwa [←h]
     ·exact qBa hc f e.on j (fun o' cC e' he' aJ=>hc.2 e.on o' (by simpa using cC) h1 e' he' aJ) h
theorem qEf (hB:freB l=true): ∀(f i j:Nat),qAJ l f i j=true→j<i
 | 0,_,_,h=>by cases h
 | f+1,i,j,h=>by
   unfold qAJ at h;cases ho:l[i]? with
   | none=>rw[ho] at h;cases h
   | some o=>
     rw[ho] at h;simp only[zaN,zaV,zad,zax,beq_iff_eq] at h;obtain⟨e,he,hb,h⟩:=h;have h1:=((qEr hB).2 i o ho).2.1 e he hb;rcases h with h | h
     ·omega
     ·have:=qEf hB f e.on j h;omega
theorem qFp (a:Act) (d:Option Tmp) (v:Value):(a.put d v).tmps.size=a.tmps.size:=by
 cases d<;>simp[Act.put]
theorem qGb {vs:Nat→Value} {S S':Nat→Bool} {t:Tmp}: ∀(r:List Oper) (k:Nat) (b b':Act),b.tmps.size=b'.tmps.size→b.eval (.tmp t)=b'.eval (.tmp t)→
  (∀j o,r[j]? =some o→o.dst=some t→S (k+j)=S' (k+j))→(actV S vs r k b).eval (.tmp t)=(actV S' vs r k b').eval (.tmp t)
 | [],_,_,_,_,he,_=>he
 | o::r,k,b,b',hs,he,h=>by
   unfold actV;have hz:(if S k then b.put o.dst (vs k) else b).tmps.size=(if S' k then b'.put o.dst (vs k) else b').tmps.size:=by
    split<;>split<;>simp only[qFp,hs]
   refine qGb r (k+1) _ _ hz ?_ fun j o' cC hd'=>by have:=h (j+1) o' (by simpa using cC) hd';rwa [show k+(j+1)=k+1+j by omega] at this
   by_cases hd:o.dst=some t
   ·have h0:=h 0 o rfl hd;rw[zaq] at h0;rw[←h0];split
    ·rw[hd];simp only[Act.put,Act.eval,zak];by_cases ht:t<b.tmps.size
     ·rw[zah ht,zah (hs▸ht)]
     ·rw[zap (by rw[zaP];exact za2 ht),zap (by rw[zaP,←hs];exact za2 ht)]
    ·exact he
   ·have e1: ∀(c:Act) (S:Nat→Bool),(if S k then c.put o.dst (vs k) else c).eval (.tmp t)=c.eval (.tmp t):=fun c S=>by
     split
     ·exact Act.eval_put fun d hd2 e=>hd (by rw[hd2];injection e with e;rw[e])
     ·rfl
    rw[e1,e1,he]
theorem qKK {S:Nat→Bool} {vs:Nat→Value} {x:Option Tmp} {v:Value}: ∀(r:List Oper) (k:Nat) (b:Act),(∀o∈r,∀d,o.dst=some d→x≠some d)→(actV S vs r k b).put x v=actV S vs r k (b.put x v)
 | [],_,_,_=>rfl
 | o::r,k,b,h=>by
   unfold actV;rw[qKK r (k+1) _ fun o' cC=>h o' (by simp[cC])];congr 1
   split
   ·exact Act.put_comm _ _ _ fun d hd=>h o (by simp) d hd
   ·rfl
theorem qBq {S S':Nat→Bool} {vs vs':Nat→Value}: ∀(r:List Oper) (k:Nat) (b:Act),(∀j,j<r.length→S (k+j)=S' (k+j)∧(S (k+j)=true→vs (k+j)=vs' (k+j)))→actV S vs r k b=actV S' vs' r k b
 | [],_,_,_=>rfl
 | o::r,k,b,h=>by
   unfold actV;have h0:=h 0 (by simp);rw[zaq] at h0;rw[qBq r (k+1) _ fun j hj=>by have:=h (j+1) (by simp;omega);rwa [show k+(j+1)=k+1+j by omega] at this];congr 1
   rw[←h0.1];split
   ·rename_i q;rw[h0.2 q]
   ·rfl
theorem qHl {S:Nat→Bool} {vs:Nat→Value} {v:Value}: ∀(r:List Oper) (k:Nat) (b:Act) (i:Nat) (o:Oper),r[i]? =some o→S (k+i)=false→
  (∀j o',r[j]? =some o'→i≠j→ ∀d,o.dst=some d→o'.dst≠some d)→
  (actV S vs r k b).put o.dst v=actV (fun j=>S j||decide (j=k+i)) (fun j=>if j=k+i then v else vs j) r k b
 | [],_,_,_,_,h,_,_=>by simp at h
 | o'::r,k,b,0,o,h,hS,hd=>by
   obtain rfl:o'=o:=by simpa using h
   rw[zaq] at hS;unfold actV;rw[hS,qKK r (k+1) _ fun o2 gt d hd2 e=> ?_]
   ·simp only[zaq,decide_true,Bool.or_true,if_true,zaY,if_false];refine qBq r (k+1) _ fun j hj=>⟨by rw[decide_eq_false tO,zaX],fun _=>by rw[if_neg tO]⟩
   ·obtain⟨j,hj⟩:=List.mem_iff_getElem?.1 gt;exact hd (j+1) o2 (by simpa using hj) tO d e hd2
 | o'::r,k,b,i+1,o,h,hS,hd=>by
   unfold actV;have e:k+(i+1)=k+1+i:=tO;rw[qHl r (k+1) _ i o (by simpa using h) (by rw[←e];exact hS) fun j o2 hj eC=>hd (j+1) o2 (by simpa using hj) tO,e];congr 1
   have hk:decide (k=k+1+i)=false:=decide_eq_false tO;simp only[hk,zaX];rw[if_neg (show ¬k=k+1+i by omega)]
end
theorem qLl {P:Program} {o:Oper} {b b':Act} {W:World} {next:Act→World→Prop} {Q:Exit→Act→World→Prop} {G:Value→World→Prop} (he:execOp b'.eval o=execOp b.eval o)
  (h:o.wp P b W (fun c W'=> ∃v,c=b.put o.dst v∧G v W') (fun e _ _=>e= .outgrown∧False))
  (hz: ∀t,o.dst=some t→t<b.tmps.size) (hn: ∀v W',G v W'→next (b'.put o.dst v) W'):o.wp P b' W next Q:=by
 have key: ∀v W',(∃u,b.put o.dst v=b.put o.dst u∧G u W')→next (b'.put o.dst v) W':=fun v W' ⟨u,hu,hg⟩=>by
  have:=hn u W' hg
  cases hd:o.dst with
  | none=>rw[hd] at this;exact this
  | some t=>
    rw[hd] at this hu;have e:v=u:=by
     have h1:=congrArg (fun c:Act=>c.tmps[t]?) hu;simp only[Act.put] at h1;rw[zah (hz t hd),zah (hz t hd)] at h1;injection h1
    rw[e];exact this
 unfold Oper.wp at*;rw[he];generalize (execOp b.eval o).run P W=r at*;cases r with
 | ok n w'=>
   cases n<;>simp only[Oper.upon] at h⊢
   case value v=>exact key v w' h
   case skip=>exact key undef w' h
   case defer d=> 
    obtain⟨v,hv,_⟩:=h;exfalso
    have h1:=congrArg (fun c:Act=>c.defers.length) hv;have e1: ∀(c:Act) (v:Value),(c.put o.dst v).defers=c.defers:=fun c v=>by cases o.dst<;>rfl
    simp[e1] at h1
   case enter f args=>
    refine Calls.mono h fun e w'' he=> ?_;cases e with
    | returned v=>exact key v w'' he
    | panicked c=>exact he.2.elim
    | outgrown=>obtain⟨_,_,h1⟩:=he;exact h1.2.elim
   case row row args=>exact Rows.mono h fun v w'' he=>key v w'' he
 | halt x w'=>cases x<;>simp only[Oper.upon] at h⊢ <;>exact h.2.elim
section
variable {P:Program} {l:List Oper} {L:List Sp} {w:World} {a:Act} {Q:Exit→Act→World→Prop}
theorem qGk {listed:Array Bool} {i:Nat} (hi:i<listed.size) (h:listed.getD i false=false) (n:Nat) (hn:i<n):
  ((zam n).filter fun j=> !(listed.setIfInBounds i true).getD j false).length+1=((zam n).filter fun j=> !listed.getD j false).length:=by
 induction n with
 | zero=>omega
 | succ n ih=>
   rw[List.range_succ,zaZ,zaZ,zaJ,zaJ];by_cases e:i=n
   ·subst e;have e1:(zam i).filter (fun j=> !(listed.setIfInBounds i true).getD j false)=(zam i).filter fun j=> !listed.getD j false:=by
     refine List.filter_congr fun j hj=> ?_;rw[getD_set_ne false (by have:=zar.1 hj;omega)]
    have e2:(listed.setIfInBounds i true).getD i false=true:=by simp[hi]
    rw[e1];simp only[zas,za5,e2,h,Bool.not_true,za8,zaY,if_false,if_true,za4,zaU]
   ·have:=ih tO
    simp only[zas,za5,getD_set_ne false e];omega
end
inductive Sg where
 | val (c:Value)
 | pur (q:(Nat→Value)→Value→Prop)
 | mem (p:(Nat→Value)→World→Value→Prop)
def Sg.R (vs:Nat→Value):Sg→World→Value→Prop
 | .val c,_,v=>v=c
 | .pur q,_,v=>q vs v
 | .mem p,W,v=>p vs W v
def Sg.isMem:Sg→Bool
 | .mem _=>true
 | _=>false
def Sg.pick:Sg→Value→Value
 | .val c,_=>c
 | _,v=>v
theorem Sg.pick_of (vs:Nat→Value): ∀(s:Sg) {W:World} {v:Value},s.R vs W v→s.pick v=v
 | .val _,_,_,h=>h.symm
 | .pur _,_,_,_=>rfl
 | .mem _,_,_,_=>rfl
def qAo (l:List Oper) (k:Nat) (vs:Nat→Value):Nat→Value:=fun j=>if qAJ l l.length k j=true then vs j else undef
theorem qBv {l:List Oper} {k j:Nat} {vs:Nat→Value} (h:qAJ l l.length k j=true):qAo l k vs j=vs j:=if_pos h
def sgA (L:List Sg) (k:Nat):Sg:=L.getD k (.val undef)
def tnA (T:List (Option (World→World→Prop))) (k:Nat):World→World→Prop:=match T.getD k none with
 | none=>fun W W'=>W'=W
 | some t=>t
def clG (l:List Oper) (L:List Sg) (T:List (Option (World→World→Prop))):List (Nat×Nat):=
 (zam l.length).flatMap fun i=>(zam l.length).filterMap fun k=>if(sgA L i).isMem&&(T.getD k none).isSome&& !(i==k)&& !qAJ l l.length i k then some (i,k) else none
def Stb (I:World→Prop) (L:List Sg) (T:List (Option (World→World→Prop))):List (Nat×Nat)→Prop
 | []=>True
 | q::r=>(∀vs W W' v,I W→I W'→tnA T q.2 W W'→(sgA L q.1).R vs W v→(sgA L q.1).R vs W' v)∧Stb I L T r
def Its (I:World→Prop):List (Option (World→World→Prop))→Prop
 | []=>True
 | none::r=>Its I r
 | some t::r=>(∀W W',I W→t W W'→I W')∧Its I r
theorem Its.at {I:World→Prop}: ∀ {T:List (Option (World→World→Prop))},Its I T→ ∀t,some t∈T→ ∀W W',I W→t W W'→I W'
 | none::r,h,t,ht=>by
   rcases zaB.1 ht with e | ht
   ·cases e
   ·exact Its.at (T:=r) h t ht
 | some u::r,h,t,ht=>by
   rcases zaB.1 ht with e | ht
   ·injection e with e;subst e;exact h.1
   ·exact Its.at (T:=r) h.2 t ht
theorem Stb.at {I:World→Prop} {L:List Sg} {T:List (Option (World→World→Prop))}: ∀ {X:List (Nat×Nat)},Stb I L T X→ ∀q∈X,∀vs W W' v,I W→I W'→tnA T q.2 W W'→(sgA L q.1).R vs W v→(sgA L q.1).R vs W' v
 | _::_,h,q,hq=>by
   rcases zaB.1 hq with rfl | hq
   ·exact h.1
   ·exact h.2.at q hq
def Obw (P:Program) (J:Nat→World→Prop) (l:List Oper) (L:List Sg) (T:List (Option (World→World→Prop))) (vs:Nat→Value) (Q:Exit→Act→World→Prop):List Oper→List Sg→Nat→Act→Prop
 | [],_,_,b=> ∀W',Hid (J l.length W')→Hid (∀j,j<l.length→(sgA L j).R (qAo l j vs) W' (vs j))→Q .normal b W'
 | _::_,[],_,_=>False
 | o::r,s::ss,k,b=>(∀W K Q0,Hid (J k W)→Hid (∀j,qAJ l l.length k j=true→(sgA L j).R (qAo l j vs) W (vs j))→Hid (∀v W',tnA T k W W'→s.R (qAo l k vs) W' v→K (b.put o.dst v) W')→o.wp P b W K Q0)∧Obw P J l L T vs Q r ss (k+1) (b.put o.dst (s.pick (vs k)))
section
variable {P:Program} {I Hs:World→Prop} {D:List Nat} {J:Nat→World→Prop} {l:List Oper} {L:List Sg} {T:List (Option (World→World→Prop))} {w:World} {a:Act} {Q:Exit→Act→World→Prop}
def okD (l:List Oper) (D:List Nat) (i:Nat):Bool:=D.all fun d=>d==i||qAJ l l.length d i
def JH (I Hs:World→Prop) (l:List Oper) (D:List Nat) (i:Nat) (W:World):Prop:=I W∧(okD l D i=true→Hs W)
def ItD (I Hs:World→Prop) (D:List Nat) (T:List (Option (World→World→Prop))):Nat→List (Option (World→World→Prop))→Prop
 | _,[]=>True
 | k,none::r=>ItD I Hs D T (k+1) r
 | k,some t::r=>(k∈D∨ ∀W W',I W→Hs W→t W W'→Hs W')∧ItD I Hs D T (k+1) r
theorem ItD.at {I Hs:World→Prop} {D:List Nat} {T:List (Option (World→World→Prop))}: ∀ {r:List (Option (World→World→Prop))} {k:Nat},ItD I Hs D T k r→ ∀i t,r[i]? =some (some t)→k+i∈D∨ ∀W W',I W→Hs W→t W W'→Hs W'
 | none::r,k,h,i,t,ht=>by
   cases i with
   | zero=>simp at ht
   | succ i=>have:=ItD.at (r:=r) (k:=k+1) h i t (by simpa using ht);rwa [show k+1+i=k+(i+1) by omega] at this
 | some u::r,k,h,i,t,ht=>by
   cases i with
   | zero=>simp at ht;subst ht;exact h.1
   | succ i=>have:=ItD.at (r:=r) (k:=k+1) h.2 i t (by simpa using ht);rwa [show k+1+i=k+(i+1) by omega] at this
theorem qLs {vs:Nat→Value} (hvs: ∀j,j<l.length→(sgA L j).pick (vs j)=vs j): ∀(r:List Oper) (ss:List Sg) (k:Nat) (b:Act),(∀j,r[j]? =l[k+j]?)→(∀j,ss.getD j (.val undef)=sgA L (k+j))→Obw P J l L T vs Q r ss k b→
  (∀i o,r[i]? =some o→ ∀W K Q0,Hid (J (k+i) W)→Hid (∀j,qAJ l l.length (k+i) j=true→(sgA L j).R (qAo l j vs) W (vs j))→Hid (∀v W',tnA T (k+i) W W'→(sgA L (k+i)).R (qAo l (k+i) vs) W' v→K ((actV (fun j=>decide (j<k+i)) vs r k b).put o.dst v) W')→o.wp P (actV (fun j=>decide (j<k+i)) vs r k b) W K Q0)∧
  (∀W',Hid (J l.length W')→Hid (∀j,j<l.length→(sgA L j).R (qAo l j vs) W' (vs j))→Q .normal (actV (fun _=>true) vs r k b) W')
 | [],_,_,_,_,_,h=>⟨fun i o ho=>by simp at ho,h⟩
 | _::_,[],_,_,_,_,h=>h.elim
 | o::r,s::ss,k,b,hr,hs,h=>by
   obtain⟨h1,h2⟩:=h;have aP:s=sgA L k:=by simpa using hs 0
   have hk:k<l.length:=by
    have:=hr 0
    rw[zaq] at this;exact(zai.1 this.symm).1
   rw[aP,hvs k hk] at h2;have hn:=qLs hvs r ss (k+1) _ (fun j=>by have:=hr (j+1);rw[show k+(j+1)=k+1+j by omega] at this;simpa using this) (fun j=>by have:=hs (j+1);rw[show k+(j+1)=k+1+j by omega] at this;simpa using this) h2;refine⟨fun i o' cC=> ?_,?_⟩
   ·cases i with
    | zero=>
      obtain rfl:o=o':=by simpa using cC
      have e:actV (fun j=>decide (j<k+0)) vs (o::r) k b=b:=by
       unfold actV;rw[decide_eq_false tO];have: ∀(r:List Oper) (k2:Nat) (b:Act),k≤k2→actV (fun j=>decide (j<k+0)) vs r k2 b=b:=by
        intro r;induction r with
        | nil=>intros;rfl
        | cons o r ih=>
          intro k2 b iL;unfold actV;rw[decide_eq_false tO];exact ih (k2+1) b tO
       exact this r (k+1) b tO
      rw[e,zaq,←aP];exact h1
    | succ i=>
      have e:k+(i+1)=k+1+i:=tO;have:=hn.1 i o' (by simpa using cC)
      rw[e];unfold actV;rw[decide_eq_true tO];exact this
   ·exact hn.2
theorem qOd (hB:freB l=true) (aq: ∀(i:Nat) (o:Oper),l[i]? =some o→ ∀t,o.dst=some t→t<a.tmps.size)
  (hIT: ∀t,some t∈T→ ∀W W',I W→t W W'→I W') (hHT:ItD I Hs D T 0 T) (hst:Stb I L T (clG l L T)) (h: ∀vs,Obw P (JH I Hs l D) l L T vs Q l L 0 a): ∀(fuel:Nat) (listed:Array Bool) (vs:Nat→Value) (W:World),
  ((zam l.length).filter fun j=> !listed.getD j false).length=fuel→Cl l.toArray listed→I W→((∀d∈D,listed.getD d false=false)→Hs W)→(∀j,j<l.length→(sgA L j).pick (vs j)=vs j)→(∀j,listed.getD j false=true→(sgA L j).R (qAo l j vs) W (vs j))→
  wpAny P .any l.toArray Q fuel listed (actV (fun j=>listed.getD j false) vs l 0 a) W:=by
 have hI: ∀k W W',I W→tnA T k W W'→I W':=fun k W W' hi ht=>by
  unfold tnA at ht;cases e:T.getD k none with
  | none=>rw[e] at ht;rw[show W'=W from ht];exact hi
  | some t=>
    rw[e] at ht;refine hIT t ?_ W W' hi ht;rw[zaK] at e;cases e2:T[k]? with
    | none=>rw[e2] at e;cases e
    | some q=>rw[e2] at e;simp only[za3] at e;subst e;exact zaW e2
 have hH: ∀k W W',I W→k∉D→Hs W→tnA T k W W'→Hs W':=fun k W W' hi hk hs ht=>by
  unfold tnA at ht;cases e:T.getD k none with
  | none=>rw[e] at ht;rw[show W'=W from ht];exact hs
  | some t=>
    rw[e] at ht;rw[zaK] at e;cases e2:T[k]? with
    | none=>rw[e2] at e;cases e
    | some q=>
      rw[e2] at e;simp only[za3] at e;subst e;rcases hHT.at k t e2 with h | h
      ·rw[zag] at h;exact absurd h hk
      ·exact h W W' hi hs ht
 have all: ∀(listed:Array Bool) (vs:Nat→Value) (W:World),Cl l.toArray listed→I W→((∀d∈D,listed.getD d false=false)→Hs W)→(∀j,j<l.length→(sgA L j).pick (vs j)=vs j)→(∀j,listed.getD j false=true→(sgA L j).R (qAo l j vs) W (vs j))→(∀j,j<l.length→listed.getD j false=true)→Q .normal (actV (fun j=>listed.getD j false) vs l 0 a) W:=fun listed vs W hc hb hd hp hr hl=>by
  have:=(qLs hp l L 0 a (fun j=>by rw[zag]) (fun j=>by rw[zag];rfl) (h vs)).2 W (qA ⟨hb,fun ok=>hd fun d hd'=>by
   have h1:=zat.1 ok d hd';simp only[zax,beq_iff_eq] at h1;rcases h1 with h1 | h1
   ·rw[zak,zap (by rw[hc.1,h1];simp)];rfl
   ·have h2:=qEf hB _ _ _ h1;rw[zak,zap (by rw[hc.1];simp;omega)];rfl⟩) (qA fun j hj=>hr j (hl j hj))
  rwa [qBq (S':=fun _=>true) (vs':=vs) l 0 a fun j hj=>by rw[zag];exact⟨hl j hj,fun _=>rfl⟩]
 have none_ready: ∀(listed:Array Bool),Cl l.toArray listed→Region.ready .any l.toArray listed= []→ ∀j,j<l.length→listed.getD j false=true:=fun listed hc hr j=>by
  induction j using Nat.strongRecOn with
  | _ j ih=>
    intro hj;by_cases q:listed.getD j false=true
    ·exact q
    ·exfalso
     have:j∈Region.ready .any l.toArray listed:=by
      rw[mem_ready];refine⟨by rw[qAg (by rw[hc.1];simpa using hj)];simpa using q,l[j],by simp[hj],fun e he hb=> ?_⟩;have:=((qEr hB).2 j l[j] (zaO hj)).2.1 e he hb
      exact ih e.on this tO
     rw[hr] at this;cases this
 intro fuel;induction fuel with
 | zero=>
   intro listed vs W hf hc hb hd hp hr;have hl: ∀j,j<l.length→listed.getD j false=true:=fun j hj=>by
    have:=List.filter_eq_nil_iff.1 (zay hf) j (zar.2 hj)
    simpa using this
   refine⟨?_,all listed vs W hc hb hd hp hr hl⟩;cases hq:Region.ready .any l.toArray listed with
   | nil=>rfl
   | cons i r=>
     obtain⟨h1,o,ho,_⟩:=mem_ready.1 (show i∈Region.ready .any l.toArray listed by rw[hq];simp);have hi:i<l.length:=by simpa using (Array.getElem?_eq_some_iff.1 ho).1
     rw[qAg (by rw[hc.1];simpa using hi),hl i hi] at h1;cases h1
 | succ fuel ih=>
   intro listed vs W hf hc hb hd hp hr;refine⟨fun h0=>all listed vs W hc hb hd hp hr (none_ready listed hc h0),fun i hi=> ?_⟩;obtain⟨h1,o,ho,nR⟩:=mem_ready.1 hi;have cC:l[i]? =some o:=by simpa using ho
   have fE:i<l.length:=(zai.1 cC).1;have rq:i<listed.size:=by rw[hc.1];simpa using fE
   have fg:listed.getD i false=false:=by rw[←qAg rq];exact h1
   obtain⟨dH,_,u9,oD⟩:=(qEr hB).2 i o cC;have nj:=fun (cs:Array SelectCase) (b:Bool)=>Region.noSelect_spec (qEr hB).1 i o cs b ho;have l7:=(qLs hp l L 0 a (fun j=>by rw[zag]) (fun j=>by rw[zag];rfl) (h vs)).1 i o cC;rw[zag] at l7;have l3: ∀j,qAJ l l.length i j=true→listed.getD j false=true:=fun j hj=>qBa hc l.length i j (fun o2 gt e he hb=>by rw[cC] at gt;injection gt with gt;subst gt;exact nR e he hb) hj;have dE: ∀j,listed.getD j false=true→qAJ l l.length j i=false:=fun j hj=>by
    cases q:qAJ l l.length j i with
    | false=>rfl
    | true=>
      have:=qBa hc l.length j i (fun o2 gt e he hb=>hc.2 j o2 (by simpa using gt) hj e he hb) q
      rw[fg] at this;cases this
   have Fa:=l7 W (fun c W'=> ∃v,c=(actV (fun j=>decide (j<i)) vs l 0 a).put o.dst v∧(tnA T i W W'∧(sgA L i).R (qAo l i vs) W' v)) (fun e _ _=>e= .outgrown∧False) (qA ⟨hb,fun ok=>hd fun d hd'=>by
    have h1:=zat.1 ok d hd';simp only[zax,beq_iff_eq] at h1;rcases h1 with h1 | h1
    ·rw[h1];exact fg
    ·cases q:listed.getD d false with
     | false=>rfl
     | true=>have:=dE d q;rw[h1] at this;cases this⟩) (qA fun j hj=>hr j (l3 j hj)) (qA fun v W' hbv hv=>⟨v,rfl,hbv,hv⟩)
   unfold wpOp;simp only[ho];rw[if_pos (qAb dH _)];refine .inl (qLl ?_ Fa (fun t ht=> ?_) fun v W' ⟨hbv,hv⟩=> ?_)
   ·refine execOp_congr o (fun cs b e=>nj cs b e) fun x hx=> ?_;cases x with
    | tmp t=>
      refine qGb l 0 a a rfl rfl fun k o' hk hd=> ?_;rw[zag];have ht:t∈o.looksAt l.toArray:=List.mem_append_left _ (zav.2 ⟨.tmp t,by simpa using hx,rfl⟩);rcases oD k o' t hk hd ht with q | q
      ·rw[l3 k q,decide_eq_true (qEf hB _ _ _ q)]
      ·have Cy:=qEf hB _ _ _ q;rw[decide_eq_false tO];cases ll:listed.getD k false with
       | false=>rfl
       | true=>
         exfalso
         have:=dE k ll
         rw[q] at this;cases this
    | const v=>rfl
    | global g=>rfl
    | func f=>rfl
   ·have: ∀(S:Nat→Bool) (r:List Oper) (k:Nat) (b:Act),(actV S vs r k b).tmps.size=b.tmps.size:=by
     intro S r;induction r with
     | nil=>intros;rfl
     | cons o r ih=>intro k b;unfold actV;rw[ih];split;exact qFp _ _ _;rfl
    rw[this];exact aq i o cC t ht
   ·have e:=qHl (S:=fun j=>listed.getD j false) (vs:=vs) (v:=v) l 0 a i o cC (by rw[zag];exact fg) fun j o2 hj eC d hd=>u9 j o2 hj eC d hd;rw[zag] at e;rw[e];rw[qBq (S':=fun j=>(listed.setIfInBounds i true).getD j false) (vs':=fun j=>if j=i then v else vs j) l 0 a fun j hj=>⟨by
     rw[zag];by_cases q:j=i
     ·subst q;simp[rq]
     ·rw[decide_eq_false q,zaX,getD_set_ne false (fun e=>q e.symm)],fun _=>rfl⟩]
    have fW: ∀j,(listed.setIfInBounds i true).getD j false=true→j≠i→listed.getD j false=true:=fun j hj q=>by
     rwa [getD_set_ne false (fun e=>q e.symm)] at hj
    have jo: ∀j,qAJ l l.length j i=false→qAo l j (fun m=>if m=i then v else vs m)=qAo l j vs:=fun j hj=>by
     funext m
     unfold qAo;by_cases q:m=i
     ·subst q;rw[if_neg (by simp[hj]),if_neg (by simp[hj])]
     ·simp only[if_neg q]
    have FI:qAJ l l.length i i=false:=by
     cases q:qAJ l l.length i i with
     | false=>rfl
     | true=>have:=qEf hB _ _ _ q;omega
    have yw:I W':=hI i W W' hb hbv;refine ih (listed.setIfInBounds i true) _ W' ?_ (hc.set hi) yw (fun hd'=> ?_) (fun j hj=> ?_) (fun j hj=> ?_)
    ·have:=qGk rq fg l.length fE
     omega
    ·have uv:i∉D:=fun hm=>by have:=hd' i hm;simp[rq] at this
     exact hH i W W' hb uv (hd fun d wC=>by
      have ai:i≠d:=fun e=>uv (e▸wC);have:=hd' d wC
      rwa [getD_set_ne false ai] at this) hbv
    ·by_cases q:j=i
     ·subst q;simp only[if_true];exact Sg.pick_of _ _ hv
     ·simp only[if_neg q];exact hp j hj
    ·by_cases q:j=i
     ·subst q;simp only[if_true];rw[jo _ FI];exact hv
     ·simp only[if_neg q];have dS:=fW j hj q;rw[jo j (dE j dS)];have mO:j<l.length:=by
       by_cases q:j<l.length
       ·exact q
       ·rw[zak,zap (by rw[hc.1];simpa using q)] at dS;cases dS
      have fC:=hr j dS;cases hs:sgA L j with
      | val c=>rw[hs] at fC;exact fC
      | pur p=>rw[hs] at fC;exact fC
      | mem p=>
        cases ht:T.getD i none with
        | none=>
          have:W'=W:=by unfold tnA at hbv;rw[ht] at hbv;exact hbv
          rw[this,←hs];exact fC
        | some t=>
          rw[←hs];refine hst.at (j,i) ?_ _ W W' _ hb yw hbv fC;unfold clG;refine List.mem_flatMap.2 ⟨j,zar.2 mO,zav.2 ⟨i,zar.2 fE,?_⟩⟩;rw[if_pos];simp only[hs,ht,Sg.isMem,Option.isSome_some,dE j dS,za8,Bool.and_true,Bool.true_and];simpa using q
theorem qBC {id:Nat} (L:List Sg) (T:List (Option (World→World→Prop))) (I Hs:World→Prop) (D:List Nat) (X:List (Nat×Nat)) (hm:P.follows .mixedOrders=true) (hB:freB l=true) (hX:clG l L T=X) (aq:(l.all fun o=>match o.dst with | some t=>decide (t<a.tmps.size) | none=>true)=true)
  (hI0:I w.drew) (hH0:Hs w.drew) (hIT:Its I T) (hHT:ItD I Hs D T 0 T) (hst:Stb I L T X)
  (h: ∀vs,Obw P (JH I Hs l D) l L T vs Q l L 0 a):(Code.region id l.toArray true).wp P Q a w:=by
 refine wp_region_any hm ?_;subst hX;have hv: ∀j,j<l.length→(sgA L j).pick ((sgA L j).pick undef)=(sgA L j).pick undef:=fun j _=>by cases sgA L j<;>rfl
 have h0: ∀j,(zaG l.toArray.size false).getD j false=false:=fun j=>by
  simp only[zak,Array.getElem?_replicate];split<;>rfl
 have:=qOd (P:=P) (Q:=Q) hB (fun i o ho t ht=>by
  have:=zat.1 aq o (zaW ho)
  rw[ht] at this;simpa using this) hIT.at hHT hst h l.toArray.size (zaG l.toArray.size false) (fun j=>(sgA L j).pick undef) w.drew (by
   have:(zam l.length).filter (fun j=> !(zaG l.toArray.size false).getD j false)=zam l.length:=List.filter_eq_self.2 fun j _=>by rw[h0];rfl
   rw[this];simp) ⟨by simp,fun j o _ hj=>by rw[h0] at hj;cases hj⟩ hI0 (fun _=>hH0) hv (fun j hj=>by rw[h0] at hj;cases hj)
 have e:actV (fun j=>(zaG l.toArray.size false).getD j false) (fun j=>(sgA L j).pick undef) l 0 a=a:=by
  have: ∀(r:List Oper) (k:Nat) (b:Act),actV (fun j=>(zaG l.toArray.size false).getD j false) (fun j=>(sgA L j).pick undef) r k b=b:=by
   intro r;induction r with
   | nil=>intros;rfl
   | cons o r ih=>intro k b;unfold actV;rw[h0];exact ih _ _
  exact this l 0 a
 rw[e] at this;exact this
theorem Obw.mono {J J':Nat→World→Prop} (hJ: ∀k W,J' k W→J k W) {vs:Nat→Value}: ∀ {r:List Oper} {ss:List Sg} {k:Nat} {b:Act},Obw P J l L T vs Q r ss k b→Obw P J' l L T vs Q r ss k b
 | [],_,_,_,h=>fun W' hj hr=>h W' (qA (hJ _ _ hj.out)) hr
 | _::_,[],_,_,h=>h
 | _::_,_::_,_,_,h=>⟨fun W K Q0 hj hr hk=>h.1 W K Q0 (qA (hJ _ _ hj.out)) hr hk,h.2.mono hJ⟩
theorem qBE {I:World→Prop} {T:List (Option (World→World→Prop))}: ∀(r:List (Option (World→World→Prop))) (k:Nat),ItD I (fun _=>True) [] T k r
 | [],_=>trivial
 | none::r,k=>qBE r (k+1)
 | some _::r,k=>⟨.inr fun _ _ _ _ _=>trivial,qBE r (k+1)⟩
theorem qAK {id:Nat} (L:List Sg) (T:List (Option (World→World→Prop))) (I:World→Prop) (X:List (Nat×Nat)) (hm:P.follows .mixedOrders=true) (hB:freB l=true) (hX:clG l L T=X) (aq:(l.all fun o=>match o.dst with | some t=>decide (t<a.tmps.size) | none=>true)=true)
  (hI0:I w.drew) (hIT:Its I T) (hst:Stb I L T X)
  (h: ∀vs,Obw P (fun _=>I) l L T vs Q l L 0 a):(Code.region id l.toArray true).wp P Q a w:=
 qBC L T I (fun _=>True) [] X hm hB hX aq hI0 trivial hIT (qBE T 0) hst fun vs=>(h vs).mono fun _ _ hj=>hj.1
end
end Go.Proofs.YtnjpoljbagfdnaaGreat
