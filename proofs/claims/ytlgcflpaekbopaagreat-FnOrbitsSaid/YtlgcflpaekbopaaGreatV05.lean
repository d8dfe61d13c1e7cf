/- Parts of the proof: Core, CmpW, Rot, Tree, CanG, GrS, RankS, Trim, CoreI, Read, PowI, TwP, Sch, PowP, PowR, Rgg. -/
import Derived.Test.YtlgcflpaekbopaaGreatV02
import Derived.Deep.RegionHeld3
import Derived.Outline
import Derived.Test.YtlgcflpaekbopaaGreatV03
import Derived.Test.YtlgcflpaekbopaaGreatV04
import Derived.Lib.SliceRun
import Derived.Test.YtlgcflpaekbopaaGreatV01
set_option maxRecDepth 100000
set_option maxHeartbeats 16000000
set_option linter.unusedVariables false
set_option linter.unusedSimpArgs false
namespace Go.Proofs.YtlgcflpaekbopaaGreat
open Go.RowKit
open _root_.Nat renaming le_refl→zaa,zero_le→zal,le_of_lt→zan,add_zero→zaz,zero_add→zaD,lt_or_ge→zaE,eq_zero_or_pos→zaO,lt_or_eq_of_le→zaP,le_of_lt_succ→zaR
open Go.RowKit.Below renaming refl→zab,drew→zad,heap_alloc→zaF
open Go.Value renaming ownBlock→zac,slice→zaw
open Go.World renaming cell?_setCell_other→zae,ownsRow→zao,cell?_setCell_same→zat,frozen?_setCell→zay,cell?_of_block→zaA,drewN_drewN→zaC,frozen?_of_block→zaK
open _root_.List renaming getElem?_eq_getElem→zaf,getD_eq_getElem?_getD→zag,length_append→zah,getElem?_eq_some_iff→zai,length_nil→zaj,take_length→zam,eq_nil_of_length_eq_zero→zap,range→zaq,length_set→zas,replicate→zau,take_succ_eq_append_getElem→zax,length_take→zaG,length_drop→zaH,getD→zaI,getElem_set_ne→zaL,ext_getElem→zaS,all_eq_true→zaT,mem_range→zaU
open _root_.Int renaming toNat_natCast→zak,lt_trichotomy→zav,lt_or_le→zaM,add_emod_right→zaN,emod_eq_of_lt→zaQ
open _root_.Bool renaming and_eq_true→zar,or_eq_true→zaB,eq_iff_iff→zaJ
open _root_.Option renaming some→zaV
theorem qQO {w:World} {u:Value} {xs:List Int} (h:RdI w u xs):RdII (w.alloc (.cells #[u] 24)) (.slice (some ⟨w.heap.size,0,none⟩) 1 1) [xs]:=
 (qAx.lit w [u] [xs] rfl (fun i h1 h2=>by
  match i,h1,h2 with
  | 0,_,_=>exact h) (by simp) (zaa _)).rd
theorem qDM (v:Value) (xs:List Int) (w:World) (h:RdI w v xs) (hl:xs.length≤536870912):
  Calls Tryz.prog 132 #[v] w fun e w'=> ∃r,e= .returned r∧OwI w' w.heap.size r (redL [] xs)∧Below w.heap.size w w':=by
 have H:=qA h;obtain⟨A,cap,rfl,_⟩:=h.arg;clear h;go_enter Tryz.func132,Tryz.ntmps132
 go_wp2_with (go_at_call 103;refine(qGt _ [xs] _ (qQO H.out) (by simp[qu];omega) (by simp)).mono ?_;rintro e w1 ⟨r1,rfl,o1,b1⟩;have O1:=qA o1;have B1:=qA b1;clear o1 b1)
 go_ret;exact⟨_,rfl,by have:=O1.out.mono (base':=w.heap.size) (by simp);simpa[qEX] using this,(by repeat(first | exact .refl _ _ | (refine BxS ?_ _) | (refine qB ?_ _) | (refine zad ?_) | (refine BxA ?_ _) | (refine BxT ?_ (Hid.out B1))))⟩
theorem OwI.form2 {w:World} {base:Nat} {v:Value} {xs:List Int} (h:OwI w base v xs):(v= .slice none 0 0∧xs= [])∨ ∃g cap,v= .slice (some ⟨g,0,none⟩) xs.length cap∧xs.length≤cap∧cap≤maxLen∧base≤g∧g<w.heap.size:=by
 rcases h.1.2 with ⟨hv,hn⟩ | ⟨g,cap,cur,hv,hg,hh,hnc,fB,_⟩
 ·exact .inl ⟨hv,zap hn⟩
 ·exact .inr ⟨g,cap,hv,hnc,fB,hg,qe hh⟩
theorem qKA {W:World} {g cap:Nat} {c:List Int} {k:Nat} (h:RdI W (.slice (some ⟨g,0,none⟩) c.length cap) c) (hk:2*k≤c.length) (lT: ¬cap=k):
  RdI W (.slice (some ⟨g,k,none⟩) (c.length-k-k) (cap-k)) ((c.take (c.length-k)).drop k):=by
 have h1:=h.head (k:=c.length-k) rfl tO;have e:(c.take (c.length-k)).length=c.length-k:=by simp
 have h2:=RdI.cut (k:=k) (A:=some ⟨g,0,none⟩) (cap:=cap) h1 (by rw[e]) (by rw[e];omega);rw[if_neg lT,e] at h2;simpa[Addr.add_lit] using h2
theorem qCB (v:Value) (xs:List Int) (w:World) (h:RdI w v xs) (hl:xs.length≤536870912):
  Calls Tryz.prog 112 #[v] w fun e w'=> ∃r s,e= .returned (.tuple #[r,s])∧OwI w' w.heap.size r (qAL xs)∧RdI w' s (qPC xs)∧Below w.heap.size w w':=by
 have H:=qA h;obtain⟨A,cap,rfl,_⟩:=h.arg;clear h;have aZ:(redL [] xs).length≤536870912:=by have:=qCn [] xs;simp only[zaj] at this;omega
 have F1:Hid (qAL xs=qBt (redL [] xs)):=qA rfl;have F2:Hid (qPC xs=(redL [] xs).take (qk (redL [] xs))):=qA rfl;go_enter Tryz.func112,Tryz.ntmps112
 go_wp2_with fail;refine(qDM _ xs _ H.out hl).mono ?_
 rintro e w1 ⟨r1,rfl,o1,b1⟩;have O1:=qA o1;have B1:=qA b1;clear o1 b1;generalize redL [] xs=c at*;have aA:=B1.out.size;rcases O1.out.form2 with ⟨rfl,rfl⟩ | ⟨g,ah,rfl,aX,cJ,fd,dC⟩
 ·have hz:RdI w1 (.slice none 0 0) []:=O1.out.rd;have HZ:=qA hz.drew;have BB:=qA B1.out.drew;go_wp2_with fail;refine wp_loop_rounds 1 ?_;rw[rounds_succ];go_wp2_with fail;go_quiet (fail)
  go_wp2_with fail;replace HZ:=qA (hz.drewN nq).drew;replace BB:=qA (qB B1.out nq).drew;generalize w1.drewN nq=wa at HZ BB⊢;have fN:=qA BB.out.size;go_region_held3 (fun w'=>True) (go_keep)
   (first | (go_at_call 63;(with_reducible refine(qAC (.slice none 0 0) [] _ HZ.out (by simp)).mono ?_);rintro e w2 ⟨r1,rfl,o1,b1⟩;(first | (replace OA:=qA (OA.out.below b1);have OB:=qA o1) | have OA:=qA o1);replace HZ:=qA (HZ.out.below b1);replace BB:=qA (BB.out.trans (b1.mono BB.out.size));clear o1 b1))
  go_wp2;go_ret2
  exact⟨_,_,rfl,by rw[F1.out];exact OA.out.mono fN.out,by rw[F2.out];exact OB.out.rd,BB.out⟩
 unfold maxLen at cJ;go_wp2_with fail;go_loopw [5,6] (fun f t wr=> ∃k:Nat,2*k≤c.length∧f= .int .i64 k∧t= .int .i64 ((c.length:Int)-(k:Int))∧qAS c (c.length-k) k=qk c∧ ∃n,wr=w1.drewN n)
  (fun f _ _=>c.length-(intOf f).toNat)
 case atStart=>exact⟨0,tO,rfl,by simp,rfl,0,rfl⟩
 case round=>
  obtain⟨k,hk,rfl,rfl,hst,n,rfl⟩:=hrel;have a6:=qA hst;clear hst;have fin:qk c=k→qBt c=(c.take (c.length-k)).drop k∧c.take (qk c)=c.take k:=fun e=>by
   unfold qBt;rw[e];exact⟨rfl,rfl⟩
  have FIN:=qA fin;have JM:(0:Int)≤(k:Int):=tO;have H6:(k:Int)≤(ah:Int):=tO;have Ft:(k:Int)≤(c.length:Int)-(k:Int):=tO;have Fh:(c.length:Int)-(k:Int)≤(ah:Int):=tO;have fH:((c.length:Int)-(k:Int)).toNat=c.length-k:=tO;clear fin;by_cases h2:2*k+2≤c.length
  ·obtain⟨b,off,hA,aM,hc⟩:=O1.out.rd.at tO;obtain⟨rfl,rfl⟩:g=b∧0=off:=by simpa using hA
   have ae:=hc k tO;have aB:=hc (c.length-1-k) tO;rw[zaD] at ae aB;have aQ:c.getD k 0=c[k]:=by simp[zaI,show k<c.length by omega]
   have bU:c.getD (c.length-1-k) 0=c[c.length-1-k]:=by simp[zaI,show c.length-1-k<c.length by omega]
   have gA:Hid (invB c[k] c[c.length-1-k]=true→qAS c (c.length-(k+1)) (k+1)=qk c):=qA fun e=>qHd a6.out h2 (by rw[aQ,bU];exact e);have di:Hid (invB c[k] c[c.length-1-k]=false→qk c=k):=qA fun e=>qBo a6.out (by rintro⟨_,e'⟩;rw[aQ,bU,e] at e';cases e');have HI:=qA (O1.out.2 c[k] (by simp));have fd:decide ((2:Int)≤(c.length:Int)-(k:Int)-(k:Int))=true:=by simp;omega
   have bg:((c.length:Int)-(k:Int)-1).toNat=c.length-1-k:=tO;clear hc aQ bU hA;generalize c[k]=x at ae gA di HI;generalize c[c.length-1-k]=y at aB gA di;rcases hiv:invB x y with _ | _
   ·have uu:Hid (∀W:World,Calls Tryz.prog 111 #[.int .i64 x, .int .i64 y] W fun e w'=>e= .returned (.bool false)∧W=w'):=qA fun W=>by have:=qAZ x y W HI.out;rw[hiv] at this;exact this
    have HK:=qA (di.out hiv);clear hiv;go_wp2;go_quiet ((go_at_call 111;first | exact qJ (uu.out _) | exact qF (uu.out _)))
    go_wp2;have lT: ¬ah=k:=tO;have HC:=qA ((qKA O1.out.rd hk lT).drewN (n+nq)).drew;have HD:=qA ((O1.out.rd.head (k:=k) rfl tO).drewN (n+nq)).drew;have BB:=qA (qB B1.out (n+nq)).drew;rw[zaC];generalize w1.drewN (n+nq)=wa at HC HD BB⊢;have fN:=qA BB.out.size;go_region_held3 (fun w'=>True) (go_keep)
     (first
     | (go_at_call 63;(with_reducible refine(qAC (.slice (some ⟨g,k,none⟩) (c.length-k-k) (ah-k)) _ _ HC.out (by simp;omega)).mono ?_);rintro e w2 ⟨r1,rfl,o1,b1⟩;have OA:=qA o1;replace HD:=qA (HD.out.below b1);replace BB:=qA (BB.out.trans (b1.mono BB.out.size));clear o1 b1)
     | (go_at_call 63;(with_reducible refine(qAC (.slice (some ⟨g,0,none⟩) k ah) _ _ HD.out (by simp;omega)).mono ?_);rintro e w2 ⟨r1,rfl,o1,b1⟩;have OB:=qA o1;replace OA:=qA (OA.out.below b1);replace BB:=qA (BB.out.trans (b1.mono BB.out.size));clear o1 b1))
    go_wp2;go_ret2
    refine⟨_,_,rfl,?_,?_,BB.out⟩
    ·rw[F1.out,(FIN.out HK.out).1];exact OA.out.mono fN.out
    ·rw[F2.out,(FIN.out HK.out).2];exact OB.out.rd
   ·have uu:Hid (∀W:World,Calls Tryz.prog 111 #[.int .i64 x, .int .i64 y] W fun e w'=>e= .returned (.bool true)∧W=w'):=qA fun W=>by have:=qAZ x y W HI.out;rw[hiv] at this;exact this
    have HK:=qA (gA.out hiv);clear hiv;go_wp2;go_quiet ((go_at_call 111;first | exact qJ (uu.out _) | exact qF (uu.out _)))
    go_wp2;go_roundw
    case rel=>exact⟨k+1,tO,by go_num,by congr 1;omega,HK.out,_,rfl⟩
    case measure=>simp[intOf];omega
  ·have fd:decide ((2:Int)≤(c.length:Int)-(k:Int)-(k:Int))=false:=by simp;omega
   have HK:=qA (qBo a6.out (fun h=>h2 h.1));go_wp2;go_quiet (fail)
   go_wp2;rcases oH:decide (ah=k) with _ | _
   ·have lT: ¬ah=k:=by simpa using oH
    have HC:=qA ((qKA O1.out.rd hk lT).drewN (n+nq)).drew;have HD:=qA ((O1.out.rd.head (k:=k) rfl tO).drewN (n+nq)).drew;have BB:=qA (qB B1.out (n+nq)).drew;rw[zaC];generalize w1.drewN (n+nq)=wa at HC HD BB⊢;have fN:=qA BB.out.size;go_region_held3 (fun w'=>True) (go_keep)
     (first
     | (go_at_call 63;(with_reducible refine(qAC (.slice (some ⟨g,k,none⟩) (c.length-k-k) (ah-k)) _ _ HC.out (by simp;omega)).mono ?_);rintro e w2 ⟨r1,rfl,o1,b1⟩;have OA:=qA o1;replace HD:=qA (HD.out.below b1);replace BB:=qA (BB.out.trans (b1.mono BB.out.size));clear o1 b1)
     | (go_at_call 63;(with_reducible refine(qAC (.slice (some ⟨g,0,none⟩) k ah) _ _ HD.out (by simp;omega)).mono ?_);rintro e w2 ⟨r1,rfl,o1,b1⟩;have OB:=qA o1;replace OA:=qA (OA.out.below b1);replace BB:=qA (BB.out.trans (b1.mono BB.out.size));clear o1 b1))
    go_wp2;go_ret2
    refine⟨_,_,rfl,?_,?_,BB.out⟩
    ·rw[F1.out,(FIN.out HK.out).1];exact OA.out.mono fN.out
    ·rw[F2.out,(FIN.out HK.out).2];exact OB.out.rd
   ·obtain rfl:ah=k:=by simpa using oH
    obtain rfl:ah=0:=tO
    obtain rfl:c= []:=zap tO
    have HZ:Hid (RdI (w1.drewN (n+nq)).drew (.slice (some ⟨g,0,none⟩) 0 0) []):=qA (O1.out.rd.drewN (n+nq)).drew;have BB:=qA (qB B1.out (n+nq)).drew;rw[zaC];generalize w1.drewN (n+nq)=wa at HZ BB⊢;have fN:=qA BB.out.size;go_region_held3 (fun w'=>True) (go_keep)
     (first | (go_at_call 63;(with_reducible refine(qAC (.slice (some ⟨g,0,none⟩) 0 0) [] _ HZ.out (by simp)).mono ?_);rintro e w2 ⟨r1,rfl,o1,b1⟩;(first | (replace OA:=qA (OA.out.below b1);have OB:=qA o1) | have OA:=qA o1);replace HZ:=qA (HZ.out.below b1);replace BB:=qA (BB.out.trans (b1.mono BB.out.size));clear o1 b1))
    go_wp2;go_ret2
    exact⟨_,_,rfl,by rw[F1.out];exact OA.out.mono fN.out,by rw[F2.out];exact OB.out.rd,BB.out⟩
def qLy:Value→Nat
 | .slice _ n _=>n
 | _=>0
theorem qNY {x y:Int} (hx:I64 x) (hy:I64 y):invB x y=((x==wrap64 (-y))&&(x != wrap64 (-x))):=by
 have hw:wrap64 (- -9223372036854775808)= -9223372036854775808:=by decide+kernel
 have iU:=hx;have iL:=hy;unfold I64 at iU iL;unfold invB;by_cases h1:x= -9223372036854775808
 ·subst h1;rw[hw];simp
 ·by_cases h2:y= -9223372036854775808
  ·subst h2;rw[hw,zaJ];simp;omega
  ·rw[I64.neg hx h1,I64.neg hy h2,zaJ];simp;omega
theorem qOS (w:World) (a:Addr) (c:Nat) (hc:c≤maxLen):RdI w (.slice (some a) 0 c) []:=
 ⟨⟨rfl,some a,c,rfl,zal _,hc,(fun h=>by cases h),fun h=>absurd h (by simp)⟩,qS⟩
theorem qNt {W:World} {g cap:Nat} {c:List Int} {k m cp:Nat} (h:RdI W (.slice (some ⟨g,0,none⟩) c.length cap) c) (hm:m+2*k=c.length) (hc:cp+k=cap) (fB:cap≤maxLen):
  RdI W (.slice (some ⟨g,k,none⟩) m cp) ((c.take (c.length-k)).drop k):=by
 by_cases h0:m=0
 ·subst h0;have:(c.take (c.length-k)).drop k= []:=zap (by simp;omega)
  rw[this];exact qOS _ _ _ tO
 ·obtain⟨A',cap',hv,fe,_⟩:=h.1.cell;injection hv with e1 e2 e3
  have:=qKA h (k:=k) tO tO
  rw[show c.length-k-k=m by omega,show cap-k=cp by omega] at this;exact this
theorem qEV (v:Value) (xs:List Int) (w:World) (h:RdI w v xs) (hl:xs.length≤536870912):
  Calls Tryz.prog 76 #[v] w fun e w'=> ∃r s,e= .returned (.tuple #[r,s])∧OwI w' w.heap.size r (qAL xs)∧RdI w' s (qPC xs)∧Below w.heap.size w w':=by
 have H:=qA h;obtain⟨A,cap,rfl,_⟩:=h.arg;clear h;have aZ:(redL [] xs).length≤536870912:=by have:=qCn [] xs;simp only[zaj] at this;omega
 have F1:Hid (qAL xs=qBt (redL [] xs)):=qA rfl;have F2:Hid (qPC xs=(redL [] xs).take (qk (redL [] xs))):=qA rfl;go_enter Tryz.func76,Tryz.ntmps76
 go_wp2_with fail;refine(qAO _ xs _ H.out tO).mono ?_
 rintro e w1 ⟨r1,rfl,o1,b1⟩;have O1:=qA o1;have B1:=qA b1;clear o1 b1;generalize redL [] xs=c at*;have aA:=B1.out.size;rcases O1.out.form2 with ⟨rfl,rfl⟩ | ⟨g,ah,rfl,aX,cJ,fd,dC⟩
 ·clear O1;go_wp2_with fail;refine wp_loop_rounds 1 ?_;rw[rounds_succ];go_wp2_with fail;go_quiet (fail)
  have dp:Below w.heap.size w ((w1.alloc (.cells #[] 3)).drewN nq):=qB (B1.out.alloc aA _) nq;have pt:OwI ((w1.alloc (.cells #[] 3)).drewN nq) w.heap.size (.slice (some ⟨w1.heap.size,0,none⟩) 0 0) []:=(qW w1 [] qS (by simp) aA).drewN nq;have dl:=qA dp;have lO:=qA pt.rd;have bM:=dp.size;have tQ:RdI ((w1.alloc (.cells #[] 3)).drewN nq) (.slice none 0 0) []:=⟨⟨rfl,none,0,rfl,zaa _,by unfold maxLen;omega,fun _=>rfl,fun h=>absurd h (by simp)⟩,qS⟩;have rr:=qA tQ;clear dp pt tQ;generalize (w1.alloc (.cells #[] 3)).drewN nq=w9 at dl lO rr bM⊢;go_wp2_with (at_builtin;refine qi rfl (.tmp 46) (.tmp 47) rfl w.heap.size _ [] (qW w9 [] qS (by simp) bM) rfl _ _ (rr.out.alloc _) rfl (by simp) (by simp;omega) ?_;intro v4 w4 o4 g4 p4;have O4:=qA o4;have B4:Hid (Below w9.heap.size w9 w4):=qA (((zab _ _).alloc (zaa _) _).grown g4 (by simp) (fun j hj=>by simp[zac] at hj;omega));clear o4 g4 p4)
  go_ret2
  exact⟨_,_,rfl,by rw[F1.out];exact O4.out,by rw[F2.out];exact lO.out.below B4.out,dl.out.trans (B4.out.mono bM)⟩
 have uj:=qA cJ;unfold maxLen at cJ;go_wp2_with fail;go_loopw [4,5] (fun x p wr=> ∃k m cp:Nat,m+2*k=c.length∧cp+k=ah∧x= .slice (some ⟨g,k,none⟩) m cp∧OwI wr w1.heap.size p (c.take k)∧qAS c (c.length-k) k=qk c∧Below w1.heap.size w1 wr)
  (fun x _ _=>qLy x)
 case atStart=>exact⟨0,c.length,ah,tO,tO,rfl,qW w1 [] qS (by simp) (zaa _),rfl,(zab _ _).alloc (zaa _) _⟩
 case round=>
  obtain⟨k,m,cp,dQ,hZ,rfl,hp,hst,aa⟩:=hrel;have a6:=qA hst;have HB:=qA aa;have ak:=aa.size;have mc:=qA dQ;have yj:=qA hZ;have mP:k≤c.length:=tO;have Ij:m≤cp:=tO;have Hy:cp≤2^63-1:=tO;have gW:m≤536870912:=tO;have fin:qk c=k→qBt c=(c.take (c.length-k)).drop k∧c.take (qk c)=c.take k:=fun e=>by
   unfold qBt;rw[e];exact⟨rfl,rfl⟩
  have FIN:=qA fin;have HC:=qA (qNt (O1.out.rd.below aa) dQ hZ uj.out);have dD:(c.take k).length≤536870912:=by simp;omega
  have HP:=qA hp;have ut: ¬cp=1∨m≤1:=tO;have iM:Hid (∀h:k<c.length,c.take (k+1)=c.take k++ [c[k]]):=qA fun h=>zax h;by_cases h2:2≤m
  ·obtain⟨b,off,hA,aM,hc⟩:=(O1.out.rd.below aa).at tO;obtain⟨rfl,rfl⟩:g=b∧0=off:=by simpa using hA
   have ae:=hc k tO;have aB:=hc (k+(m-1)) tO;rw[zaD] at ae aB;have aQ:c.getD k 0=c[k]:=by simp[zaI,show k<c.length by omega]
   have bU:c.getD (c.length-1-k) 0=c[k+(m-1)]:=by rw[show c.length-1-k=k+(m-1) by omega];simp[zaI,show k+(m-1)<c.length by omega]
   have gA:Hid (invB c[k] c[k+(m-1)]=true→qAS c (c.length-(k+1)) (k+1)=qk c):=qA fun e=>qHd a6.out tO (by rw[aQ,bU];exact e);have di:Hid (invB c[k] c[k+(m-1)]=false→qk c=k):=qA fun e=>qBo a6.out (by rintro⟨_,e'⟩;rw[aQ,bU,e] at e';cases e');have HI:=qA (O1.out.2 c[k] (by simp));have Dz:=qA (O1.out.2 c[k+(m-1)] (by simp));have oo:=qA (iM.out tO);have fd:decide ((1:Int)<(m:Int))=true:=by simp;omega
   have FM: ¬cp=1:=tO;clear hc aQ bU hA fin hp hst aa ut iM;generalize c[k]=x at ae gA di HI oo;generalize c[k+(m-1)]=y at aB gA di Dz;have jD:=qA (qNY HI.out Dz.out);generalize c.take k=acc at HP dD oo FIN;clear dQ hZ;obtain⟨A3,aU,rfl,_⟩:=OwI.form HP.out;rcases e1:(x==wrap64 (-y)) with _ | _
   ·have HK:=qA (di.out (by rw[jD.out,e1];rfl));go_wp2;go_quiet (fail)
    have kL:=qA (HC.out.drewN nq);obtain⟨A9,c9,nT,kd,_⟩:=HC.out.1.cell;clear nT kd;have ld:Hid (Below w.heap.size w (wr.drewN nq)):=qA (qB (B1.out.trans (HB.out.mono aA)) nq);have jT:=qA (HP.out.rd.drewN nq);have bM:w.heap.size≤(wr.drewN nq).heap.size:=ld.out.size;have jB:((c.take (c.length-k)).drop k).length≤536870912:=by simp;omega
    have F3:=qA (FIN.out HK.out);generalize (c.take (c.length-k)).drop k=core at kL jB F3 HC;generalize wr.drewN nq=w9 at kL jT ld bM⊢;go_wp2_with (at_builtin;refine qi rfl (.tmp 46) (.tmp 47) rfl w.heap.size _ [] (qW w9 [] qS (by simp) bM) rfl _ _ (kL.out.alloc _) rfl (by simp only[zaj];omega) (by simp;omega) ?_;intro v4 w4 o4 g4 p4;have O4:=qA o4;have B4:Hid (Below w9.heap.size w9 w4):=qA (((zab _ _).alloc (zaa _) _).grown g4 (by simp) (fun j hj=>by simp[zac] at hj;omega));clear o4 g4 p4)
    go_ret2
    exact⟨_,_,rfl,by rw[F1.out,F3.out.1];exact O4.out,by rw[F2.out,F3.out.2];exact jT.out.below B4.out,ld.out.trans (B4.out.mono bM)⟩
   ·rcases e2:(x != wrap64 (-x)) with _ | _
    ·have HK:=qA (di.out (by rw[jD.out,e1,e2];rfl));go_wp2;go_quiet (fail)
     have kL:=qA (HC.out.drewN nq);obtain⟨A9,c9,nT,kd,_⟩:=HC.out.1.cell;clear nT kd;have ld:Hid (Below w.heap.size w (wr.drewN nq)):=qA (qB (B1.out.trans (HB.out.mono aA)) nq);have jT:=qA (HP.out.rd.drewN nq);have bM:w.heap.size≤(wr.drewN nq).heap.size:=ld.out.size;have jB:((c.take (c.length-k)).drop k).length≤536870912:=by simp;omega
     have F3:=qA (FIN.out HK.out);generalize (c.take (c.length-k)).drop k=core at kL jB F3 HC;generalize wr.drewN nq=w9 at kL jT ld bM⊢;go_wp2_with (at_builtin;refine qi rfl (.tmp 46) (.tmp 47) rfl w.heap.size _ [] (qW w9 [] qS (by simp) bM) rfl _ _ (kL.out.alloc _) rfl (by simp only[zaj];omega) (by simp;omega) ?_;intro v4 w4 o4 g4 p4;have O4:=qA o4;have B4:Hid (Below w9.heap.size w9 w4):=qA (((zab _ _).alloc (zaa _) _).grown g4 (by simp) (fun j hj=>by simp[zac] at hj;omega));clear o4 g4 p4)
     go_ret2
     exact⟨_,_,rfl,by rw[F1.out,F3.out.1];exact O4.out,by rw[F2.out,F3.out.2];exact jT.out.below B4.out,ld.out.trans (B4.out.mono bM)⟩
    ·have HK:=qA (gA.out (by rw[jD.out,e1,e2];rfl));go_wp2;go_quiet (fail)
     have ii:(wr.drewN nq).cell? ⟨g,k,none⟩=some (.int .i64 x):=ae;have jT:=qA (HP.out.drewN nq);have ip:=qA (qB HB.out nq);have bM:=ip.out.size;have dQ:=mc.out;have hZ:=yj.out;clear ae;generalize wr.drewN nq=w9 at ii jT ip bM⊢;go_wp2_with (at_builtin;refine qN rfl (.tmp 35) (.tmp 39) rfl _ _ _ (OwI.alloc jT.out _) rfl _ _ rfl (qG _ _ _) HI.out (by first | omega | (simp<;>omega)) (by first | omega | (simp<;>omega)) ?_;intro v1 eq o1 g1 p1)
     go_roundw
     case rel=>
      refine⟨k+1,m-2,cp-1,tO,tO,?_,by rw[oo.out];exact o1,HK.out,qQ ip.out bM jT.out.1 (zaa _) g1⟩;rw[Nat.sub_sub]
     case measure=>simp[qLy];omega
  ·have fd:decide ((1:Int)<(m:Int))=false:=by simp;omega
   have HK:=qA (qBo a6.out (fun h=>h2 tO));generalize c.take k=acc at HP dD iM FIN;obtain⟨A3,aU,rfl,_⟩:=OwI.form HP.out;clear dQ hZ fin hp hst aa ut iM
   ·go_wp2;go_quiet (fail)
    have kL:=qA (HC.out.drewN nq);obtain⟨A9,c9,nT,kd,_⟩:=HC.out.1.cell;clear nT kd;have ld:Hid (Below w.heap.size w (wr.drewN nq)):=qA (qB (B1.out.trans (HB.out.mono aA)) nq);have jT:=qA (HP.out.rd.drewN nq);have bM:w.heap.size≤(wr.drewN nq).heap.size:=ld.out.size;have jB:((c.take (c.length-k)).drop k).length≤536870912:=by simp;omega
    have F3:=qA (FIN.out HK.out);generalize (c.take (c.length-k)).drop k=core at kL jB F3 HC;generalize wr.drewN nq=w9 at kL jT ld bM⊢;go_wp2_with (at_builtin;refine qi rfl (.tmp 46) (.tmp 47) rfl w.heap.size _ [] (qW w9 [] qS (by simp) bM) rfl _ _ (kL.out.alloc _) rfl (by simp only[zaj];omega) (by simp;omega) ?_;intro v4 w4 o4 g4 p4;have O4:=qA o4;have B4:Hid (Below w9.heap.size w9 w4):=qA (((zab _ _).alloc (zaa _) _).grown g4 (by simp) (fun j hj=>by simp[zac] at hj;omega));clear o4 g4 p4)
    go_ret2
    exact⟨_,_,rfl,by rw[F1.out,F3.out.1];exact O4.out,by rw[F2.out,F3.out.2];exact jT.out.below B4.out,ld.out.trans (B4.out.mono bM)⟩
theorem qCl (a b:Int) (w:World) (ha:I64 a) (hb:I64 b):
  Calls Tryz.prog 134 #[.int .i64 a, .int .i64 b] w fun e w'=>e= .returned (.int .i64 (cmpL a b))∧w=w':=by
 have Bx:=ha.1;have DA:=ha.2;have cL:=hb.1;have bD:=hb.2;clear ha hb;have HW:=qA (show wrap64 9223372036854775808= -9223372036854775808 by decide+kernel);rcases e1:(a==b) with _ | _
 ·have n1:a≠b:=by simpa using e1
  by_cases n2:a= -9223372036854775808
  ·subst n2;have H:Hid (cmpL (-9223372036854775808) b=1):=qA (by unfold cmpL;rw[if_neg n1];rfl);clear n1;have hw:=HW.out;go_enter Tryz.func134,Tryz.ntmps134
   go_wp2
   all_goals go_ret
   all_goals exact⟨qU H.out.symm,rfl⟩
  ·by_cases n3:b= -9223372036854775808
   ·subst n3;have H:Hid (cmpL a (-9223372036854775808)= -1):=qA (by unfold cmpL;rw[if_neg n1,if_neg n2];rfl);have Ed: -9223372036854775808<a:=tO;clear n1 n2;have hw:=HW.out;rcases zaM a 0 with sa | sa
    ·have p1:a< -a:=tO;have p2:decide (-a<0)=false:=by simp;omega
     have p3:(-a== -9223372036854775808)=false:=by simp;omega
     go_enter Tryz.func134,Tryz.ntmps134
     go_wp2
     all_goals go_ret
     all_goals exact⟨qU H.out.symm,rfl⟩
    ·have p1: ¬a< -a:=tO;have p2:decide (a<0)=false:=by simp;omega
     have p3:(a== -9223372036854775808)=false:=by simp;omega
     go_enter Tryz.func134,Tryz.ntmps134
     go_wp2
     all_goals go_ret
     all_goals exact⟨qU H.out.symm,rfl⟩
   ·have F:Hid (cmpL a b=if cmpI (max a (-a)) (max b (-b))≠0 then cmpI (max a (-a)) (max b (-b)) else cmpI b a):=qA (by unfold cmpL;rw[if_neg n1,if_neg n2,if_neg n3]);have Ed: -9223372036854775808<a:=tO;have mV: -9223372036854775808<b:=tO;have N1:=qA n1;clear n1 n2 n3;have ac: ∀x y:Int,x<y→cmpI x y= -1:=fun x y h=>by unfold cmpI;rw[if_pos h]
    have ym: ∀x y:Int,y<x→cmpI x y=1:=fun x y h=>by unfold cmpI;rw[if_neg tO,if_pos h]
    have cP: ∀x:Int,cmpI x x=0:=fun x=>by unfold cmpI;simp
    have fin: ∀x y:Int,max a (-a)=x→max b (-b)=y→(x<y→cmpL a b= -1)∧(y<x→cmpL a b=1)∧(x=y→a<b→cmpL a b=1)∧(x=y→b<a→cmpL a b= -1):=fun x y h1 h2=>by
     rw[F.out,h1,h2];refine⟨fun h=> ?_,fun h=> ?_,fun h h'=> ?_,fun h h'=> ?_⟩
     ·rw[ac _ _ h];rfl
     ·rw[ym _ _ h];rfl
     ·rw[h,cP,if_neg (by simp),ym _ _ h']
     ·rw[h,cP,if_neg (by simp),ac _ _ h']
    have FIN:=qA fin;clear fin ac ym cP F;rcases zaM a 0 with sa | sa<;>rcases zaM b 0 with sb | sb
    ·have p1:a< -a:=tO;have p2:b< -b:=tO;have G:=qA (FIN.out (-a) (-b) tO tO);rcases zav (-a) (-b) with h | h | h
     ·have g1:decide (-b< -a)=false:=by simp;omega
      have g2:(-a== -b)=false:=by simp;omega
      have g3:decide (-a<0)=false:=by simp;omega
      have R:=qA (G.out.1 h);go_enter Tryz.func134,Tryz.ntmps134
      go_wp2
      all_goals go_ret
      all_goals exact⟨qU R.out.symm,rfl⟩
     ·exact absurd (show a=b by omega) N1.out
     ·have R:=qA (G.out.2.1 h);have g1:decide (-b< -a)=true:=by simp;omega
      have g3:decide (-a<0)=false:=by simp;omega
      have g4:decide (0≤ -b)=true:=by simp;omega
      go_enter Tryz.func134,Tryz.ntmps134
      go_wp2
      all_goals go_ret
      all_goals exact⟨qU R.out.symm,rfl⟩
    ·have p1:a< -a:=tO;have p2: ¬b< -b:=tO;have G:=qA (FIN.out (-a) b tO tO);have g3:decide (-a<0)=false:=by simp;omega
     have g4:decide (0≤b)=true:=by simp;omega
     rcases zav (-a) b with h | h | h
     ·have g1:decide (b< -a)=false:=by simp;omega
      have g2:(-a==b)=false:=by simp;omega
      have R:=qA (G.out.1 h);go_enter Tryz.func134,Tryz.ntmps134
      go_wp2
      all_goals go_ret
      all_goals exact⟨qU R.out.symm,rfl⟩
     ·have g1:decide (b< -a)=false:=by simp;omega
      have g2:(-a==b)=true:=by simp;omega
      have g5:decide (a<b)=true:=by simp;omega
      have R:=qA (G.out.2.2.1 h tO);have HH:=qA h;clear h;go_enter Tryz.func134,Tryz.ntmps134
      go_wp2
      all_goals go_ret
      all_goals first | exact⟨qU R.out.symm,rfl⟩ | (exfalso;have:=HH.out;omega)
     ·have g1:decide (b< -a)=true:=by simp;omega
      have R:=qA (G.out.2.1 h);go_enter Tryz.func134,Tryz.ntmps134
      go_wp2
      all_goals go_ret
      all_goals exact⟨qU R.out.symm,rfl⟩
    ·have p1: ¬a< -a:=tO;have p2:b< -b:=tO;have G:=qA (FIN.out a (-b) tO tO);have g3:decide (a<0)=false:=by simp;omega
     have g4:decide (0≤ -b)=true:=by simp;omega
     rcases zav a (-b) with h | h | h
     ·have g1:decide (-b<a)=false:=by simp;omega
      have g2:(a== -b)=false:=by simp;omega
      have R:=qA (G.out.1 h);go_enter Tryz.func134,Tryz.ntmps134
      go_wp2
      all_goals go_ret
      all_goals exact⟨qU R.out.symm,rfl⟩
     ·have g1:decide (-b<a)=false:=by simp;omega
      have g2:(a== -b)=true:=by simp;omega
      have g5:decide (a<b)=false:=by simp;omega
      have R:=qA (G.out.2.2.2 h tO);have HH:=qA h;clear h;go_enter Tryz.func134,Tryz.ntmps134
      go_wp2
      all_goals go_ret
      all_goals first | exact⟨qU R.out.symm,rfl⟩ | (exfalso;have:=HH.out;omega)
     ·have g1:decide (-b<a)=true:=by simp;omega
      have R:=qA (G.out.2.1 h);go_enter Tryz.func134,Tryz.ntmps134
      go_wp2
      all_goals go_ret
      all_goals exact⟨qU R.out.symm,rfl⟩
    ·have p1: ¬a< -a:=tO;have p2: ¬b< -b:=tO;have G:=qA (FIN.out a b tO tO);have g3:decide (a<0)=false:=by simp;omega
     have g4:decide (0≤b)=true:=by simp;omega
     rcases zav a b with h | h | h
     ·have g1:decide (b<a)=false:=by simp;omega
      have R:=qA (G.out.1 h);go_enter Tryz.func134,Tryz.ntmps134
      go_wp2
      all_goals go_ret
      all_goals exact⟨qU R.out.symm,rfl⟩
     ·exact absurd h N1.out
     ·have g1:decide (b<a)=true:=by simp;omega
      have R:=qA (G.out.2.1 h);go_enter Tryz.func134,Tryz.ntmps134
      go_wp2
      all_goals go_ret
      all_goals exact⟨qU R.out.symm,rfl⟩
 ·have H:Hid (cmpL a b=0):=qA (by unfold cmpL;simp at e1;rw[if_pos e1]);go_enter Tryz.func134,Tryz.ntmps134
  go_wp2
  all_goals go_ret
  all_goals exact⟨qU H.out.symm,rfl⟩
theorem qLY {a b:List Int} (h:a.length≠b.length):cmpW a b=cmpI a.length b.length:=by unfold cmpW;rw[if_neg h]
theorem qPj {a b:Int} (h:a≠b):(cmpI a b != 0)=true:=by
 unfold cmpI;split
 ·rfl
 ·split
  ·rfl
  ·omega
theorem qQC (a:Int):cmpI a a=0:=by unfold cmpI;simp
theorem qBi (u v:Value) (a b:List Int) (w:World) (h:ArgI w u a) (h':ArgI w v b):
  Calls Tryz.prog 116 #[u,v] w fun e w'=>e= .returned (.int .i64 (cmpW a b))∧ ∃n,w'=w.drewN n:=by
 obtain⟨A,cap,rfl,aj,hm,hr,hb⟩:=h;obtain⟨A',cap',rfl,cV,ch,mW,aE⟩:=h';unfold maxLen at hm ch;have HR:=qA hr;have pR:=qA mW;clear hr mW;by_cases ai:a.length=b.length
 ·have hd:((a.length:Int) != (b.length:Int))=false:=by simp[ai]
  have F:Hid (cmpW a b=cmpZ a b):=qA (by unfold cmpW;rw[if_pos ai]);have bk:=qA ai;clear ai;go_enter Tryz.func116,Tryz.ntmps116
  go_wp2;go_loopw [5] (fun i wr=> ∃k:Nat,k≤a.length∧i= .int .i64 k∧cmpZ (a.drop k) (b.drop k)=cmpZ a b∧ ∃n,wr=w.drewN n) (fun i _=>a.length-(intOf i).toNat)
  case atStart=>exact⟨0,zal _,rfl,rfl,0,rfl⟩
  case round=>
   obtain⟨k,hk,rfl,cP,n,rfl⟩:=hrel;have bN:=qA cP;clear cP;by_cases ac:k<a.length
   ·obtain⟨b1,off,rfl,hc⟩:=hb tO;have an:k<b.length:=by have:=bk.out;omega
    obtain⟨b',off',rfl,cH⟩:=aE tO;have ae:=hc k ac;have aB:=cH k an;have HS:=qA (qJK a b k ac an);have HX:=qA (HR.out a[k] (by simp));have HY:=qA (pR.out b[k] (by simp));clear hc cH hb aE;generalize a[k]=x at ae HS HX;generalize b[k]=y at aB HS HY;rcases e1:(cmpL x y != 0) with _ | _
    ·have e2:cmpL x y=0:=by simpa using e1
     have fi:Hid (cmpZ (a.drop (k+1)) (b.drop (k+1))=cmpZ a b):=qA (by rw[←bN.out,HS.out,if_neg (by simp[e2])]);have E2:=qA e2;clear e2;go_wp2;go_quiet ((go_at_call 134;first | exact qJ (qCl _ _ _ HX.out HY.out) | exact qF (qCl _ _ _ HX.out HY.out)))
     go_wp2;go_roundw
     case rel=>exact⟨k+1,tO,by go_num,fi.out,_,rfl⟩
     case measure=>simp[intOf];omega
    ·have fi:Hid (cmpL x y=cmpW a b):=qA (by rw[F.out,←bN.out,HS.out,if_pos (by simpa using e1)]);go_wp2;go_quiet ((go_at_call 134;first | exact qJ (qCl _ _ _ HX.out HY.out) | exact qF (qCl _ _ _ HX.out HY.out)))
     go_wp2;go_ret;exact⟨qU fi.out,_,rfl⟩
   ·obtain rfl:k=a.length:=tO
    have HZ:Hid (cmpW a b=0):=qA (by rw[F.out,←bN.out,qLQ]);go_wp2;go_ret;exact⟨qU HZ.out.symm,n,rfl⟩
 ·have hd:((a.length:Int) != (b.length:Int))=true:=by simp;omega
  have F:=qA (qLY ai);rcases zaE a.length b.length with h | h
  ·have oP:(a.length:Int)<(b.length:Int):=tO;have G:Hid (cmpW a b= -1):=qA (by rw[F.out];unfold cmpI;rw[if_pos oP]);go_enter Tryz.func116,Tryz.ntmps116
   go_wp2;go_ret;exact⟨qU G.out.symm,0,rfl⟩
  ·have oP: ¬(a.length:Int)<(b.length:Int):=tO;have G:Hid (cmpW a b=1):=qA (by rw[F.out];unfold cmpI;rw[if_neg oP,if_pos tO]);clear ai h;go_enter Tryz.func116,Tryz.ntmps116
   go_wp2;go_ret;exact⟨qU G.out.symm,0,rfl⟩
theorem qBg (u v:Value) (a b:List Int) (w:World) (h:ArgI w u a) (h':ArgI w v b):
  Calls Tryz.prog 87 #[u,v] w fun e w'=>e= .returned (.int .i64 (cmpW a b))∧ ∃n,w'=w.drewN n:=by
 obtain⟨A,cap,rfl,aj,hm,hr,hb⟩:=h;obtain⟨A',cap',rfl,cV,ch,mW,aE⟩:=h';unfold maxLen at hm ch;have HR:=qA hr;have pR:=qA mW;clear hr mW;by_cases ai:a.length=b.length
 ·have hd:(cmpI (a.length:Int) (b.length:Int) != 0)=false:=by rw[ai,qQC];rfl
  have F:Hid (cmpW a b=cmpZ a b):=qA (by unfold cmpW;rw[if_pos ai]);have bk:=qA ai;clear ai;go_enter Tryz.func87,Tryz.ntmps87
  go_wp2_with (go_at_call 101;refine(qV _ _ _).mono ?_;rintro e w' ⟨rfl,rfl⟩)
  go_loopw [18] (fun i wr=> ∃k:Nat,k≤a.length∧i= .int .i64 k∧cmpZ (a.drop k) (b.drop k)=cmpZ a b∧ ∃n,wr=w.drewN n) (fun i _=>a.length-(intOf i).toNat)
  case atStart=>exact⟨0,zal _,rfl,rfl,0,rfl⟩
  case round=>
   obtain⟨k,hk,rfl,cP,n,rfl⟩:=hrel;have bN:=qA cP;clear cP;by_cases ac:k<a.length
   ·obtain⟨b1,off,rfl,hc⟩:=hb tO;have an:k<b.length:=by have:=bk.out;omega
    obtain⟨b',off',rfl,cH⟩:=aE tO;have ae:=hc k ac;have aB:=cH k an;have HS:=qA (qJK a b k ac an);have HX:=qA (HR.out a[k] (by simp));have HY:=qA (pR.out b[k] (by simp));clear hc cH hb aE;generalize a[k]=x at ae HS HX;generalize b[k]=y at aB HS HY;rcases e1:(cmpL x y != 0) with _ | _
    ·have e2:cmpL x y=0:=by simpa using e1
     have fi:Hid (cmpZ (a.drop (k+1)) (b.drop (k+1))=cmpZ a b):=qA (by rw[←bN.out,HS.out,if_neg (by simp[e2])]);have E2:=qA e2;clear e2;go_wp2;go_quiet ((go_at_call 58;first | exact qJ (qAF _ _ _ HX.out HY.out) | exact qF (qAF _ _ _ HX.out HY.out)))
     go_wp2;go_roundw
     case rel=>exact⟨k+1,tO,by go_num,fi.out,_,rfl⟩
     case measure=>simp[intOf];omega
    ·have fi:Hid (cmpL x y=cmpW a b):=qA (by rw[F.out,←bN.out,HS.out,if_pos (by simpa using e1)]);go_wp2;go_quiet ((go_at_call 58;first | exact qJ (qAF _ _ _ HX.out HY.out) | exact qF (qAF _ _ _ HX.out HY.out)))
     go_wp2;go_ret;exact⟨qU fi.out,_,rfl⟩
   ·obtain rfl:k=a.length:=tO
    have HZ:Hid (cmpW a b=0):=qA (by rw[F.out,←bN.out,qLQ]);go_wp2;go_ret;exact⟨qU HZ.out.symm,n,rfl⟩
 ·have hd:(cmpI (a.length:Int) (b.length:Int) != 0)=true:=qPj tO;have F:=qA (qLY ai);go_enter Tryz.func87,Tryz.ntmps87
  go_wp2_with (go_at_call 101;refine(qV _ _ _).mono ?_;rintro e w' ⟨rfl,rfl⟩)
  go_ret;exact⟨qU F.out.symm,0,rfl⟩
theorem qPg {i k n:Nat} (hn:0<n):((((i:Int)+(k:Int))%(n:Int)+(n:Int))%(n:Int))=(((k+i)%n:Nat):Int):=by
 rw[zaN,Int.emod_emod];rw[show(i:Int)+(k:Int)=((k+i:Nat):Int) by omega];rfl
theorem qEk (v:Value) (xs:List Int) (k:Nat) (w:World) (h:RdI w v xs) (hk:k<xs.length) (hl:xs.length≤1073741824):
  Calls Tryz.prog 115 #[v, .int .i64 k] w fun e w'=> ∃r,e= .returned r∧OwI w' w.heap.size r (rotF xs k)∧Below w.heap.size w w':=by
 have H:=qA h;obtain⟨A,cap,rfl,aj,hm,_⟩:=h.arg;unfold maxLen at hm;clear h;have tW:=qAK xs k;have fZ:(0:Int)<(xs.length:Int):=tO;have eL:(k:Int)<(xs.length:Int):=tO;go_enter Tryz.func115,Tryz.ntmps115
 go_wp2;go_loopw [5,6] (fun out i wr=> ∃m:Nat,m≤xs.length∧i= .int .i64 m∧OwI wr w.heap.size out ((rotF xs k).take m)∧Below w.heap.size w wr)
  (fun _ i _=>xs.length-(intOf i).toNat)
 case atStart=>exact⟨0,zal _,rfl,qW _ [] qS (by simp) (zaa _),(zab _ _).alloc (zaa _) _⟩
 case round=>
  obtain⟨m,ch,rfl,ab,aa⟩:=hrel;have ak:=aa.size;have du:((rotF xs k).take m).length≤m:=List.length_take_le _ _;by_cases ac:m<xs.length
  ·obtain⟨b,off,rfl,aM,hc⟩:=(H.out.below aa).at tO;have DM:(k+m)%xs.length<xs.length:=Nat.mod_lt _ tO;have ae:=hc _ DM;have AK:=qPg (i:=m) (k:=k) (n:=xs.length) tO;have lE:(k:Int)%(xs.length:Int)=(k:Int):=zaQ tO eL;have d5:0≤((m:Int)+(k:Int))%(xs.length:Int):=Int.emod_nonneg _ tO;have dN:((m:Int)+(k:Int))%(xs.length:Int)<(xs.length:Int):=Int.emod_lt_of_pos _ fZ;have HX:=qA (H.out.2 xs[(k+m)%xs.length] (by simp));have HS:Hid ((rotF xs k).take (m+1)=(rotF xs k).take m++ [xs[(k+m)%xs.length]]):=qA (by
    have h1:m<(rotF xs k).length:=by rw[qAK];exact ac
    rw[zax h1];congr 2
    have h2:=qBb xs k m tO ac;simpa[zaI,h1,DM] using h2)
   generalize (rotF xs k).take m=acc at ab HS du;have HO:=qA ab;obtain⟨A1,ah,rfl,aX,cJ,_⟩:=ab.form;clear hc ab;generalize FI:xs[(k+m)%xs.length]=x at ae HX HS;rw[Nat.add_comm k m] at ae;clear FI AK;go_wp2_with (at_builtin;refine qN rfl (.tmp 14) (.tmp 33) rfl _ _ _ (OwI.alloc HO.out _) rfl _ _ rfl (qG _ _ _) HX.out (by first | omega | (simp<;>omega)) (by first | omega | (simp<;>omega)) ?_;intro v1 eq o1 g1 p1)
   go_roundw
   case rel=>exact⟨m+1,tO,by go_num,by rw[HS.out];exact o1,qQ aa ak HO.out.1 (zaa _) g1⟩
   case measure=>simp[intOf];omega
  ·obtain rfl:m=xs.length:=tO
   rw[List.take_of_length_le (by rw[qAK];omega)] at ab;go_wp2;go_ret;exact⟨_,rfl,ab,aa⟩
theorem qEP (v:Value) (xs:List Int) (k:Nat) (w:World) (h:RdI w v xs) (hk:k<xs.length) (hl:xs.length≤1073741824):
  Calls Tryz.prog 133 #[v, .int .i64 k] w fun e w'=> ∃r,e= .returned r∧OwI w' w.heap.size r (rotF xs k)∧Below w.heap.size w w':=by
 have H:=qA h;obtain⟨A,cap,rfl,aj,hm,_⟩:=h.arg;unfold maxLen at hm;clear h;obtain⟨b,off,rfl,aM,hc⟩:=H.out.at tO;have fZ:(0:Int)<(xs.length:Int):=tO;have eL:(k:Int)<(xs.length:Int):=tO;have hd:((xs.length:Int)==0)=false:=beq_eq_false_iff_ne.2 tO;have lE:(k:Int)%(xs.length:Int)=(k:Int):=zaQ tO eL;have tP:((k:Int)+(xs.length:Int))%(xs.length:Int)=(k:Int):=by rw[zaN];exact lE
 have rF:(0:Int)≤(k:Int):=tO;have H6:(k:Int)≤(cap:Int):=tO;have jg:(k:Int)≤(xs.length:Int):=tO;have lT: ¬cap=k:=tO;have HT:Hid (RdI w.drew (.slice (some ⟨b,off+k,none⟩) (xs.length-k) (cap-k)) (xs.drop k)):=qA (by
  have:=H.out.cut (k:=k) rfl tO
  rw[if_neg lT] at this;exact RdI.drew (by simpa[Addr.add_lit] using this))
 have HH:=qA (H.out.head (k:=k) rfl tO).drew;have BB:=qA ((zab w.heap.size w).drew);have FQ:=qA tP;clear hc tP;go_enter Tryz.func133,Tryz.ntmps133
 go_wp2_with fail
 skip;rw[FQ.out];go_region_held3 (fun w'=>True) (go_keep)
  (first
  | (go_at_call 63;go_loud (with_reducible refine(qAC (.slice (some ⟨b,off+k,none⟩) (xs.length-k) (cap-k)) _ _ HT.out (by simp;omega)).mono ?_);rintro e w2 ⟨r1,rfl,o1,b1⟩;have OA:=qA o1;replace HH:=qA (HH.out.below b1);replace BB:=qA (BB.out.trans b1);clear o1 b1)
  | (refine qAN rfl (.tmp 21) (.tmp 24) rfl _ _ _ OA.out (by rfl) _ _ HH.out (by rfl) (by simp;omega) (by exact BB.out.size) ?_;intro v1 w1 o1 g1 p1;have O1:=qA o1;have Hm:=qA (BB.out.grown g1 BB.out.size (fun j hj=>(OA.out.1.lt j hj).1));clear o1 g1 p1))
 go_wp2;go_ret;exact⟨_,rfl,O1.out,Hm.out⟩
theorem qDE (v:Value) (xs:List Int) (w:World) (h:RdI w v xs) (hl:xs.length≤536870912):
  Calls Tryz.prog 77 #[v] w fun e w'=> ∃r,e= .returned (.tuple #[r, .int .i64 (lrF xs).2])∧OwI w' w.heap.size r (lrF xs).1∧Below w.heap.size w w':=by
 have H:=qA h;obtain⟨A,cap,rfl,aj,hm,_⟩:=h.arg;unfold maxLen at hm;clear h;go_enter Tryz.func77,Tryz.ntmps77
 go_wp2_with (at_builtin;refine qi rfl (.tmp 8) (.tmp 9) rfl w.heap.size _ [] (qW w [] qS (by simp) (zaa _)) rfl _ _ (H.out.alloc _) rfl (by simp only[zaj];omega) (by simp) ?_;intro v1 w1 o1 g1 p1;have O1:=qA o1;have cL:Hid (Below w.heap.size w w1):=qA (((zab _ _).alloc (zaa _) _).grown g1 (by simp) (fun k hk=>by simp[zac] at hk;omega));clear o1 g1 p1)
 go_loopw [4,5,6] (fun b t i wr=> ∃k:Nat,1≤k∧(k≤xs.length∨k=1)∧i= .int .i64 k∧t= .int .i64 ((lrAt xs k).2:Nat)∧OwI wr w.heap.size b (lrAt xs k).1∧Below w.heap.size w wr)
  (fun _ _ i _=>xs.length-(intOf i).toNat)
 case atStart=>exact⟨1,tO, .inr rfl,rfl,rfl,by simpa[lrAt] using O1.out,cL.out⟩
 case round=>
  obtain⟨k,mP,hk,rfl,rfl,ab,aa⟩:=hrel;have ak:=aa.size;by_cases ac:k<xs.length
  ·have HR:=qA (H.out.below aa);have HO:=qA ab;have HB:=qA aa;have HS:=qA (qDV xs k mP);obtain⟨A1,ah,rfl,aX,cJ,_⟩:=ab.form;have du:(lrAt xs k).1.length=xs.length:=qFs xs k;have fl:=qA du;clear ab aa du;generalize hb:lrAt xs k=bt at HO HS fl;clear hb;go_wp2_with fail;refine(qEk _ xs k _ HR.out ac tO).mono ?_
   rintro e w2 ⟨r2,rfl,o2,b2⟩;have O2:=qA o2;have B2:=qA b2;have aw:=qA (HO.out.below b2);have dM:=b2.size;obtain⟨A2,am,rfl,ky,dQ,_⟩:=o2.form;clear o2 b2;go_wp2_with fail;refine(qBi _ _ (rotF xs k) bt.1 _ O2.out.arg aw.out.arg).mono ?_
   rintro e w3 ⟨rfl,n3,rfl⟩;have BB:=qA (qB (HB.out.trans (B2.out.mono ak)) n3);rcases e1:decide (cmpW (rotF xs k) bt.1<0) with _ | _
   ·have HF:Hid (lrAt xs (k+1)=bt):=qA (by rw[HS.out];unfold lrS;rw[if_neg (by simpa using e1)]);go_wp2;go_roundw
    case rel=>exact⟨k+1,tO,tO,by go_num,by rw[HF.out],by rw[HF.out];exact aw.out.drewN _,BB.out⟩
    case measure=>simp[intOf];omega
   ·have HF:Hid (lrAt xs (k+1)=(rotF xs k,k)):=qA (by rw[HS.out];unfold lrS;rw[if_pos (by simpa using e1)]);go_wp2;go_roundw
    case rel=>exact⟨k+1,tO,tO,by go_num,by rw[HF.out],by rw[HF.out];exact(O2.out.mono ak).drewN _,BB.out⟩
    case measure=>simp[intOf];omega
  ·have HF:Hid (lrAt xs k=lrF xs):=qA (by
    unfold lrF;rcases hk with hk | rfl
    ·rw[show k=xs.length by omega]
    ·rcases zaO xs.length with h0 | h0
     ·rw[h0];rfl
     ·rw[show xs.length=1 by omega])
   go_wp2;go_ret2
   rw[←HF.out];exact⟨_,rfl,ab,aa⟩
theorem qDA (v:Value) (xs:List Int) (w:World) (h:RdI w v xs) (hl:xs.length≤536870912):
  Calls Tryz.prog 113 #[v] w fun e w'=> ∃r,e= .returned (.tuple #[r, .int .i64 (lrF xs).2])∧OwI w' w.heap.size r (lrF xs).1∧Below w.heap.size w w':=by
 have H:=qA h;obtain⟨A,cap,rfl,aj,hm,_⟩:=h.arg;unfold maxLen at hm;clear h;go_enter Tryz.func113,Tryz.ntmps113
 go_wp2_with (go_at_call 63;refine(qAC _ xs _ H.out tO).mono ?_;rintro e w1 ⟨v1,rfl,o1,b1⟩;have O1:=qA o1;have cL:=qA b1;clear o1 b1)
 go_loopw [4,5,6] (fun b t i wr=> ∃k:Nat,1≤k∧(k≤xs.length∨k=1)∧i= .int .i64 k∧t= .int .i64 ((lrAt xs k).2:Nat)∧OwI wr w.heap.size b (lrAt xs k).1∧Below w.heap.size w wr)
  (fun _ _ i _=>xs.length-(intOf i).toNat)
 case atStart=>exact⟨1,tO, .inr rfl,rfl,rfl,by simpa[lrAt] using O1.out,cL.out⟩
 case round=>
  obtain⟨k,mP,hk,rfl,rfl,ab,aa⟩:=hrel;have ak:=aa.size;by_cases ac:k<xs.length
  ·have HR:=qA (H.out.below aa);have HO:=qA ab;have HB:=qA aa;have HS:=qA (qDV xs k mP);obtain⟨A1,ah,rfl,aX,cJ,_⟩:=ab.form;have du:(lrAt xs k).1.length=xs.length:=qFs xs k;have fl:=qA du;clear ab aa du;generalize hb:lrAt xs k=bt at HO HS fl;clear hb;go_wp2_with fail;refine(qEP _ xs k _ HR.out ac tO).mono ?_
   rintro e w2 ⟨r2,rfl,o2,b2⟩;have O2:=qA o2;have B2:=qA b2;have aw:=qA (HO.out.below b2);have dM:=b2.size;obtain⟨A2,am,rfl,ky,dQ,_⟩:=o2.form;clear o2 b2;go_wp2_with fail;refine(qBg _ _ (rotF xs k) bt.1 _ O2.out.arg aw.out.arg).mono ?_
   rintro e w3 ⟨rfl,n3,rfl⟩;have BB:=qA (qB (HB.out.trans (B2.out.mono ak)) n3);rcases e1:decide (cmpW (rotF xs k) bt.1<0) with _ | _
   ·have HF:Hid (lrAt xs (k+1)=bt):=qA (by rw[HS.out];unfold lrS;rw[if_neg (by simpa using e1)]);go_wp2;go_roundw
    case rel=>exact⟨k+1,tO,tO,by go_num,by rw[HF.out],by rw[HF.out];exact aw.out.drewN _,BB.out⟩
    case measure=>simp[intOf];omega
   ·have HF:Hid (lrAt xs (k+1)=(rotF xs k,k)):=qA (by rw[HS.out];unfold lrS;rw[if_pos (by simpa using e1)]);go_wp2;go_roundw
    case rel=>exact⟨k+1,tO,tO,by go_num,by rw[HF.out],by rw[HF.out];exact(O2.out.mono ak).drewN _,BB.out⟩
    case measure=>simp[intOf];omega
  ·have HF:Hid (lrAt xs k=lrF xs):=qA (by
    unfold lrF;rcases hk with hk | rfl
    ·rw[show k=xs.length by omega]
    ·rcases zaO xs.length with h0 | h0
     ·rw[h0];rfl
     ·rw[show xs.length=1 by omega])
   go_wp2;go_ret2
   rw[←HF.out];exact⟨_,rfl,ab,aa⟩
theorem qOx (v:Value) (n:Int) (w:World) (hn:n=0∨n=1):
  Calls Tryz.prog 223 #[v, .int .i64 0, .int .i64 n] w fun e w'=>e= .returned (.tuple #[])∧w=w':=by
 rcases hn with rfl | rfl
 all_goals (
  go_enter Tryz.func223,Tryz.ntmps223
  go_wp2;refine wp_loop_rounds 1 ?_;rw[rounds_succ];go_wp2;go_end0
  exact⟨rfl,rfl⟩)
theorem qNB (n:Int) (w:World) (hn:n=0∨n=1):
  Calls Tryz.prog 144 #[.int .u64 n] w fun e w'=>(∃l:Int,e= .returned (.int .i64 l))∧w=w':=by
 rcases hn with rfl | rfl
 ·go_enter Tryz.func144,Tryz.ntmps144
  go_wp2;go_ret;exact⟨⟨_,rfl⟩,rfl⟩
 ·go_enter Tryz.func144,Tryz.ntmps144
  go_wp2;go_ret;exact⟨⟨_,rfl⟩,rfl⟩
theorem qOX (n:Int) (w:World) (hn:n=0∨n=1):
  Calls Tryz.prog 120 #[.int .u64 n] w fun e w'=>(∃l:Int,e= .returned (.int .i64 l))∧w=w':=by
 have h:=qNB n w hn;have HN:=qA h;clear h;rcases hn with rfl | rfl
 all_goals (
  go_enter Tryz.func120,Tryz.ntmps120
  go_wp2_with fail;refine HN.out.mono ?_;rintro e w' ⟨⟨l,rfl⟩,rfl⟩;go_wp2;go_ret;exact⟨⟨_,rfl⟩,rfl⟩)
theorem qNz (v:Value) (n:Int) (l:Int) (w:World) (hn:n=0∨n=1):
  Calls Tryz.prog 221 #[v, .int .i64 0, .int .i64 n, .int .i64 l] w fun e w'=>e= .returned (.tuple #[])∧w=w':=by
 have h:=qOx v n w hn;have HN:=qA h;clear h;rcases hn with rfl | rfl
 all_goals (
  go_enter Tryz.func221,Tryz.ntmps221
  go_wp2;refine wp_loop_rounds 1 ?_;rw[rounds_succ];go_wp2_with fail;refine HN.out.mono ?_;rintro e w' ⟨rfl,rfl⟩;go_wp2;exact bodyPost_ret (v:= .tuple #[]) (by simp[results,Tryz.results221,go_sem]) rfl ⟨rfl,rfl⟩)
theorem qMX (v:Value) (xs:List Int) (w:World) (h:RdI w v xs) (hn:xs.length≤1):
  Calls Tryz.prog 216 #[v] w fun e w'=>e= .returned (.tuple #[])∧w=w':=by
 obtain⟨A,cap,rfl,_⟩:=h.arg;have fH:(xs.length:Int)=0∨(xs.length:Int)=1:=tO;have H1:=qA (qOX (xs.length:Int) w fH);have H2:=qA (fun l=>qNz (.slice A xs.length cap) (xs.length:Int) l w fH);have hw:IntKind.u64.wrap (xs.length:Int)=(xs.length:Int):=by
  rcases fH with h | h<;>rw[h]<;>decide+kernel
 clear fH h;go_enter Tryz.func216,Tryz.ntmps216
 go_wp2_with fail;refine H1.out.mono ?_;rintro e w' ⟨⟨l,rfl⟩,rfl⟩;go_wp2_with fail;refine(H2.out l).mono ?_
 rintro e w' ⟨rfl,rfl⟩;go_wp2;go_end0
 exact⟨rfl,rfl⟩
theorem qIY (A:Option Addr) (n cap:Nat) (w:World) (hn:n≤1):
  Calls Tryz.prog 217 #[.slice A n cap] w fun e w'=>e= .returned (.slice A n cap)∧w=w':=by
 have h1:(n:Int)<2:=tO;go_enter Tryz.func217,Tryz.ntmps217
 go_wp2;go_ret;exact⟨rfl,rfl⟩
theorem qEz (v:Value) (g:GrD) (u x:Int) (w:World) (h:ArgG w v g) (cU:(qAE g.2.2 u x).length≤1) (iq: ∀e∈g.2.2,1≤e.2.1):
  Calls Tryz.prog 203 #[v, .int .i64 u, .int .i64 x] w fun e w'=> ∃r,e= .returned r∧OwI w' w.heap.size r (qAE g.2.2 u x)∧Below w.heap.size w w':=by
 obtain⟨s,rfl,_,_,ha⟩:=h;have H:=qA ha;obtain⟨A,cap,rfl,aj,hm,_,hr,_⟩:=ha;have HR:=qA hr;unfold maxLen at hm;clear hr;have yO:=qA iq;clear iq;go_enter Tryz.func203,Tryz.ntmps203
 go_wp2;have hb:Below w.heap.size w ((w.alloc (.cells #[.int .i64 g.1,.int .i64 g.2.1, .slice A g.2.2.length cap] 82)).alloc (.cells #[] 3)):=(by repeat(first | exact .refl _ _ | (refine BxS ?_ _) | (refine qB ?_ _) | (refine zad ?_) | (refine BxA ?_ _)));have k2:((w.alloc (.cells #[.int .i64 g.1,.int .i64 g.2.1, .slice A g.2.2.length cap] 82)).alloc (.cells #[] 3)).cell? ⟨w.heap.size,2,none⟩=some (.slice A g.2.2.length cap):=by simp[go_sem]
 have aW:w.heap.size+1<((w.alloc (.cells #[.int .i64 g.1,.int .i64 g.2.1, .slice A g.2.2.length cap] 82)).alloc (.cells #[] 3)).heap.size:=by simp
 have o0:OwI ((w.alloc (.cells #[.int .i64 g.1,.int .i64 g.2.1, .slice A g.2.2.length cap] 82)).alloc (.cells #[] 3)) (w.heap.size+1) (.slice (some ⟨w.heap.size+1,0,none⟩) 0 0) []:=qCF (w.alloc (.cells #[.int .i64 g.1,.int .i64 g.2.1, .slice A g.2.2.length cap] 82)) [] (w.heap.size+1) (by simp) qS (by simp) (zaa _);generalize (w.alloc (.cells #[.int .i64 g.1,.int .i64 g.2.1, .slice A g.2.2.length cap] 82)).alloc (.cells #[] 3)=w1 at hb k2 aW o0⊢;have HB:=qA hb;have K2:=qA k2;have O0:=qA o0;clear hb k2 o0;go_loopw [7,14] (fun out i wr=> ∃k:Nat,k≤g.2.2.length∧i= .int .i64 k∧OwI wr (w.heap.size+1) out (qAE (g.2.2.take k) u x)∧Below (w.heap.size+1) w1 wr) (fun _ i _=>g.2.2.length-(intOf i).toNat)
 case atStart=>exact⟨0,zal _,rfl,O0.out,zab _ _⟩
 case round=>
  obtain⟨k,hk,rfl,ab,aa⟩:=hrel;have ak:=aa.size;have ax:=qA (HB.out.trans (aa.mono tO));have p2:=(aa.cell (p:=⟨w.heap.size,2,none⟩) (show w.heap.size<w.heap.size+1 by omega)).trans K2.out;have HO:=qA ab;have au:=qA aa;obtain⟨A1,ah,rfl,aX,cJ,_,_⟩:=ab.form;clear aa;by_cases ac:k<g.2.2.length
  ·obtain⟨b,off,rfl,aM,c0,c1,c2,_⟩:=(H.out.below ax.out).at ac;have HS:=qA (qGf g.2.2 u x k ac);have HX:=qA (HR.out g.2.2[k] (by simp));have eu:=qA (yO.out g.2.2[k] (by simp));have iO:=qDr g.2.2 u x (k+1);have lC:(qAE (g.2.2.take k) u x).length≤1:=by have:=qDr g.2.2 u x k;omega
   have fK:Hid ((qAE (g.2.2.take (k+1)) u x).length≤1):=qA tO;clear iO ab;generalize g.2.2[k]=e at*;obtain⟨f,l,t⟩:=e;simp only at c0 c1 c2
   have keep:mt u x (f,l,t)=none→qAE (g.2.2.take (k+1)) u x=qAE (g.2.2.take k) u x:=fun e=>by rw[HS.out,e];simp
   have KE:=qA keep;have put: ∀y,mt u x (f,l,t)=some y→qAE (g.2.2.take k) u x= []∧qAE (g.2.2.take (k+1)) u x= [y]:=fun y e=>by
    have h1:=HS.out;have h2:=fK.out;rw[e] at h1;rw[h1] at h2;simp at h2
    refine⟨h2,by rw[h1,h2];rfl⟩
   have PU:=qA put;clear keep put;by_cases hp:0<x
   ·have hn: ¬x<0:=tO;rcases e1:(l==x) with _ | _
    ·have F:=qA (KE.out (by simp at e1;simp[mt,hp,e1]));go_wp2;go_roundw
     case rel=>exact⟨k+1,tO,by go_num,by rw[F.out];exact HO.out.alloc _,au.out.alloc tO _⟩
     case measure=>simp[intOf];omega
    ·rcases e2:(f==u) with _ | _
     ·have F:=qA (KE.out (by simp at e2;simp[mt,hp,e2]));go_wp2;go_roundw
      case rel=>exact⟨k+1,tO,by go_num,by rw[F.out];exact HO.out.alloc _,au.out.alloc tO _⟩
      case measure=>simp[intOf];omega
     ·have F:=qA (PU.out t (by simp at e1 e2;simp[mt,hp,e1,e2]));go_wp2_with (at_builtin;refine qN rfl (.tmp 33) (.tmp 36) rfl _ _ _ (OwI.alloc (OwI.alloc HO.out _) _) rfl (wr.heap.size+1) t rfl (by simp[go_sem]) HX.out.2.2 tO (by simp;omega) ?_;intro v9 wv9 o9 g9 p9)
      go_roundw
      case rel=>exact⟨k+1,tO,by go_num,by have:=o9;rw[F.out.1] at this;rw[F.out.2];exact this,qQ (B:=w.heap.size+1) (au.out.alloc tO _) (by simp;omega) (OwI.alloc HO.out _).1 (zaa _) g9⟩
      case measure=>simp[intOf];omega
   ·by_cases hn:x<0
    ·rcases e0:(x != -9223372036854775808) with _ | _
     ·have dA:x= -9223372036854775808:=by simpa using e0
      have F:=qA (KE.out (by
       have h1:wrap64 (-x)= -9223372036854775808:=by rw[dA];decide+kernel
       have h2:=eu.out;unfold mt;rw[if_neg hp,if_pos hn,h1,if_neg (fun h=>by have:=h.1;simp only at this;omega)]))
      go_wp2;go_roundw
      case rel=>exact⟨k+1,tO,by go_num,by rw[F.out];exact HO.out.alloc _,au.out.alloc tO _⟩
      case measure=>simp[intOf];omega
     rcases e1:(l==wrap64 (-x)) with _ | _
     ·have F:=qA (KE.out (by simp at e1;simp[mt,hp,hn,e1]));go_wp2;go_roundw
      case rel=>exact⟨k+1,tO,by go_num,by rw[F.out];exact HO.out.alloc _,au.out.alloc tO _⟩
      case measure=>simp[intOf];omega
     ·rcases e2:(t==u) with _ | _
      ·have F:=qA (KE.out (by simp at e2;simp[mt,hp,hn,e2]));go_wp2;go_roundw
       case rel=>exact⟨k+1,tO,by go_num,by rw[F.out];exact HO.out.alloc _,au.out.alloc tO _⟩
       case measure=>simp[intOf];omega
      ·have F:=qA (PU.out f (by simp at e1 e2;simp[mt,hp,hn,e1,e2]));go_wp2_with (at_builtin;refine qN rfl (.tmp 58) (.tmp 61) rfl _ _ _ (OwI.alloc (OwI.alloc HO.out _) _) rfl (wr.heap.size+1) f rfl (by simp[go_sem]) HX.out.1 tO (by simp;omega) ?_;intro v9 wv9 o9 g9 p9)
       go_roundw
       case rel=>exact⟨k+1,tO,by go_num,by have:=o9;rw[F.out.1] at this;rw[F.out.2];exact this,qQ (B:=w.heap.size+1) (au.out.alloc tO _) (by simp;omega) (OwI.alloc HO.out _).1 (zaa _) g9⟩
       case measure=>simp[intOf];omega
    ·have F:=qA (KE.out (by simp[mt,hp,hn]));go_wp2;go_roundw
     case rel=>exact⟨k+1,tO,by go_num,by rw[F.out];exact HO.out.alloc _,au.out.alloc tO _⟩
     case measure=>simp[intOf];omega
  ·obtain rfl:k=g.2.2.length:=tO
   clear ab;rw[zam];rw[zam] at HO aX;have fH:(qAE g.2.2 u x).length≤1:=cU;go_wp2_with fail;refine(qMX _ _ _ HO.out.rd fH).mono ?_
   rintro e wz ⟨rfl,rfl⟩;go_wp2_with fail;refine(qIY _ _ _ _ fH).mono ?_
   rintro e wz ⟨rfl,rfl⟩;go_wp2;go_ret;exact⟨_,rfl,HO.out.mono (base':=w.heap.size) tO,ax.out⟩
theorem qEe (v:Value) (g:GrD) (u x:Int) (w:World) (h:ArgG w v g) (cU:(qAE g.2.2 u x).length≤1) (iq: ∀e∈g.2.2,1≤e.2.1):
  Calls Tryz.prog 193 #[v, .int .i64 u, .int .i64 x] w fun e w'=>e= .returned (.int .i64 (qAY g.2.2 u x))∧Below w.heap.size w w':=by
 have H:=qA h;obtain⟨s,rfl,_,_,ha⟩:=h;obtain⟨A,cap,rfl⟩:=ha.form;obtain⟨R,hR⟩: ∃R,R=qAY g.2.2 u x:=⟨_,rfl⟩;rw[←hR];unfold qAY at hR;have HR:=qA hR;clear hR;go_enter Tryz.func193,Tryz.ntmps193
 go_wp2_with fail;have hb:Below w.heap.size w (w.alloc (.cells #[.int .i64 g.1,.int .i64 g.2.1, .slice A g.2.2.length cap] 82)):=(by repeat(first | exact .refl _ _ | (refine BxS ?_ _) | (refine qB ?_ _) | (refine zad ?_) | (refine BxA ?_ _)));refine(qEz _ g u x _ (H.out.below hb) cU iq).mono ?_
 rintro e w1 ⟨r,rfl,o1,b1⟩;have B1:=qA (hb.trans (b1.mono hb.size));generalize qAE g.2.2 u x=L at o1 HR;clear hb b1 ha;obtain⟨A1,ah,rfl,aC,cJ,_,_⟩:=o1.form;match L,o1,HR with
 | [],o1,HR=>
   have F:Hid (R= -1):=HR;clear o1;go_wp2;go_ret;exact⟨qU F.out.symm,B1.out⟩
 | y::L,o1,HR=>
   obtain rfl:R=y:=HR.out
   clear HR;obtain⟨b,off,rfl,aM,hc⟩:=o1.rd.at (by simp);have c0:=hc 0 (by simp);simp only[List.getElem_cons_zero,zaz] at c0;clear o1 hc;go_wp2;go_ret;exact⟨rfl,B1.out⟩
structure TreeW (bb P N:Nat) (w:World) (ord:Value) (o:List Int):Prop where
 ex: ∃vs:List Value,vs.length=N∧w.ownsRow bb 24 1 (.slice (some ⟨P,0,none⟩) N N) N vs∧ ∀(j:Nat) (hj:j<vs.length),
  ((j:Int)∉o∧vs[j]= .slice none 0 0)∨((j:Int)∈o∧ ∃(b cap:Nat) (ws:List Int),vs[j]= .slice (some ⟨b,0,none⟩) ws.length cap∧ws.length≤o.length∧RdI w vs[j] ws∧b≠P∧ord.ownBlock≠some b∧b<w.heap.size)
 ne:ord.ownBlock≠some P
section
variable {bb P N:Nat} {w w':World} {ord:Value} {o:List Int}
theorem TreeW.lt (h:TreeW bb P N w ord o):bb≤P∧P<w.heap.size:=by
 obtain⟨vs,_,h2,_⟩:=h.ex;exact h2.lt P rfl
theorem TreeW.at_new (h:TreeW bb P N w ord o) {y:Nat} (hy:y<N) (hn:(y:Int)∉o):w.cell? ⟨P,y,none⟩=some (.slice none 0 0):=by
 obtain⟨vs,h1,h2,h3⟩:=h.ex;rw[zao.cellAt h2 y tO];rcases h3 y tO with ⟨_,h4⟩ | ⟨h4,_⟩
 ·rw[zaf tO,h4]
 ·exact absurd h4 hn
theorem TreeW.at_old (h:TreeW bb P N w ord o) {y:Nat} (hy:y<N) (hn:(y:Int)∈o):
  ∃(b cap:Nat) (ws:List Int),w.cell? ⟨P,y,none⟩=some (.slice (some ⟨b,0,none⟩) ws.length cap)∧ws.length≤o.length∧RdI w (.slice (some ⟨b,0,none⟩) ws.length cap) ws:=by
 obtain⟨vs,h1,h2,h3⟩:=h.ex;rw[zao.cellAt h2 y tO];rcases h3 y tO with ⟨h4,_⟩ | ⟨_,b,cap,ws,e1,e2,e3,_⟩
 ·exact absurd hn h4
 ·rw[e1] at e3;exact⟨b,cap,ws,by rw[zaf tO,e1],e2,e3⟩
theorem TreeW.free (h:TreeW bb P N w ord o) (j:Nat):w.frozen? ⟨P,j,none⟩=false:=by
 obtain⟨vs,h1,h2,h3⟩:=h.ex;exact zao.frozenAt h2 j
theorem TreeW.below (h:TreeW bb P N w ord o) (hb:Below w.heap.size w w'):TreeW bb P N w' ord o:=by
 obtain⟨vs,h1,h2,h3⟩:=h.ex;refine⟨⟨vs,h1,ql h2 hb,fun j hj=> ?_⟩,h.ne⟩;rcases h3 j hj with h4 | ⟨h4,b,cap,ws,e1,e2,e3,e4,e5,e6⟩
 ·exact .inl h4
 ·exact .inr ⟨h4,b,cap,ws,e1,e2,e3.below hb,e4,e5,by have:=hb.size;omega⟩
theorem TreeW.set (h:TreeW bb P N w ord o) {y:Nat} (hy:y<N) {b cap:Nat} {ws:List Int} (hr:RdI w (.slice (some ⟨b,0,none⟩) ws.length cap) ws) (hl:ws.length≤o.length+1) (hb:b≠P) (ho:ord.ownBlock≠some b) (ac:b<w.heap.size):
  TreeW bb P N (w.setCell ⟨P,y,none⟩ (.slice (some ⟨b,0,none⟩) ws.length cap)) ord (o++ [(y:Int)]):=by
 obtain⟨vs,h1,h2,h3⟩:=h.ex;obtain⟨s1,s2⟩:=zao.stored h2 y (.slice (some ⟨b,0,none⟩) ws.length cap);have ak:(w.setCell ⟨P,y,none⟩ (.slice (some ⟨b,0,none⟩) ws.length cap)).heap.size=w.heap.size:=by simp
 have hg:w.grownBy (w.setCell ⟨P,y,none⟩ (.slice (some ⟨b,0,none⟩) ws.length cap)) (some P):=qDC _ _ _ _;refine⟨⟨_,by simpa using h1,s1,fun j hj=> ?_⟩,h.ne⟩;have eP:j<vs.length:=by simpa using hj
 by_cases hjy:j=y
 ·subst hjy;refine .inr ⟨by simp,b,cap,ws,by simp,by simp;omega,?_,hb,ho,tO⟩;rw[List.getElem_set_self];exact hr.grown hg fun x hx iU=>by simp[zac] at hx iU;omega
 ·rw[zaL (Ne.symm hjy)];rcases h3 j eP with ⟨h4,h5⟩ | ⟨h4,b',cap',ws',e1,e2,e3,e4,e5,e6⟩
  ·refine .inl ⟨?_,h5⟩;rw[List.mem_append,List.mem_singleton];rintro(h6 | h6)
   ·exact h4 h6
   ·omega
  ·refine .inr ⟨List.mem_append_left _ h4,b',cap',ws',e1,by simp;omega,e3.grown hg fun x hx iU=> ?_,e4,e5,tO⟩;rw[e1] at hx;simp[zac] at hx iU
   omega
theorem TreeW.lit (h:TreeW bb P N w (.slice none 0 0) o) (ob:Obj) (n c:Nat):TreeW bb P N (w.alloc ob) (.slice (some ⟨w.heap.size,0,none⟩) n c) o:=by
 have ac:=h.lt;obtain⟨vs,h1,h2,h3⟩:=h.ex;refine⟨⟨vs,h1,ql h2 ((zab w.heap.size w).alloc (zaa _) ob),fun j hj=> ?_⟩,by simp[zac];omega⟩;rcases h3 j hj with h4 | ⟨h4,b,cap,ws,e1,e2,e3,e4,e5,e6⟩
 ·exact .inl h4
 ·exact .inr ⟨h4,b,cap,ws,e1,e2,e3.alloc _,e4,by simp[zac];omega,by simp;omega⟩
theorem TreeW.push (h:TreeW bb P N w ord o) {w9:World} {v9:Value} {ob:Obj} (hg:(w.alloc ob).grownBy w9 ord.ownBlock) (hp:v9.ownBlock=ord.ownBlock∨v9.ownBlock=some (w.alloc ob).heap.size):TreeW bb P N w9 v9 o:=by
 have ac:=h.lt;have h':=h.below ((zab w.heap.size w).alloc (zaa _) ob);obtain⟨vs,h1,h2,h3⟩:=h'.ex;have hs:(w.alloc ob).heap.size=w.heap.size+1:=by simp
 have uA:=hg.size;refine⟨⟨vs,h1,h2.kept hg (.inr fun e=>h.ne e.symm),fun j hj=> ?_⟩,?_⟩
 ·rcases h3 j hj with h4 | ⟨h4,b,cap,ws,e1,e2,e3,e4,e5,e6⟩
  ·exact .inl h4
  ·refine .inr ⟨h4,b,cap,ws,e1,e2,e3.grown hg fun x hx iU=> ?_,e4,?_,tO⟩
   ·rw[e1] at hx;simp only[zac,zaV.injEq] at hx;subst hx;exact e5 iU
   ·rcases hp with hp | hp
    ·rw[hp];exact e5
    ·rw[hp];intro e;injection e with e
     omega
 ·rcases hp with hp | hp
  ·rw[hp];exact h.ne
  ·rw[hp];intro e;injection e with e
   omega
end
theorem qME:(Tryz.prog.info? 24).map (fun i=>(i.zero,i.size,i.bytes))=some (some (.slice none 0 0),1,24):=by kernel_rfl
theorem qOy (v:Value) (g:GrD) (w:World) (h:ArgG w v g) (hf:qAk g=true):
  Calls Tryz.prog 177 #[v, .int .i64 0] w fun e w'=> ∃r s,e= .returned (.tuple #[r,s])∧OwI w' w.heap.size r (canO g)∧Below w.heap.size w w':=by
 have HG:=qA h;obtain⟨hg,kR⟩:=qAQ hf;have ONE:=qA (qIW kR);have LET:=qA (qNq hg);obtain⟨cR,aJ,aO,_⟩:=qR hg;obtain⟨A,cap,hv⟩: ∃A cap,v= .agg #[.int .i64 g.1, .int .i64 g.2.1, .slice A g.2.2.length cap]:=by
  obtain⟨s,hv,_,_,ha⟩:=h;obtain⟨A,cap,rfl⟩:=ha.form;exact⟨A,cap,hv⟩
 subst hv;obtain⟨N,hN⟩: ∃N:Nat,g.2.1=(N:Int):=⟨g.2.1.toNat,tO⟩;obtain⟨rn,oh⟩: ∃rn:Nat,g.1=(rn:Int):=⟨g.1.toNat,tO⟩;have yl:1≤rn:=tO;have xt:rn≤3:=tO;have mU:1≤N:=tO;have ly:N≤40:=tO;have jD:Hid (canO g=canF g.2.2 (qD rn) 41 0 [0]):=qA (by unfold canO;rw[oh];rfl);have zi:=qA (qAd.one (n:=g.2.1) tO);have OKS:Hid (∀(u:Int) (o:List Int) (k:Nat),qAd g.2.1 o→qAd g.2.1 (((qD rn).take k).foldl (qAX g.2.2 u) o)):=qA fun u o k h=>qEg hg _ k h;have OKL:Hid (∀o:List Int,qAd g.2.1 o→o.length≤40):=qA fun o h=>h.len tO tO;have OKR:Hid (∀o:List Int,qAd g.2.1 o→ ∀y∈o,0≤y∧y<N):=qA fun o h y hy=>by have:=h.2.1 y hy;omega
 have NV:Hid (∀u x,qAY g.2.2 u x= -1∨(0≤qAY g.2.2 u x∧qAY g.2.2 u x<N)):=qA fun u x=>by
  rcases qDx hg u x with e | e
  ·exact .inl e
  ·exact .inr ⟨e.1,tO⟩
 have mh:=qo rn;have eu:Hid (∀W:World,Calls Tryz.prog 81 #[.int .i64 g.1] W fun e w'=> ∃r,e= .returned r∧OwI w' W.heap.size r (qD rn)∧Below W.heap.size W w'):=qA fun W=>by
  rw[oh];exact qEA rn W tO
 generalize qD rn=ls at*;rw[hN] at HG;clear hg hf kR h oh;have gQ:1≤g.1∧g.1≤3:=cR;clear aJ aO cR;rw[hN];have bx:Below w.heap.size w (w.alloc (.cells #[.int .i64 g.1,.int .i64 N, .slice A g.2.2.length cap] 82)):=(by repeat(first | exact .refl _ _ | (refine BxS ?_ _) | (refine qB ?_ _) | (refine zad ?_) | (refine BxA ?_ _)));have k0:(w.alloc (.cells #[.int .i64 g.1,.int .i64 N, .slice A g.2.2.length cap] 82)).cell? ⟨w.heap.size,0,none⟩=some (.int .i64 g.1):=by simp[go_sem]
 have k1:(w.alloc (.cells #[.int .i64 g.1,.int .i64 N, .slice A g.2.2.length cap] 82)).cell? ⟨w.heap.size,1,none⟩=some (.int .i64 N):=by simp[go_sem]
 have k2:(w.alloc (.cells #[.int .i64 g.1,.int .i64 N, .slice A g.2.2.length cap] 82)).cell? ⟨w.heap.size,2,none⟩=some (.slice A g.2.2.length cap):=by simp[go_sem]
 have sx:w.heap.size<(w.alloc (.cells #[.int .i64 g.1,.int .i64 N, .slice A g.2.2.length cap] 82)).heap.size:=by simp
 have ex:(w.alloc (.cells #[.int .i64 g.1,.int .i64 N, .slice A g.2.2.length cap] 82)).heap.size=w.heap.size+1:=by simp
 have qT: ∀(w:World) (a:Option Addr) (n c n' c':Nat),(binOp .eql 24 (.slice a n c) (.slice none n' c')).run Tryz.prog w= .ok (.bool a.isNone) w:=fun w a n c n' c'=>Lib.run_eql_slice_nil w _ _ a n c n' c' Tryz.underlying24;go_enter Tryz.func177,Tryz.ntmps177
 obtain⟨i0,a7,aS,ao,aP⟩:=info_parts qME;go_wp2_with (at_make;refine wpList_make_full _ rfl _ _ 29 rfl (w.heap.size+1) 24 i0 (.slice none 0 0) 1 Tryz.underlying29 a7 aS ao _ _ _ _ N rfl rfl rfl rfl (by rw[aP];omega) (by unfold maxLen;omega) (by simp) ?_)
 generalize w.alloc (.cells #[.int .i64 g.1,.int .i64 N, .slice A g.2.2.length cap] 82)=w1 at bx k0 k1 k2 sx ex⊢;rw[←ex];have BX:=qA bx;have K0:=qA k0;have K1:=qA k1;have K2:=qA k2;have EX:=qA ex;clear k0 k1 k2 bx ex;intro w2 hown0 hgrow0;have Co:w1.heap.size<w2.heap.size:=(hown0.lt w1.heap.size rfl).2;have Cw:Below w1.heap.size w1 w2:=(zab w1.heap.size w1).grown hgrow0 (zaa _) (fun k h=>by cases h);have DW:TreeW w1.heap.size w1.heap.size N w2 (.slice none 0 0) []:=⟨⟨zau N (.slice none 0 0),by simp,by simpa[toList_madeCells_one] using hown0,fun j hj=> .inl ⟨by simp,by simp⟩⟩,by simp[zac]⟩;have vO:TreeW w1.heap.size w1.heap.size N (w2.alloc (.cells #[] 3)) (.slice none 0 0) []:=DW.below ((zab _ _).alloc (zaa _) _);have oE:OwI (w2.alloc (.cells #[] 3)) w2.heap.size (.slice (some ⟨w2.heap.size,0,none⟩) 0 0) []:=qW w2 [] (fun _ h=>by cases h) (by simp) (zaa _);have BM:=vO.set (y:=0) tO (b:=w2.heap.size) (cap:=0) (ws:= []) oE.rd (by simp) tO (by simp[zac]) (by simp);have gI:=vO.at_new (y:=0) tO (by simp);have CH:=vO.free 0;have j1:(0:Int)<(N:Int):=tO;have TWH:=qA BM;have D3:Hid (Below w1.heap.size w1 ((w2.alloc (.cells #[] 3)).setCell ⟨w1.heap.size,0,none⟩ (.slice (some ⟨w2.heap.size,0,none⟩) 0 0))):=qA ((Cw.alloc tO _).setCell (by show w1.heap.size≤w1.heap.size;omega) _);clear DW vO BM oE hown0 hgrow0 Cw;go_wp2;have oO:OwI (((w2.alloc (.cells #[] 3)).setCell ⟨w1.heap.size,0,none⟩ (.slice (some ⟨w2.heap.size,0,none⟩) 0 0)).alloc (.cells #[.int .i64 0] 3)) (w1.heap.size+1) (.slice (some ⟨w2.heap.size+1,0,none⟩) 1 1) [0]:=qCF _ [0] (w2.heap.size+1) (by simp) (fun x hx=>by simp at hx;subst hx;exact⟨by decide,by decide⟩) (by simp) tO;have TWL:=TWH.out.lit (.cells #[.int .i64 0] 3) 1 1;have vX:Below w1.heap.size w1 (((w2.alloc (.cells #[] 3)).setCell ⟨w1.heap.size,0,none⟩ (.slice (some ⟨w2.heap.size,0,none⟩) 0 0)).alloc (.cells #[.int .i64 0] 3)):=D3.out.alloc (by simp;omega) _;have e3:((w2.alloc (.cells #[] 3)).setCell ⟨w1.heap.size,0,none⟩ (.slice (some ⟨w2.heap.size,0,none⟩) 0 0)).heap.size=w2.heap.size+1:=by simp
 simp only[zaj,List.nil_append] at TWL;rw[e3] at TWL;have Cv:(w2.alloc (.cells #[] 3)).setCell ⟨w1.heap.size,0,none⟩ (.slice (some ⟨w2.heap.size,0,none⟩) 0 0)=(w2.setCell ⟨w1.heap.size,0,none⟩ (.slice (some ⟨w2.heap.size,0,none⟩) 0 0)).alloc (.cells #[] 3):=World.setCell_alloc_past _ _ _ _ Co;rw[Cv] at oO TWL vX;generalize ((w2.setCell ⟨w1.heap.size,0,none⟩ (.slice (some ⟨w2.heap.size,0,none⟩) 0 0)).alloc (.cells #[] 3)).alloc (.cells #[.int .i64 0] 3)=w3 at oO TWL vX⊢;have OO:=qA oO;have TW:=qA TWL;have cQ:=qA vX;clear oO TWL vX e3 gI CH TWH D3;go_loopw [7,8] (fun out i wo=> ∃(k:Nat) (o:List Int),k≤o.length∧i= .int .i64 k∧qAd g.2.1 o∧canO g=canF g.2.2 ls (41-k) k o∧OwI wo (w1.heap.size+1) out o∧TreeW w1.heap.size w1.heap.size N wo out o∧Below w1.heap.size w1 wo) (fun _ i _=>41-(intOf i).toNat)
 case atStart=>exact⟨0,[0],by simp,rfl,zi.out,jD.out,OO.out,TW.out,cQ.out⟩
 case round=>
  obtain⟨k,o,hk,rfl,ar,m6,ab,ni,aa⟩:=hrel;obtain⟨wo,rfl⟩: ∃wo:World,wo=wr:=⟨_,rfl⟩;have jb:=OKL.out o ar;have bG:=qA ar;have HC:=qA m6;have HO:=qA ab;have ma:=qA ni;have au:=qA aa;have ak:=aa.size;have q0:=(aa.cell (p:=⟨w.heap.size,0,none⟩) sx).trans K0.out;obtain⟨A1,ah,rfl,_,_,_,dq⟩:=ab.form;clear ar m6 ni aa;by_cases ac:k<o.length
  ·obtain⟨u,hu⟩: ∃u,o[k]? =some u:=⟨o[k],by simp⟩;have eB:o[k]=u:=by rw[zaf ac] at hu;injection hu
   have jR:Hid (canO g=canF g.2.2 ls (41-(k+1)) (k+1) (ls.foldl (qAX g.2.2 u) o)):=qA (by
    rw[HC.out,show 41-k=(41-(k+1))+1 by omega,qIP _ _ _ _ _ ac,eB])
   have mg:Hid (∀m:Nat,(((ls.take m).foldl (qAX g.2.2 u) o))[k]? =some u):=qA fun m=>qFU _ _ _ _ _ _ hu;have jl:Hid (∀(m:Nat) (hm:m<ls.length),(ls.take (m+1)).foldl (qAX g.2.2 u) o=qAX g.2.2 u ((ls.take m).foldl (qAX g.2.2 u) o) ls[m]):=qA fun m hm=>qHF _ _ _ _ _ hm;have kW:Hid (∀m:Nat,qAd g.2.1 ((ls.take m).foldl (qAX g.2.2 u) o)):=qA fun m=>OKS.out u o m bG.out;obtain⟨un,wT,AC⟩: ∃un:Nat,u=(un:Int)∧un<N:=by
    have h1:=bG.out.2.1 u (by rw[←eB];simp);exact⟨u.toNat,tO,tO⟩
   obtain⟨b1,rfl,_,cL⟩:=dq tO;have ck:=ab.cellAt k ac;rw[eB] at ck;have vU:=qA wT;clear dq hu eB ab wT;go_wp2_with fail;refine(eu.out wo).mono ?_
   rintro e wl ⟨rl,rfl,ol,bl⟩;have sl:=bl.size;obtain⟨Al,capl,rfl,aZ,gW,_,lZ⟩:=ol.form;obtain⟨gl,rfl,zU,uz⟩:=lZ tO;unfold maxLen at gW;have OL:=qA ol.rd;have BL:=qA bl;have lw:=qA (HO.out.below bl);have GN:=qA (ma.out.below bl);have aY:b1≠gl:=tO;clear lZ ol bl;go_wp2;go_loopw [7,36] (fun out j wr=> ∃m:Nat,m≤ls.length∧j= .int .i64 m∧OwI wr (w1.heap.size+1) out ((ls.take m).foldl (qAX g.2.2 u) o)∧TreeW w1.heap.size w1.heap.size N wr out ((ls.take m).foldl (qAX g.2.2 u) o)∧RdI wr (.slice (some ⟨gl,0,none⟩) ls.length capl) ls∧out.ownBlock≠some gl∧gl≠w1.heap.size∧gl<wr.heap.size∧Below w1.heap.size wl wr) (fun _ j _=>ls.length-(intOf j).toNat)
   case atStart=>exact⟨0,zal _,rfl,lw.out,GN.out,OL.out,by simp[zac];omega,by have:=ma.out.lt;omega,uz,zab _ _⟩
   case round=>
    obtain⟨m,cJ,rfl,ab,ni,d8,ai,xJ,pE,cZ⟩:=hrel;have wK:=cZ.size;have iz:=qA cZ;have eO:Hid (Below w1.heap.size w1 wr):=qA ((au.out.trans (BL.out.mono tO)).trans cZ);have p0:=(eO.out.cell (p:=⟨w.heap.size,0,none⟩) sx).trans K0.out;have p1:=(eO.out.cell (p:=⟨w.heap.size,1,none⟩) sx).trans K1.out;have p2:=(eO.out.cell (p:=⟨w.heap.size,2,none⟩) sx).trans K2.out;have q5:=qA d8;have lz:=qA ai;have n8:=qA ni;clear cZ ni;by_cases aK:m<ls.length
    ·have dw:=kW.out m;have ri:=OKL.out _ dw;have oL:=mg.out m;have HS:=qA (jl.out m aK);have EP:=qA (OKR.out _ dw);obtain⟨_,_,uP,_,aZ⟩:=d8.at tO;obtain⟨rfl,rfl⟩:gl=_∧0=_:=by simpa using uP
     have c0:=aZ m aK;rw[zaD] at c0;have pU:I64 ls[m]:=d8.2 _ (by simp);generalize ls[m]=x at c0 HS pU;have HX:=qA pU;generalize (ls.take m).foldl (qAX g.2.2 u) o=om at*;have m8:u∈om:=List.mem_of_getElem? oL;have If:=qA m8;have kJ:=qA ab;have NX:=qA (NV.out u x);have N0:=qA (qLT (es:=g.2.2) (u:=u) (x:=x) (o:=om));have N1:=qA (qLK (es:=g.2.2) (u:=u) (x:=x) (o:=om));have N2:=qA (qJR (es:=g.2.2) (u:=u) (x:=x) (o:=om));have fO:=qA (qEe _ g u x wr (HG.out.below (BX.out.trans (eO.out.mono tO))) (ONE.out u x) LET.out);clear aZ uP ab d8 oL dw pU m8;go_wp2_with fail;refine fO.out.mono ?_;rintro e wq ⟨rfl,bq⟩;clear fO;have sq:=bq.size;have HQ:Hid (Below w1.heap.size wl wq):=qA (iz.out.trans (bq.mono tO));have iW:=qA (kJ.out.below bq);have nQ:=qA (q5.out.below bq);have mN:=qA (n8.out.below bq);clear bq p0 p1 p2;generalize qAY g.2.2 u x=y at*;rcases NX.out with hy | hy
     ·subst hy;have F:=qA (N0.out tO);go_wp2;go_roundw
      case rel=>exact⟨m+1,tO,by go_num,by rw[HS.out,F.out];exact iW.out,by rw[HS.out,F.out];exact mN.out,nQ.out,lz.out,xJ,tO,HQ.out⟩
      case measure=>simp[intOf];omega
     ·obtain⟨yn,rfl⟩: ∃yn:Nat,y=(yn:Int):=⟨y.toNat,tO⟩;have mq:(0:Int)≤(yn:Int):=hy.1;have JW:(yn:Int)<(N:Int):=hy.2;have pJ:yn<N:=tO;rcases h1:hasB om (yn:Int) with _ | _
      ·have F:=qA (N2.out mq h1);have HY:Hid (I64 (yn:Int)):=qA ⟨tO,tO⟩;have kj:(yn:Int)∉om:=qEm h1;have ct:=mN.out.at_new pJ kj;have ft:=mN.out.free yn;obtain⟨bu,capu,wu,cu,Af,wD⟩:=mN.out.at_old AC (by rw[←vU.out];exact If.out);have od:=qA wD;have ES:u<(N:Int):=by rw[vU.out];omega
       have FP:(0:Int)≤u:=by rw[vU.out];omega
       have cu':wq.cell? ⟨w1.heap.size,u.toNat,none⟩=some (.slice (some ⟨bu,0,none⟩) wu.length capu):=by rw[vU.out];exact cu
       clear wD kj;go_wp2_with fail;refine(qAC _ wu _ od.out tO).mono ?_
       rintro e wc ⟨rc,rfl,oc,bc⟩;have sc:=bc.size;have OC:=qA oc;have BC:=qA bc;have DD:=mN.out.lt.2;have EB:=mN.out.ne;have fo: ∀x,u7.ownBlock=some x→x<wq.heap.size:=fun x hx=>(iW.out.1.lt x hx).2;have jN:=qA fo;have CT:=qA ct;have FT:=qA ft;obtain⟨Ac,capc,rfl,_⟩:=OwI.form oc;clear oc bc ct ft fo;go_wp2_with (first | ((at_builtin;refine qN rfl (.tmp 59) (.tmp 61) rfl _ _ _ (OwI.alloc OC.out _) rfl _ _ rfl (qG _ _ _) HX.out (by first | omega | (simp<;>omega)) (by first | omega | (simp<;>omega)) ?_;intro v8 wv8 o8 g8 p8);obtain⟨A8,li,rfl,J5,JE,_,Bt⟩:=OwI.form o8;obtain⟨b8,rfl,IG,xH⟩:=Bt (by simp);have B8:Below wq.heap.size wq wv8:=qQ BC.out sc OC.out.1 (zaa _) g8;have Kp:=(B8.cell (p:=⟨w1.heap.size,yn,none⟩) DD).trans CT.out;have Km:=(B8.frozen (p:=⟨w1.heap.size,yn,none⟩) DD).trans FT.out;have zu:=(mN.out.below B8).set pJ o8.rd (by simp;omega) tO (fun e=>by have:=jN.out _ e;omega) xH;have s8:=B8.size;have zz:=qA B8;simp only[zah,List.length_cons,zaj,zaD] at zu;have tR:=qA zu;clear o8 g8 p8 Bt B8 zu;have Bd:wv8.grownBy (wv8.setCell ⟨w1.heap.size,yn,none⟩ (.slice (some ⟨b8,0,none⟩) (wu.length+1) li)) (some w1.heap.size):=qDC _ _ _ _;have nI:Hid (OwI (wv8.setCell ⟨w1.heap.size,yn,none⟩ (.slice (some ⟨b8,0,none⟩) (wu.length+1) li)) (w1.heap.size+1) u7 om):=qA ((iW.out.below zz.out).far (p:=⟨w1.heap.size,yn,none⟩) (by show w1.heap.size<_;omega) _);have jE:Hid (RdI (wv8.setCell ⟨w1.heap.size,yn,none⟩ (.slice (some ⟨b8,0,none⟩) (wu.length+1) li)) (.slice (some ⟨gl,0,none⟩) ls.length capl) ls):=qA ((nQ.out.below zz.out).grown Bd fun b hb aE=>by simp[zac] at hb aE;omega);have F6:Hid (Below w1.heap.size wl (wv8.setCell ⟨w1.heap.size,yn,none⟩ (.slice (some ⟨b8,0,none⟩) (wu.length+1) li))):=qA ((HQ.out.trans (zz.out.mono tO)).setCell (by show w1.heap.size≤w1.heap.size;omega) _);clear Bd) | (at_builtin;refine qN rfl (.tmp 64) (.tmp 66) rfl _ _ _ (OwI.alloc nI.out _) rfl _ _ rfl (by simp[go_sem]) HY.out (by first | omega | (simp<;>omega)) (by first | omega | (simp<;>omega)) ?_;intro v9 wv9 o9 g9 p9))
       have hS:(wv8.setCell ⟨w1.heap.size,yn,none⟩ (.slice (some ⟨b8,0,none⟩) (wu.length+1) li)).heap.size=wv8.heap.size:=by simp
       have zP:=g9.size;simp at zP
       go_roundw
       case rel=>
        refine⟨m+1,tO,by go_num,by rw[HS.out,F.out];exact o9,by rw[HS.out,F.out];exact tR.out.push g9 p9,(jE.out.alloc _).grown g9 (fun b hb aE=> ?_),fun e=> ?_,xJ,tO,qQ F6.out tO nI.out.1 tO g9⟩
        ·simp only[zac,zaV.injEq] at hb;subst hb;exact lz.out aE
        ·rcases p9 with p9 | p9
         ·rw[p9] at e;exact lz.out e
         ·rw[p9] at e;simp at e;omega
       case measure=>simp[intOf];omega
      ·have F:=qA (N1.out mq h1);obtain⟨bu,capu,wu,cu,Af,wD⟩:=mN.out.at_old pJ (qBR.1 h1);clear wD;go_wp2;go_roundw
       case rel=>exact⟨m+1,tO,by go_num,by rw[HS.out,F.out];exact iW.out,by rw[HS.out,F.out];exact mN.out,nQ.out,lz.out,xJ,tO,HQ.out⟩
       case measure=>simp[intOf];omega
    ·obtain rfl:m=ls.length:=tO
     rw[zam] at ab n8;have dw:=kW.out ls.length;rw[zam] at dw;have pL:=qA dw;have kJ:=qA ab;have aH:k+1≤(ls.foldl (qAX g.2.2 u) o).length:=by
      have:=mg.out ls.length
      rw[zam] at this;have:=(zai.1 this).1
      omega
     obtain⟨A2,am,rfl,_⟩:=ab.form;clear ab d8 ai dw p0 p1 p2;go_wp2;go_roundw
     case rel=>exact⟨k+1,_,aH,by go_num,pL.out,jR.out,kJ.out,n8.out,eO.out⟩
     case measure=>simp[intOf];omega
  ·obtain rfl:k=o.length:=tO
   have F:Hid (canO g=o):=qA (by rw[HC.out,qLG]);clear ab dq;have dl:Hid (Below w.heap.size w wo):=qA (BX.out.trans (au.out.mono tO));have uS:=EX.out;have aq:w.heap.size≤w1.heap.size+1:=tO;clear uS;go_wp2;exact bodyPost_ret (v:= .tuple #[.slice A1 o.length ah, .slice (some ⟨w1.heap.size,0,none⟩) N N]) (by simp[results,Tryz.results177]) rfl ⟨_,_,rfl,by rw[F.out];exact HO.out.mono aq,dl.out⟩
theorem qDX (w:World) (b:Nat) {x0 x1 x2:Value} (v0 v1 v2:Value) (h0:w.cell? ⟨b,0,none⟩=some x0) (h1:w.cell? ⟨b,1,none⟩=some x1) (h2:w.cell? ⟨b,2,none⟩=some x2):
  (((w.setCell ⟨b,0,none⟩ v0).setCell ⟨b,1,none⟩ v1).setCell ⟨b,2,none⟩ v2).cell? ⟨b,0,none⟩=some v0∧(((w.setCell ⟨b,0,none⟩ v0).setCell ⟨b,1,none⟩ v1).setCell ⟨b,2,none⟩ v2).cell? ⟨b,1,none⟩=some v1∧(((w.setCell ⟨b,0,none⟩ v0).setCell ⟨b,1,none⟩ v1).setCell ⟨b,2,none⟩ v2).cell? ⟨b,2,none⟩=some v2:=by
 refine⟨?_,?_,?_⟩
 ·rw[zae _ _ _ _ (by simp),zae _ _ _ _ (by simp),zat _ _ _ h0]
 ·rw[zae _ _ _ _ (by simp)];exact zat _ _ _ ((zae _ _ _ _ (by simp)).trans h1)
 ·exact zat _ _ _ ((zae _ _ _ _ (by simp)).trans ((zae _ _ _ _ (by simp)).trans h2))
def canG (g:GrD):GrD:=rnG g (canO g)
theorem qBN (v:Value) (g:GrD) (w:World) (h:ArgG w v g) (hf:qAk g=true):
  Calls Tryz.prog 168 #[v] w fun e w'=> ∃r,e= .returned r∧OwG w' w.heap.size r (canG g)∧Below w.heap.size w w':=by
 have HG:=qA h;have HF:=qA hf;obtain⟨hg,_⟩:=qAQ hf;have aD:=qA hg;have ar:=qNQ hg;obtain⟨cR,aJ,aO,_⟩:=qR hg;have tz:1≤(canO g).length:=by
  have:=ar.2.2
  cases hc:canO g with
  | nil=>rw[hc] at this;cases this
  | cons _ _=>simp
 have jb:(canO g).length≤g.2.1.toNat:=qBc g.2.1.toNat _ ar.1 fun y hy=>by have:=ar.2.1 y hy;omega
 have bG:=qA ar;have pD:Hid (canG g=rnG g (canO g)):=qA rfl;obtain⟨s,rfl,bg,bH,ha⟩:=h;clear hf hg ar;generalize hO:canO g=o at*;have lA:=qA hO;clear hO;obtain⟨r,n,es⟩:=g;simp only at cR aJ aO jb bg bH ha HG⊢
 obtain⟨A,cap,rfl,aj,hm,_⟩:=ha;unfold maxLen at hm;have bx:Below w.heap.size w ((w.alloc (.cells #[.int .i64 r,.int .i64 n, .slice A es.length cap] 82)).alloc (.cells #[.int .i64 0,.int .i64 0, .slice none 0 0] 82)):=(by repeat(first | exact .refl _ _ | (refine BxS ?_ _) | (refine qB ?_ _) | (refine zad ?_) | (refine BxA ?_ _)));go_enter Tryz.func168,Tryz.ntmps168
 go_wp2_with fail;obtain⟨W0,aF⟩: ∃W,W=(w.alloc (.cells #[.int .i64 r,.int .i64 n, .slice A es.length cap] 82)).alloc (.cells #[.int .i64 0,.int .i64 0, .slice none 0 0] 82):=⟨_,rfl⟩;rw[←aF] at bx⊢;have cI:W0.heap.size=w.heap.size+2:=by rw[aF];simp
 have B0:Hid (W0.cell? ⟨w.heap.size,0,none⟩=some (.int .i64 r)):=qA (by rw[aF];simp[go_sem]);have B1:Hid (W0.cell? ⟨w.heap.size,1,none⟩=some (.int .i64 n)):=qA (by rw[aF];simp[go_sem]);have B2:Hid (W0.cell? ⟨w.heap.size,2,none⟩=some (.slice A es.length cap)):=qA (by rw[aF];simp[go_sem]);have R0:Hid (W0.cell? ⟨w.heap.size+1,0,none⟩=some (.int .i64 0)):=qA (by rw[aF];simp[go_sem]);have R1:Hid (W0.cell? ⟨w.heap.size+1,1,none⟩=some (.int .i64 0)):=qA (by rw[aF];simp[go_sem]);have R2:Hid (W0.cell? ⟨w.heap.size+1,2,none⟩=some (.slice none 0 0)):=qA (by rw[aF];simp[go_sem]);have RF:Hid (∀j,W0.frozen? ⟨w.heap.size+1,j,none⟩=false):=qA fun j=>by rw[aF];simp[go_sem]
 clear aF;have BX:=qA bx;refine(qCz _ (r,n,es) W0 (HG.out.below bx) HF.out).mono ?_
 rintro e w1 ⟨r1,rfl,o1,b1⟩;rw[lA.out] at o1;have O1:=qA o1;have nH:=qA b1;have s1:=b1.size;obtain⟨A1,ah,rfl,Eo,AP,_⟩:=OwI.form o1;unfold maxLen at AP;have q0:=(b1.cell (p:=⟨w.heap.size,0,none⟩) (show w.heap.size<W0.heap.size by omega)).trans B0.out;have q1:=(b1.cell (p:=⟨w.heap.size,1,none⟩) (show w.heap.size<W0.heap.size by omega)).trans B1.out;have q2:=(b1.cell (p:=⟨w.heap.size,2,none⟩) (show w.heap.size<W0.heap.size by omega)).trans B2.out;have g0:((o.length:Int)==0)=false:=by rw[beq_eq_false_iff_ne];omega
 clear o1 b1 bx;go_wp2_with fail;refine(qCp _ _ (r,n,es) o w1 (HG.out.below (BX.out.trans (nH.out.mono tO))) O1.out.rd aD.out bG.out).mono ?_
 rintro e w2 ⟨r2,rfl,o2,b2⟩;have Fk:=qA b2;have s2:=b2.size;have O2:=qA o2;obtain⟨sv,rfl,ao,aP,mC⟩:=o2;obtain⟨A2,am,rfl,hZ,Ic,_⟩:=mC.form;have dR:=((b2.frozen (p:=⟨w.heap.size+1,0,none⟩) (show w.heap.size+1<w1.heap.size by omega)).trans (nH.out.frozen (p:=⟨w.heap.size+1,0,none⟩) (show w.heap.size+1<W0.heap.size by omega))).trans (RF.out 0);have dP:=((b2.frozen (p:=⟨w.heap.size+1,1,none⟩) (show w.heap.size+1<w1.heap.size by omega)).trans (nH.out.frozen (p:=⟨w.heap.size+1,1,none⟩) (show w.heap.size+1<W0.heap.size by omega))).trans (RF.out 1);have dI:=((b2.frozen (p:=⟨w.heap.size+1,2,none⟩) (show w.heap.size+1<w1.heap.size by omega)).trans (nH.out.frozen (p:=⟨w.heap.size+1,2,none⟩) (show w.heap.size+1<W0.heap.size by omega))).trans (RF.out 2);have vc:=((b2.cell (p:=⟨w.heap.size+1,0,none⟩) (show w.heap.size+1<w1.heap.size by omega)).trans (nH.out.cell (p:=⟨w.heap.size+1,0,none⟩) (show w.heap.size+1<W0.heap.size by omega))).trans R0.out;have tt:=((b2.cell (p:=⟨w.heap.size+1,1,none⟩) (show w.heap.size+1<w1.heap.size by omega)).trans (nH.out.cell (p:=⟨w.heap.size+1,1,none⟩) (show w.heap.size+1<W0.heap.size by omega))).trans R1.out;have t8:=((b2.cell (p:=⟨w.heap.size+1,2,none⟩) (show w.heap.size+1<w1.heap.size by omega)).trans (nH.out.cell (p:=⟨w.heap.size+1,2,none⟩) (show w.heap.size+1<W0.heap.size by omega))).trans R2.out;clear b2 q0 q1 q2 mC;generalize rnG (r,n,es) o=D at*;obtain⟨dr,dn,de⟩:=D;simp only at O2 ao aP hZ⊢
 have ac:w.heap.size+1<w2.heap.size:=tO;have hA: ∀ob o',(w2.alloc ob).cell? ⟨w.heap.size+1,o',none⟩=w2.cell? ⟨w.heap.size+1,o',none⟩:=fun ob o'=>zaA (zaF w2 ob _ ac);have Jg: ∀ob o',(w2.alloc ob).frozen? ⟨w.heap.size+1,o',none⟩=w2.frozen? ⟨w.heap.size+1,o',none⟩:=fun ob o'=>zaK (zaF w2 ob _ ac);go_wp2;obtain⟨c0,c1,c2⟩:=qDX w2 (w.heap.size+1) (.int .i64 dr) (.int .i64 dn) (.slice A2 de.length am) vc tt t8;have BB:Hid (Below w.heap.size w w2):=qA (BX.out.trans ((nH.out.mono tO).trans (Fk.out.mono tO)));have bw:Below w.heap.size w (((w2.setCell ⟨w.heap.size+1,0,none⟩ (.int .i64 dr)).setCell ⟨w.heap.size+1,1,none⟩ (.int .i64 dn)).setCell ⟨w.heap.size+1,2,none⟩ (.slice A2 de.length am)):=(by repeat(first | exact .refl _ _ | (refine BxS ?_ _) | (refine qB ?_ _) | (refine zad ?_) | (refine BxA ?_ _) | (refine BxT ?_ (Hid.out BB))));have ow:OwE (((w2.setCell ⟨w.heap.size+1,0,none⟩ (.int .i64 dr)).setCell ⟨w.heap.size+1,1,none⟩ (.int .i64 dn)).setCell ⟨w.heap.size+1,2,none⟩ (.slice A2 de.length am)) w1.heap.size (.slice A2 de.length am) de:=by
  obtain⟨sv,e,_,_,ha⟩:=O2.out;injection e with e
  have e3:sv= .slice A2 de.length am:=by injection e with e;injection e with _ e;injection e with _ e;injection e with e _;exact e.symm
  subst e3;exact((ha.far (by show w.heap.size+1<_;omega) _).far (by show w.heap.size+1<_;omega) _).far (by show w.heap.size+1<_;omega) _
 have r7:(((w2.setCell ⟨w.heap.size+1,0,none⟩ (.int .i64 dr)).setCell ⟨w.heap.size+1,1,none⟩ (.int .i64 dn)).setCell ⟨w.heap.size+1,2,none⟩ (.slice A2 de.length am)).heap.size=w2.heap.size:=by simp
 generalize ((w2.setCell ⟨w.heap.size+1,0,none⟩ (.int .i64 dr)).setCell ⟨w.heap.size+1,1,none⟩ (.int .i64 dn)).setCell ⟨w.heap.size+1,2,none⟩ (.slice A2 de.length am)=wf at*;have ba: ∀ob,Below wf.heap.size wf (wf.alloc ob):=fun ob=>(zab _ _).alloc (zaa _) _;have fo: ∀ob o',(wf.alloc ob).cell? ⟨w.heap.size+1,o',none⟩=wf.cell? ⟨w.heap.size+1,o',none⟩:=fun ob o'=>zaA (zaF wf ob (w.heap.size+1) (show w.heap.size+1<wf.heap.size by omega));refine bodyPost_ret (v:= .agg #[.int .i64 dr, .int .i64 dn, .slice A2 de.length am]) (by simp[results,Tryz.results168,go_sem,fo,c0,c1,c2]) rfl ⟨_,rfl,?_,bw.trans ((ba _).mono bw.size)⟩;rw[pD.out];exact⟨_,rfl,ao,aP,(ow.below (ba _)).mono tO⟩
section
variable {w w':World} {v:Value} {ds:List GrD} {lo hi:Nat}
end
def qGP (g:GrD):Bool:=qAk g&&decide (qAG g.2.2 g.2.1.toNat<0)&&decide (canG g=g)
theorem qHA (v:Value) (g:GrD) (w:World) (h:ArgG w v g):
  Calls Tryz.prog 169 #[v] w fun e w'=>e= .returned (.bool (qGP g))∧Below w.heap.size w w':=by
 have HG:=qA h;obtain⟨s,rfl,bg,bH,ha⟩:=h;have HC:Hid (qGP g=(qAk g&&decide (qAG g.2.2 g.2.1.toNat<0)&&decide (canG g=g))):=qA rfl;generalize qGP g=cb at*;clear ha;go_enter Tryz.func169,Tryz.ntmps169
 go_wp2_with fail;have bx:Below w.heap.size w (w.alloc (.cells #[.int .i64 g.1,.int .i64 g.2.1,s] 82)):=(by repeat(first | exact .refl _ _ | (refine BxS ?_ _) | (refine qB ?_ _) | (refine zad ?_) | (refine BxA ?_ _)));have l0:(w.alloc (.cells #[.int .i64 g.1,.int .i64 g.2.1,s] 82)).cell? ⟨w.heap.size,0,none⟩=some (.int .i64 g.1):=by simp[go_sem]
 have l1:(w.alloc (.cells #[.int .i64 g.1,.int .i64 g.2.1,s] 82)).cell? ⟨w.heap.size,1,none⟩=some (.int .i64 g.2.1):=by simp[go_sem]
 have l2:(w.alloc (.cells #[.int .i64 g.1,.int .i64 g.2.1,s] 82)).cell? ⟨w.heap.size,2,none⟩=some s:=by simp[go_sem]
 have sA:w.heap.size<(w.alloc (.cells #[.int .i64 g.1,.int .i64 g.2.1,s] 82)).heap.size:=by simp
 generalize w.alloc (.cells #[.int .i64 g.1,.int .i64 g.2.1,s] 82)=W at bx l0 l1 l2 sA⊢;have BX:=qA bx;have HA:Hid (∀w',Below W.heap.size W w'→ArgG w' (.agg #[.int .i64 g.1, .int .i64 g.2.1,s]) g):=qA fun w' hb=>HG.out.below (BX.out.trans (hb.mono tO));clear bx;have eo:=fun w' hb=>qBe _ g w' (HA.out w' hb);rcases e1:qAk g with _ | _
 ·have HF:=qA e1;have HR:Hid (cb=false):=qA (by rw[HC.out,e1];rfl);simp only[e1] at eo;have lQ:=qA eo;clear e1 eo;have f0:=BelW.cell l0 sA;have f1:=BelW.cell l1 sA;have f2:=BelW.cell l2 sA;(refine qK tK tK ?_;(repeat(go_big_quiet_step (first | (go_at_call 187;exact Calls.bel_of (lQ.out _ (BelW.h _))))));refine wpQuiet_nil ?_;intro wq hw';obtain⟨pq,al⟩:=hw';have bq:=pq.h;rw[←al] at bq;clear al pq)
  go_wp2;exact bodyPost_ret (v:= .bool false) (by simp[results,Tryz.results169]) rfl ⟨by rw[HR.out],BX.out.trans (bq.mono (zan sA))⟩
 ·have HF:=qA e1;have hg:=(qAQ e1).1;simp only[e1] at eo;have lQ:=qA eo;clear eo;have aD:=qA hg;have iP:Hid (qAG g.2.2 g.2.1.toNat=qAG g.2.2 g.2.1.toNat):=qA rfl;have L8:=qA (fun w' hb=>qHP _ g w' (HA.out w' hb) aD.out);generalize qAG g.2.2 g.2.1.toNat=lv at*;clear hg;by_cases hl:lv<0
  ·have HR:Hid (cb=decide (canG g=g)):=qA (by rw[HC.out,e1];simp[hl]);clear e1;go_region_held3 (fun w'=>w'.cell? ⟨w.heap.size,0,none⟩=some (.int .i64 g.1)∧w'.cell? ⟨w.heap.size,1,none⟩=some (.int .i64 g.2.1)∧w'.cell? ⟨w.heap.size,2,none⟩=some s)
    (first | go_keep | exact⟨q0,q1,q2⟩)
    (first
     | (go_at_call 187;refine(qBe _ g _ (HA.out _ (zab _ _).drew)).mono ?_;rintro e' w1 ⟨rfl,b1⟩;rw[HF.out];have B1:=qA ((zab _ W).drew.trans b1);have q0:=(B1.out.cell (p:=⟨w.heap.size,0,none⟩) sA).trans l0;have q1:=(B1.out.cell (p:=⟨w.heap.size,1,none⟩) sA).trans l1;have q2:=(B1.out.cell (p:=⟨w.heap.size,2,none⟩) sA).trans l2;clear b1)
     | (go_at_call 184;refine(L8.out _ B1.out).mono ?_;rintro e' w2 ⟨rfl,b2⟩;have B2:=qA (B1.out.trans (b2.mono B1.out.size));have q0:=(B2.out.cell (p:=⟨w.heap.size,0,none⟩) sA).trans l0;have q1:=(B2.out.cell (p:=⟨w.heap.size,1,none⟩) sA).trans l1;have q2:=(B2.out.cell (p:=⟨w.heap.size,2,none⟩) sA).trans l2;clear b2)
     | (go_at_call 168;refine(qBN _ g _ (HA.out _ B2.out) HF.out).mono ?_;rintro e' w3 ⟨r3,rfl,o3,b3⟩;have B3:=qA (B2.out.trans (b3.mono B2.out.size));have O3:=qA o3;have q0:=(B3.out.cell (p:=⟨w.heap.size,0,none⟩) sA).trans l0;have q1:=(B3.out.cell (p:=⟨w.heap.size,1,none⟩) sA).trans l1;have q2:=(B3.out.cell (p:=⟨w.heap.size,2,none⟩) sA).trans l2;clear b3 o3)
     | (go_at_call 188;refine(qDw _ _ (canG g) g _ O3.out.arg (HA.out _ B3.out)).mono ?_;rintro e' w4 ⟨rfl,b4⟩;have B4:=qA (B3.out.trans (b4.mono B3.out.size));have q0:=(B4.out.cell (p:=⟨w.heap.size,0,none⟩) sA).trans l0;have q1:=(B4.out.cell (p:=⟨w.heap.size,1,none⟩) sA).trans l1;have q2:=(B4.out.cell (p:=⟨w.heap.size,2,none⟩) sA).trans l2;clear b4))
   go_wp2;exact bodyPost_ret (v:= .bool (decide (canG g=g))) (by simp[results,Tryz.results169]) rfl ⟨by rw[HR.out],BX.out.trans (B4.out.mono (zan sA))⟩
  ·have HR:Hid (cb=false):=qA (by rw[HC.out,e1];simp[hl]);clear e1;have f0:=BelW.cell l0 sA;have f1:=BelW.cell l1 sA;have f2:=BelW.cell l2 sA;(refine qK tK tK ?_;(repeat(go_big_quiet_step (first | (go_at_call 187;exact Calls.bel_of (lQ.out _ (BelW.h _))) | (go_at_call 184;exact Calls.bel_of (L8.out _ (BelW.h _))))));refine wpQuiet_nil ?_;intro wq hw';obtain⟨pq,al⟩:=hw';have bq:=pq.h;rw[←al] at bq;clear al pq)
   go_wp2;exact bodyPost_ret (v:= .bool false) (by simp[results,Tryz.results169]) rfl ⟨by rw[HR.out],BX.out.trans (bq.mono (zan sA))⟩
theorem qEM (v:Value) (g:GrD) (w:World) (h:ArgG w v g):
  Calls Tryz.prog 147 #[v] w fun e w'=>e= .returned (.bool (qGP g))∧Below w.heap.size w w':=by
 have HG:=qA h;obtain⟨s,rfl,bg,bH,ha⟩:=h;clear ha;go_enter Tryz.func147,Tryz.ntmps147
 go_wp2_with fail;have bx:Below w.heap.size w (w.alloc (.cells #[.int .i64 g.1,.int .i64 g.2.1,s] 82)):=(by repeat(first | exact .refl _ _ | (refine BxS ?_ _) | (refine qB ?_ _) | (refine zad ?_) | (refine BxA ?_ _)));refine(qHA _ g _ (HG.out.below bx)).mono ?_
 rintro e w1 ⟨rfl,b1⟩;have b2:=bx.trans (b1.mono bx.size);go_wp2;exact bodyPost_ret (v:= .bool (qGP g)) (by simp[results,Tryz.results147]) rfl ⟨rfl,b2⟩
def qNe (bs:List Bool):List Value:=bs.map Value.bool
def OwB (w:World) (base:Nat) (v:Value) (bs:List Bool):Prop:=w.ownsRow base 4 1 v bs.length (qNe bs)
section
variable {w w':World} {base n g cap:Nat} {v:Value} {bs:List Bool}
theorem OwB.len (h:OwB w base (.slice (some ⟨g,0,none⟩) n cap) bs):n=bs.length:=by
 rcases h.2 with ⟨hv,_⟩ | ⟨g',cap',cur,hv,_⟩
 ·cases hv
 ·injection hv
theorem OwB.set (h:OwB w base (.slice (some ⟨g,0,none⟩) n cap) bs) (j:Nat) (z:Bool):
  OwB (w.setCell ⟨g,j,none⟩ (.bool z)) base (.slice (some ⟨g,0,none⟩) n cap) (bs.set j z)∧w.grownBy (w.setCell ⟨g,j,none⟩ (.bool z)) (some g):=by
 have hn:=h.len;subst hn;obtain⟨h1,h2⟩:=zao.stored h j (.bool z);refine⟨?_,h2⟩;unfold OwB;rw[zas];simpa[qNe,List.map_set] using h1
theorem OwB.cellAt (h:OwB w base (.slice (some ⟨g,0,none⟩) n cap) bs) (j:Nat) (hj:j<bs.length):w.cell? ⟨g,j,none⟩=some (.bool bs[j]):=by
 have hn:=h.len;subst hn;rw[zao.cellAt h j tO];simp[qNe,hj]
theorem OwB.free (h:OwB w base (.slice (some ⟨g,0,none⟩) n cap) bs) (j:Nat):w.frozen? ⟨g,j,none⟩=false:=by
 have hn:=h.len;subst hn;exact zao.frozenAt h j
end
theorem OwB.below {w w':World} {base:Nat} {v:Value} {bs:List Bool} (h:OwB w base v bs) (hb:Below w.heap.size w w'):OwB w' base v bs:=ql h hb
theorem OwB.mono {w:World} {base base':Nat} {v:Value} {bs:List Bool} (h:OwB w base v bs) (hb:base'≤base):OwB w base' v bs:=by
 refine⟨h.1,?_⟩;rcases h.2 with h0 | ⟨g,cap,cur,hv,hg,r⟩
 ·exact .inl h0
 ·exact .inr ⟨g,cap,cur,hv,tO,r⟩
def qQm (w:World) (b v:Nat):Nat:=match w.cell? ⟨b,v,none⟩ with
 | some (.bool false)=>1
 | _=>0
def mB (w:World) (b n:Nat):Nat:=((zaq n).map (qQm w b)).sum
theorem qMQ (bs:List Bool):(bs.map fun b=>if b=false then 1 else 0).sum=bs.count false:=by
 induction bs with
 | nil=>rfl
 | cons b bs ih=>cases b<;>simp[ih];omega
theorem qQS {w:World} {base g n cap:Nat} {bs:List Bool} (h:OwB w base (.slice (some ⟨g,0,none⟩) n cap) bs):mB w g bs.length=bs.count false:=by
 rw[←qMQ];unfold mB;congr 1
 refine zaS (by simp) fun i h1 h2=> ?_;have hi:i<bs.length:=by simpa using h2
 simp only[List.getElem_map,List.getElem_range];unfold qQm;rw[h.cellAt i hi];cases bs[i]<;>rfl
def JI (es:List EdD) (n:Nat) (bs:List Bool):Prop:=bs.length=n∧bs[0]? =some true∧ ∀v:Nat,bs[v]? =some true→Conn es 0 v
theorem qBC {bs:List Bool} {a v:Nat}:(bs.set a true)[v]? =some true↔(v=a∧a<bs.length)∨bs[v]? =some true:=by
 rw[List.getElem?_set];by_cases e:a=v
 ·subst e;by_cases hl:a<bs.length
  ·simp[hl]
  ·simp[hl]
 ·rw[if_neg e];constructor
  ·exact .inr
  ·rintro(⟨h,_⟩ | h)
   ·exact absurd h.symm e
   ·exact h
theorem qDq {bs:List Bool} {a:Nat} (ha:a<bs.length):(bs.set a true).count false+(if bs[a]=false then 1 else 0)=bs.count false:=by
 induction bs generalizing a with
 | nil=>simp at ha
 | cons b bs ih=>
   cases a with
   | zero=>cases b<;>simp
   | succ a=>
     have:=ih (a:=a) (by simpa using ha)
     cases b<;>simp[List.count_cons]<;>omega
theorem JI.step {es:List EdD} {n a c:Nat} {bs:List Bool} {l:Int} (h:JI es n bs) (he:((a:Int),l,(c:Int))∈es) (ha:a<n) (hc:c<n) (ai:bs[a]? ≠bs[c]?):
  JI es n ((bs.set a true).set c true)∧((bs.set a true).set c true).count false<bs.count false:=by
 obtain⟨h1,h2,h3⟩:=h;have Dl:a<bs.length:=tO;have jB:c<bs.length:=tO;have e1:bs[a]? =some bs[a]:=by simp[Dl]
 have e2:bs[c]? =some bs[c]:=by simp[jB]
 have vi:bs[a]? =some true∨bs[c]? =some true:=by
  rw[e1,e2] at ai⊢;cases h:bs[a]<;>cases h':bs[c]<;>simp[h,h'] at ai⊢
 refine⟨⟨by simp[h1],?_,fun v hv=> ?_⟩,?_⟩
 ·rw[qBC,qBC];exact .inr (.inr h2)
 ·rw[qBC,qBC] at hv;rcases hv with ⟨rfl,_⟩ | ⟨rfl,_⟩ | hv
  ·rcases vi with h | h
   ·exact Conn.fwd _ he (h3 _ h)
   ·exact h3 _ h
  ·rcases vi with h | h
   ·exact h3 _ h
   ·exact Conn.back _ he (h3 _ h)
  ·exact h3 _ hv
 ·have k1:=qDq Dl;have k2:=qDq (bs:=bs.set a true) (a:=c) (by simpa using jB);rw[e1,e2] at ai;have H3:a≠c:=fun e=>by subst e;exact ai rfl
  have k3:(bs.set a true)[c]'(by simpa using jB)=bs[c]:=by rw[zaL H3]
  rw[k3] at k2;cases h:bs[a]<;>cases h':bs[c]<;>simp[h,h'] at ai k1 k2<;>omega
theorem JI.done {es:List EdD} {n:Nat} {bs:List Bool} (h:JI es n bs) (hr: ∀e∈es,0≤e.1∧0≤e.2.2) (aZ: ∀e∈es,bs[e.1.toNat]? =bs[e.2.2.toNat]?):
  ∀v (hv:v<bs.length),bs[v]=hasB (qBj es 0) v:=by
 intro v hv;have key:bs[v]? =some true↔Conn es 0 v:=by
  refine⟨h.2.2 v,fun hc=> ?_⟩;have:=qGy (S:=fun x=>0≤x→bs[x.toNat]? =some true) (v:=0) (fun _=>h.2.1) ?_ hc tO
  ·simpa using this
  ·intro e he;obtain⟨a,b⟩:=hr e he;have:=aZ e he
   exact⟨fun hx _=>by rw[←this];exact hx a,fun hx _=>by rw[this];exact hx b⟩
 rw[zaJ,qBR,qLj,←key];simp[hv]
theorem qCM (w:World) (a:Addr) (u:Value):(w.setCell a u).heap.size=w.heap.size:=by simp
theorem qMn:(Tryz.prog.info? 4).map (fun i=>(i.zero,i.size,i.bytes))=some (some (.bool false),1,1):=by kernel_rfl
def qGA (g:GrD):List Bool:=(zaq g.2.1.toNat).map fun v=>hasB (qBj g.2.2 0) (v:Nat)
theorem qOf {g:GrD} {bs:List Bool} (hl:bs.length=g.2.1.toNat) (h: ∀v (hv:v<bs.length),bs[v]=hasB (qBj g.2.2 0) v):bs=qGA g:=by
 refine zaS (by simp[qGA,hl]) fun i h1 h2=> ?_;rw[h i h1];simp[qGA]
theorem qLg (v:Value) (g:GrD) (w:World) (h:ArgG w v g) (hg:grB g=true):
  Calls Tryz.prog 153 #[v, .int .i64 0] w fun e w'=> ∃r,e= .returned r∧OwB w' w.heap.size r (qGA g)∧Below w.heap.size w w':=by
 have HG:=qA h;obtain⟨cR,aJ,aO,_⟩:=qR hg;have jA:=qA (fun e he=>qAM hg (e:=e) he);have HJ:Hid (∀bs:List Bool,bs.length=g.2.1.toNat→(∀v (hv:v<bs.length),bs[v]=hasB (qBj g.2.2 0) v)→bs=qGA g):=qA fun bs=>qOf;generalize qGA g=JL at*;clear hg h;obtain⟨r,n,es⟩:=g;simp only at cR aJ aO HG jA HJ
 obtain⟨N,rfl⟩: ∃N:Nat,n=(N:Int):=⟨n.toNat,tO⟩;have mU:1≤N:=tO;have ly:N≤40:=tO;clear aJ cR;obtain⟨A,cap,rfl,HE⟩: ∃A cap,v= .agg #[.int .i64 r, .int .i64 N, .slice A es.length cap]∧Hid (ArgE w (.slice A es.length cap) es):=by
  obtain⟨s,hv,_,_,ha⟩:=HG.out;obtain⟨A,cap,rfl⟩:=ha.form;exact⟨A,cap,hv,qA ha⟩
 have fM:es.length≤cap∧cap≤maxLen:=by
  obtain⟨_,_,hv,h1,h2,_⟩:=HE.out;injection hv with _ _ e3
  subst e3;exact⟨h1,h2⟩
 obtain⟨aj,hm⟩:=fM;unfold maxLen at hm;have bx:Below w.heap.size w (w.alloc (.cells #[.int .i64 r,.int .i64 N, .slice A es.length cap] 82)):=(by repeat(first | exact .refl _ _ | (refine BxS ?_ _) | (refine qB ?_ _) | (refine zad ?_) | (refine BxA ?_ _)));go_enter Tryz.func153,Tryz.ntmps153
 obtain⟨i0,a7,aS,ao,aP⟩:=info_parts qMn;go_wp2_with (at_make;refine wpList_make_full _ rfl _ _ 148 rfl (w.heap.size+1) 4 i0 (.bool false) 1 Tryz.underlying148 a7 aS ao _ _ _ _ N rfl rfl rfl rfl (by rw[aP];omega) (by unfold maxLen;omega) (by simp) ?_)
 have b1:(w.alloc (.cells #[.int .i64 r,.int .i64 N, .slice A es.length cap] 82)).cell? ⟨w.heap.size,1,none⟩=some (.int .i64 N):=by simp[go_sem]
 have b2:(w.alloc (.cells #[.int .i64 r,.int .i64 N, .slice A es.length cap] 82)).cell? ⟨w.heap.size,2,none⟩=some (.slice A es.length cap):=by simp[go_sem]
 have cI:(w.alloc (.cells #[.int .i64 r,.int .i64 N, .slice A es.length cap] 82)).heap.size=w.heap.size+1:=by simp
 generalize w.alloc (.cells #[.int .i64 r,.int .i64 N, .slice A es.length cap] 82)=w1 at bx b1 b2 cI⊢;rw[←cI];have eY:w.heap.size<w1.heap.size:=tO;have xC:=qA cI;clear cI;have B2:=qA b2;have BX:=qA bx;clear b2 bx;intro w2 hown0 hgrow0;have eA:OwB w2 w1.heap.size (.slice (some ⟨w1.heap.size,0,none⟩) N N) (zau N false):=by
  unfold OwB;rw[List.length_replicate];have:qNe (zau N false)=zau N (Value.bool false):=by simp[qNe]
  rw[this];simpa[toList_madeCells_one] using hown0
 have gI:=eA.cellAt 0 (by simp;omega);have CH:=eA.free 0;have O1:=qA (eA.set 0 true);have G0:=qA hgrow0;have Co:w1.heap.size<w2.heap.size:=(eA.lt w1.heap.size rfl).2;have j1:(0:Int)<(N:Int):=tO;clear hown0 eA hgrow0;simp only[List.getElem_replicate] at gI;have Hi:Hid (JI es N ((zau N false).set 0 true)):=qA (by
  refine⟨by simp,?_,fun v hv=> ?_⟩
  ·rw[qBC];left;exact⟨rfl,by simp;omega⟩
  ·rw[qBC] at hv;rcases hv with ⟨rfl,_⟩ | hv
   ·exact Conn.base
   ·rw[List.getElem?_replicate] at hv;split at hv
    ·injection hv with hv;cases hv
    ·cases hv)
 have pm:Hid (∀e∈es,0≤e.1∧0≤e.2.2):=qA fun e he=>by have:=jA.out e he;omega
 go_wp2;go_loopw [6] (fun a wr=> ∃(ag:Bool) (bs:List Bool),a= .bool ag∧JI es N bs∧OwB wr w1.heap.size (.slice (some ⟨w1.heap.size,0,none⟩) N N) bs∧Below w1.heap.size w1 wr∧(ag=false→ ∀e∈es,bs[e.1.toNat]? =bs[e.2.2.toNat]?)) (fun a wr=>2*mB wr w1.heap.size N+(match a with | .bool true=>1 | _=>0))
 case atStart=>exact⟨true,_,rfl,Hi.out,O1.out.1,((zab _ _).grown G0.out (zaa _) (fun k h=>by cases h)).grown O1.out.2 tO (fun k h=>by cases h;omega),fun h=>by cases h⟩
 case round=>
  obtain⟨ag,bs,rfl,vq,ab,aa,aZ⟩:=hrel;have DQ:=qA vq;have HO:=qA ab;have HB:=qA aa;have bZ:=qA aZ;have aM:=vq.1;have tE:=qQS ab;rw[aM] at tE;have HM:=qA tE;clear tE;clear vq ab aZ;cases ag with
  | false=>
    have HF:Hid (bs=JL):=qA (HJ.out bs (by simpa using aM) (DQ.out.done pm.out (bZ.out rfl)));have BB:Hid (Below w.heap.size w wr):=qA (BX.out.trans (aa.mono tO));have aq:w.heap.size≤w1.heap.size:=tO;clear aa;have Eq:Hid (OwB wr w.heap.size (.slice (some ⟨w1.heap.size,0,none⟩) N N) JL):=qA (by rw[←HF.out];exact HO.out.mono aq);go_wp2;exact bodyPost_ret (v:= .slice (some ⟨w1.heap.size,0,none⟩) N N) (by simp[results,Tryz.results153]) rfl ⟨_,rfl,Eq.out,BB.out⟩
  | true=>
    have q2:=(aa.cell (p:=⟨w.heap.size,2,none⟩) (show w.heap.size<w1.heap.size from eY)).trans B2.out;clear aa aM;obtain⟨wo,BD⟩: ∃wo:World,wo=wr:=⟨_,rfl⟩;have JO:=qA BD;clear BD;go_wp2;go_loopw [6,19] (fun a i wr=> ∃(k:Nat) (ag:Bool) (b2:List Bool),k≤es.length∧i= .int .i64 k∧a= .bool ag∧JI es N b2∧OwB wr w1.heap.size (.slice (some ⟨w1.heap.size,0,none⟩) N N) b2∧Below w1.heap.size w1 wr∧b2.count false≤bs.count false∧(ag=true→b2.count false<bs.count false)∧(ag=false→ ∀j (hj:j<es.length),j<k→b2[es[j].1.toNat]? =b2[es[j].2.2.toNat]?)) (fun _ i _=>es.length-(intOf i).toNat)
    case atStart=>exact⟨0,false,bs,zal _,rfl,rfl,DQ.out,HO.out,HB.out,zaa _,(fun h=>by cases h),fun _ j hj h=>absurd h tO⟩
    case round=>
     obtain⟨k,ag,b2,hk,rfl,rfl,nR,bh,gn,mH,aK,ev⟩:=hrel;have nt:=qA nR;have aw:=qA bh;have au:=qA gn;have eu:=qA mH;have gE:=qA aK;have ik:=qA ev;have kI:=nR.1;have hP:=(bh.lt w1.heap.size rfl).2;have Jc:=gn.size;clear nR mH aK ev;by_cases ac:k<es.length
     ·obtain⟨be,offe,rfl,jC,c0,c1,c2,eW⟩:=(HE.out.below (BX.out.trans (gn.mono tO))).at ac;obtain⟨e1,e2,e3⟩:=jA.out es[k] (by simp);have bI:es[k]∈es:=by simp
      have HX:Hid (∃x,es[k]=x):=qA ⟨_,rfl⟩;generalize hx:es[k]=e at c0 c1 c2 eW e1 e2 e3 bI;have HX:=qA hx;clear hx;obtain⟨f,l,t⟩:=e;simp only at e1 e2 e3 c0 c1 c2
      obtain⟨a,rfl⟩: ∃a:Nat,f=(a:Int):=⟨f.toNat,tO⟩;obtain⟨c,rfl⟩: ∃c:Nat,t=(c:Int):=⟨t.toNat,tO⟩;have ha:a<b2.length:=tO;have hc:c<b2.length:=tO;have ca:=bh.cellAt a ha;have cc:=bh.cellAt c hc;have ga:b2[a]? =some b2[a]:=by simp[ha]
      have gc:b2[c]? =some b2[c]:=by simp[hc]
      have GA:=qA ga;have GC:=qA gc;have ja:(a:Int)<(N:Int):=tO;have jc:(c:Int)<(N:Int):=tO;have DY:(0:Int)≤(a:Int):=tO;have Cr:(0:Int)≤(c:Int):=tO;have lM:=bh.free a;have Cb:=bh.free c;have iJ:Hid (b2[a]? ≠b2[c]? →JI es N ((b2.set a true).set c true)∧((b2.set a true).set c true).count false<b2.count false):=qA fun h=>nt.out.step bI tO tO h;have FW:=qA bI;have bA:Below wr.heap.size wr (wr.alloc (.cells #[.int .i64 a,.int .i64 l,.int .i64 c] 154)):=(zab _ _).alloc (zaa _) _;have BA:=qA bA;generalize b2[a]=ba at*;generalize b2[c]=bc at*;clear ga gc eW bh gn bI bA ha hc kI;go_wp2_with fail;have l0:(wr.alloc (.cells #[.int .i64 a,.int .i64 l,.int .i64 c] 154)).cell? ⟨wr.heap.size,0,none⟩=some (.int .i64 a):=by simp[go_sem]
      have l2:(wr.alloc (.cells #[.int .i64 a,.int .i64 l,.int .i64 c] 154)).cell? ⟨wr.heap.size,2,none⟩=some (.int .i64 c):=by simp[go_sem]
      have la:=(BA.out.cell (p:=⟨w1.heap.size,a,none⟩) hP).trans ca;have lc:=(BA.out.cell (p:=⟨w1.heap.size,c,none⟩) hP).trans cc;have lfa:=(BA.out.frozen (p:=⟨w1.heap.size,a,none⟩) hP).trans lM;have lfc:=(BA.out.frozen (p:=⟨w1.heap.size,c,none⟩) hP).trans Cb;have kn:wr.heap.size<(wr.alloc (.cells #[.int .i64 a,.int .i64 l,.int .i64 c] 154)).heap.size:=by simp
      clear ca cc lM Cb c0 c1 c2;generalize wr.alloc (.cells #[.int .i64 a,.int .i64 l,.int .i64 c] 154)=W at BA l0 l2 la lc lfa lfc kn⊢;have mT:w1.heap.size<W.heap.size:=tO;have aY:wr.heap.size≠w1.heap.size:=tO;cases ba<;>cases bc
      ·have CLX:Hid (b2[a]? =b2[c]?):=qA (by rw[GA.out,GC.out]);go_quiet (fail)
       go_wp2;go_roundw
       case rel=>
        refine⟨k+1,ag,b2,tO,by go_num,rfl,nt.out,aw.out.below (qB BA.out _),au.out.trans ((qB BA.out _).mono tO),eu.out,gE.out,fun h j hj gJ=> ?_⟩;rcases zaP (zaR gJ) with h2 | rfl
        ·exact ik.out h j hj h2
        ·rw[HX.out];simpa using CLX.out
       case measure=>simp[intOf];omega
      ·have STP:=qA (iJ.out (by rw[GA.out,GC.out];simp));go_quiet (fail)
       have O3:=qA ((aw.out.below (qB BA.out nq)).set a true);have O4:=qA (O3.out.1.set c true);have l9:=O3.out.1.cellAt c (by rw[zas];have:=nt.out.1;omega);have f9:=O3.out.1.free c;generalize (b2.set a true)[c]'(by rw[zas];have:=nt.out.1;omega)=z9 at l9;go_wp2;go_roundw
       case rel=>
        refine⟨k+1,true,_,tO,by go_num,rfl,STP.out.1,O4.out.1,?_,?_,fun _=> ?_,fun h=>by cases h⟩
        ·have b5:=au.out.trans ((qB BA.out nq).mono tO);exact(b5.grown O3.out.2 (show w1.heap.size≤W.heap.size by omega) (fun j hj=>by cases hj;exact zaa _)).grown O4.out.2 (by rw[qCM];exact zan mT) (fun j hj=>by cases hj;exact zaa _)
        ·have:=STP.out.2;have:=eu.out;omega
        ·have:=STP.out.2;have:=eu.out;omega
       case measure=>simp[intOf];omega
      ·have STP:=qA (iJ.out (by rw[GA.out,GC.out];simp));go_quiet (fail)
       have O3:=qA ((aw.out.below (qB BA.out nq)).set a true);have O4:=qA (O3.out.1.set c true);have l9:=O3.out.1.cellAt c (by rw[zas];have:=nt.out.1;omega);have f9:=O3.out.1.free c;generalize (b2.set a true)[c]'(by rw[zas];have:=nt.out.1;omega)=z9 at l9;go_wp2;go_roundw
       case rel=>
        refine⟨k+1,true,_,tO,by go_num,rfl,STP.out.1,O4.out.1,?_,?_,fun _=> ?_,fun h=>by cases h⟩
        ·have b5:=au.out.trans ((qB BA.out nq).mono tO);exact(b5.grown O3.out.2 (show w1.heap.size≤W.heap.size by omega) (fun j hj=>by cases hj;exact zaa _)).grown O4.out.2 (by rw[qCM];exact zan mT) (fun j hj=>by cases hj;exact zaa _)
        ·have:=STP.out.2;have:=eu.out;omega
        ·have:=STP.out.2;have:=eu.out;omega
       case measure=>simp[intOf];omega
      ·have CLX:Hid (b2[a]? =b2[c]?):=qA (by rw[GA.out,GC.out]);go_quiet (fail)
       go_wp2;go_roundw
       case rel=>
        refine⟨k+1,ag,b2,tO,by go_num,rfl,nt.out,aw.out.below (qB BA.out _),au.out.trans ((qB BA.out _).mono tO),eu.out,gE.out,fun h j hj gJ=> ?_⟩;rcases zaP (zaR gJ) with h2 | rfl
        ·exact ik.out h j hj h2
        ·rw[HX.out];simpa using CLX.out
       case measure=>simp[intOf];omega
     ·obtain rfl:k=es.length:=tO
      have dQ:=qQS bh;rw[kI] at dQ;have mc:=qA dQ;clear dQ bh gn;go_wp2;go_roundw
      case rel=>exact⟨ag,b2,rfl,nt.out,aw.out,au.out,fun h e he=>by obtain⟨j,hj,rfl⟩:=List.getElem_of_mem he;exact ik.out h j hj hj⟩
      case measure=>
       rw[HM.out,mc.out];cases ag with
       | false=>
         have:=eu.out
         show 2*_+0<2*_+1
         omega
       | true=>
         have:=gE.out rfl
         show 2*_+1<2*_+1
         omega
theorem qCN (x:Int): ∀n:Nat,(delO n x).length=if 0≤x∧x<n then n-1 else n
 | 0=>by
   rw[if_neg tO];rfl
 | n+1=>by
   rw[qBx];have ih:=qCN x n;by_cases h:(n:Int)≠x
   ·rw[if_pos h,zah,ih];by_cases h2:0≤x∧x<n
    ·rw[if_pos h2,if_pos tO];simp
     omega
    ·rw[if_neg h2,if_neg tO];rfl
   ·rw[if_neg h,ih,if_neg tO,if_pos tO];omega
def qBy:Nat→GrD→List Int→GrD×List Int
 | 0,g,l=>(g,l)
 | f+1,g,l=>if qAG g.2.2 g.2.1.toNat<0 then(g,l) else qBy f (rnG g (delO g.2.1.toNat (qAG g.2.2 g.2.1.toNat))) (l.take (qAG g.2.2 g.2.1.toNat).toNat++l.drop ((qAG g.2.2 g.2.1.toNat).toNat+1))
theorem qFO {g:GrD} (l:List Int) (h:qAG g.2.2 g.2.1.toNat<0): ∀f,qBy f g l=(g,l)
 | 0=>rfl
 | f+1=>by unfold qBy;rw[if_pos h]
theorem qFy (g:GrD) (o:List Int):(rnG g o).2.1=(o.length:Int):=rfl
theorem qHN {g:GrD} (l:List Int) {u:Nat} (hu:qAG g.2.2 g.2.1.toNat=(u:Int)) (hn:u<g.2.1.toNat):
  qBy g.2.1.toNat g l=qBy (rnG g (delO g.2.1.toNat u)).2.1.toNat (rnG g (delO g.2.1.toNat u)) (l.take u++l.drop (u+1)):=by
 rw[qFy,qCN,if_pos tO];obtain⟨f,hf⟩: ∃f,g.2.1.toNat=f+1:=⟨g.2.1.toNat-1,tO⟩;have e:((g.2.1.toNat-1:Nat):Int).toNat=f:=tO;rw[e];have e2:qBy (f+1) g l=if qAG g.2.2 g.2.1.toNat<0 then(g,l) else qBy f (rnG g (delO g.2.1.toNat (qAG g.2.2 g.2.1.toNat))) (l.take (qAG g.2.2 g.2.1.toNat).toNat++l.drop ((qAG g.2.2 g.2.1.toNat).toNat+1)):=rfl
 rw[show qBy g.2.1.toNat g l=qBy (f+1) g l by rw[hf],e2,hu,if_neg tO];simp
theorem qOW: ∀(f:Nat) (g:GrD) (l:List Int),grB g=true→(qBy f g l).1.2.1≤g.2.1:=by
 intro f;induction f with
 | zero=>intro g l _;exact Int.le_refl _
 | succ f ih=>
   intro g l hg;unfold qBy;obtain⟨_,ak,_,_⟩:=qR hg;rcases qCm g.2.2 g.2.1.toNat with h | ⟨h1,h2⟩
   ·rw[if_pos tO];exact Int.le_refl _
   ·rw[if_neg tO];have hd:=qCN (qAG g.2.2 g.2.1.toNat) g.2.1.toNat;rw[if_pos tO] at hd;have ar:=qGx (n:=g.2.1.toNat) tO h1;rw[show((g.2.1.toNat:Nat):Int)=g.2.1 by omega] at ar;have:=ih (rnG g (delO g.2.1.toNat (qAG g.2.2 g.2.1.toNat))) (l.take (qAG g.2.2 g.2.1.toNat).toNat++l.drop ((qAG g.2.2 g.2.1.toNat).toNat+1)) (qHh hg ar)
    rw[qFy,hd] at this;omega
def qCL (g:GrD):GrD×List Int:=qBy g.2.1.toNat g ((zaq g.2.1.toNat).map fun v=>((v:Nat):Int))
theorem qLo {g:GrD} (hg:grB g=true):decide ((qCL g).1.2.1=g.2.1)=decide (qAG g.2.2 g.2.1.toNat<0):=by
 obtain⟨_,ak,_,_⟩:=qR hg;unfold qCL;rcases qCm g.2.2 g.2.1.toNat with h | ⟨h1,h2⟩
 ·rw[qFO _ tO];simp[h]
 ·obtain⟨u,hu⟩: ∃u:Nat,qAG g.2.2 g.2.1.toNat=(u:Int):=⟨(qAG g.2.2 g.2.1.toNat).toNat,tO⟩;rw[qHN _ hu tO];have ar:=qGx (n:=g.2.1.toNat) (x:=(u:Int)) tO tO;rw[show((g.2.1.toNat:Nat):Int)=g.2.1 by omega] at ar;have hd:=qCN (u:Int) g.2.1.toNat;rw[if_pos tO] at hd;have:=qOW (rnG g (delO g.2.1.toNat u)).2.1.toNat (rnG g (delO g.2.1.toNat u)) (((zaq g.2.1.toNat).map fun v=>((v:Nat):Int)).take u++((zaq g.2.1.toNat).map fun v=>((v:Nat):Int)).drop (u+1)) (qHh hg ar)
  rw[qFy g,hd] at this;have e1:decide (qAG g.2.2 g.2.1.toNat<0)=false:=by rw[hu];simp
  rw[e1];rw[decide_eq_false_iff_not];rw[qFy,hd];omega
def slN:Value→Nat
 | .slice _ n _=>n
 | _=>0
def rng (n:Nat):List Int:=(zaq n).map fun v=>((v:Nat):Int)
theorem qNy (n:Nat):rng (n+1)=rng n++ [(n:Int)]:=by simp[rng,List.range_succ]
theorem qPo (n:Nat):(rng n).length=n:=by simp[rng]
theorem qMS {g:GrD} (k:Nat) (h:k<g.2.1.toNat):(qGA g)[k]'(by simpa[qGA] using h)=hasB (qBj g.2.2 0) k:=by simp[qGA]
theorem qIf (g:GrD):(qGA g).length=g.2.1.toNat:=by simp[qGA]
theorem qEl (v:Value) (g:GrD) (w:World) (h:ArgG w v g) (hg:grB g=true):
  Calls Tryz.prog 128 #[v] w fun e w'=> ∃r l,e= .returned (.tuple #[r,l])∧OwG w' w.heap.size r (qCL g).1∧OwI w' w.heap.size l (qCL g).2∧Below w.heap.size w w':=by
 have HG:=qA h;have aD:=qA hg;obtain⟨cR,aJ,aO,_⟩:=qR hg;have HT:Hid (qCL g=qBy g.2.1.toNat g (rng g.2.1.toNat)):=qA rfl;generalize qCL g=R at*;clear hg h;obtain⟨r,n,es⟩:=g;simp only at cR aJ aO HG HT
 obtain⟨N,rfl⟩: ∃N:Nat,n=(N:Int):=⟨n.toNat,tO⟩;simp only[zak] at HT;have mU:1≤N:=tO;have ly:N≤40:=tO;clear aJ;obtain⟨A,cap,rfl⟩: ∃A cap,v= .agg #[.int .i64 r, .int .i64 N, .slice A es.length cap]:=by
  obtain⟨s,hv,_,_,ha⟩:=HG.out;obtain⟨A,cap,rfl⟩:=ha.form;exact⟨A,cap,hv⟩
 have bx:Below w.heap.size w ((w.alloc (.cells #[.int .i64 r,.int .i64 N, .slice A es.length cap] 82)).alloc (.cells #[.int .i64 0,.int .i64 0, .slice none 0 0] 82)):=(by repeat(first | exact .refl _ _ | (refine BxS ?_ _) | (refine qB ?_ _) | (refine zad ?_) | (refine BxA ?_ _)));go_enter Tryz.func128,Tryz.ntmps128
 go_wp2_with fail;obtain⟨W0,aF⟩: ∃W,W=(w.alloc (.cells #[.int .i64 r,.int .i64 N, .slice A es.length cap] 82)).alloc (.cells #[.int .i64 0,.int .i64 0, .slice none 0 0] 82):=⟨_,rfl⟩;rw[←aF] at bx⊢;have cI:W0.heap.size=w.heap.size+1+1:=by rw[aF];simp
 have B0:Hid (W0.cell? ⟨w.heap.size,0,none⟩=some (.int .i64 r)):=qA (by rw[aF];simp[go_sem]);have B1:Hid (W0.cell? ⟨w.heap.size,1,none⟩=some (.int .i64 N)):=qA (by rw[aF];simp[go_sem]);have B2:Hid (W0.cell? ⟨w.heap.size,2,none⟩=some (.slice A es.length cap)):=qA (by rw[aF];simp[go_sem]);have R0:Hid (W0.cell? ⟨w.heap.size+1,0,none⟩=some (.int .i64 0)):=qA (by rw[aF];simp[go_sem]);have R1:Hid (W0.cell? ⟨w.heap.size+1,1,none⟩=some (.int .i64 0)):=qA (by rw[aF];simp[go_sem]);have R2:Hid (W0.cell? ⟨w.heap.size+1,2,none⟩=some (.slice none 0 0)):=qA (by rw[aF];simp[go_sem]);have RF:Hid (∀j,W0.frozen? ⟨w.heap.size+1,j,none⟩=false):=qA fun j=>by rw[aF];simp[go_sem]
 clear aF;have BX:=qA bx;have xC:=qA cI;have jr:w.heap.size<W0.heap.size:=tO;have dv:w.heap.size+1<W0.heap.size:=tO;refine(qBF _ (r,(N:Int),es) W0 (HG.out.below bx) (by simp only;omega)).mono ?_
 clear bx cI;rintro e w1 ⟨r1,rfl,o1,b1⟩;obtain⟨s1,rfl,bg,bH,oe⟩:=o1;simp only at bg bH oe⊢
 obtain⟨A1,ah,rfl,aX,cJ,_⟩:=OwE.form oe;have OE:=qA oe;have eY: ∀b,(zaw A1 es.length ah).ownBlock=some b→b<w1.heap.size:=fun b hb=>(oe.1.lt b hb).2;have q0:=(b1.cell (p:=⟨w.heap.size,0,none⟩) jr).trans B0.out;have q1:=(b1.cell (p:=⟨w.heap.size,1,none⟩) jr).trans B1.out;have q2:=(b1.cell (p:=⟨w.heap.size,2,none⟩) jr).trans B2.out;have Hu:=qA ((b1.cell (p:=⟨w.heap.size+1,0,none⟩) dv).trans R0.out);have EL:=qA ((b1.cell (p:=⟨w.heap.size+1,1,none⟩) dv).trans R1.out);have Gs:=qA ((b1.cell (p:=⟨w.heap.size+1,2,none⟩) dv).trans R2.out);have RQF:Hid (∀j,w1.frozen? ⟨w.heap.size+1,j,none⟩=false):=qA fun j=>(b1.frozen (p:=⟨w.heap.size+1,j,none⟩) dv).trans (RF.out j);have eh:Hid (Below w.heap.size w w1):=qA (BX.out.trans (b1.mono tO));have s1:=b1.size;have pO:=qA eY;clear oe eY b1 B0 B1 B2 R0 R1 R2 RF;have aL:w.heap.size<w1.heap.size:=tO;have i8:w.heap.size+1<w1.heap.size:=tO;go_wp2_with fail;have bA:Below w1.heap.size w1 ((w1.alloc (.cells #[.int .i64 r,.int .i64 N, .slice A1 es.length ah] 82)).alloc (.cells #[] 3)):=(by repeat(first | exact .refl _ _ | (refine BxS ?_ _) | (refine qB ?_ _) | (refine zad ?_) | (refine BxA ?_ _)));obtain⟨W2,aV⟩: ∃W,W=(w1.alloc (.cells #[.int .i64 r,.int .i64 N, .slice A1 es.length ah] 82)).alloc (.cells #[] 3):=⟨_,rfl⟩;have o0:OwI W2 (w1.heap.size+1) (.slice (some ⟨w1.heap.size+1,0,none⟩) 0 0) (rng 0):=by
  rw[aV];exact qCF _ [] (w1.heap.size+1) (by simp) (fun _ h=>by cases h) (by simp) (zaa _)
 have G0:Hid (W2.cell? ⟨w1.heap.size,0,none⟩=some (.int .i64 r)):=qA (by rw[aV];simp[go_sem]);have G1:Hid (W2.cell? ⟨w1.heap.size,1,none⟩=some (.int .i64 N)):=qA (by rw[aV];simp[go_sem]);have G2:Hid (W2.cell? ⟨w1.heap.size,2,none⟩=some (.slice A1 es.length ah)):=qA (by rw[aV];simp[go_sem]);have GF:Hid (∀j,W2.frozen? ⟨w1.heap.size,j,none⟩=false):=qA fun j=>by rw[aV];simp[go_sem]
 have bK:W2.heap.size=w1.heap.size+1+1:=by rw[aV];simp
 rw[←aV] at bA⊢;clear aV;have xT:=qAo _ (r,(N:Int),es) W2 ((HG.out.below eh.out).below bA);rw[aD.out] at xT;have gB:=qA xT;clear xT;refine gB.out.mono ?_;rintro e w3 ⟨rfl,b3⟩;have s3:=b3.size;have lV:w1.heap.size<W2.heap.size:=tO;have wY:=bA.trans (b3.mono tO);have Ea:=qA wY;have B3:=qA b3;have mi:=qA (OE.out.below wY);have Do:=qA (o0.below b3);have QN:=qA ((wY.cell (p:=⟨w.heap.size,1,none⟩) aL).trans q1);have DK:=qA ((b3.cell (p:=⟨w1.heap.size,0,none⟩) lV).trans G0.out);have Dt:=qA ((b3.cell (p:=⟨w1.heap.size,1,none⟩) lV).trans G1.out);have Cd:=qA ((b3.cell (p:=⟨w1.heap.size,2,none⟩) lV).trans G2.out);have CS:Hid (∀j,w3.frozen? ⟨w1.heap.size,j,none⟩=false):=qA fun j=>(b3.frozen (p:=⟨w1.heap.size,j,none⟩) lV).trans (GF.out j);clear bA b3 wY o0 q0 q1 q2 G0 G1 G2 GF gB;go_wp2;go_loopw [5,6] (fun l i wr=> ∃k:Nat,k≤N∧i= .int .i64 k∧OwI wr (w1.heap.size+1) l (rng k)∧Below (w1.heap.size+1) w3 wr) (fun _ i _=>N-(intOf i).toNat)
 case atStart=>exact⟨0,zal _,rfl,Do.out,zab _ _⟩
 case round=>
  obtain⟨k,hk,rfl,ab,aa⟩:=hrel;have HO:=qA ab;have HB:=qA aa;have hs:=aa.size;have qn:=(aa.cell (p:=⟨w.heap.size,1,none⟩) (by show w.heap.size<w1.heap.size+1;omega)).trans QN.out;have iT:=qPo k;obtain⟨Al,capl,rfl,_⟩:=OwI.form ab;clear ab aa;by_cases ac:k<N
  ·have HK:Hid (I64 (k:Int)):=qA ⟨tO,tO⟩;have jE:=qA (qNy k);go_wp2_with (at_builtin;refine qN rfl (.tmp 26) (.tmp 28) rfl _ _ _ (OwI.alloc HO.out _) rfl _ _ rfl (qG _ _ _) HK.out (by first | omega | (simp<;>omega)) (by first | omega | (simp<;>omega)) ?_;intro v9 wv9 o9 g9 p9)
   go_roundw
   case rel=>exact⟨k+1,tO,by go_num,by rw[jE.out];exact o9,qQ HB.out tO HO.out.1 (zaa _) g9⟩
   case measure=>simp[intOf];omega
  ·obtain rfl:k=N:=tO
   have GE:Hid (OwE wr W0.heap.size (.slice A1 es.length ah) es):=qA (mi.out.keep fun b hb=>HB.out.block b (by have:=pO.out b hb;omega));have Bv:=qA ((HB.out.cell (p:=⟨w1.heap.size,0,none⟩) (by show w1.heap.size<w1.heap.size+1;omega)).trans DK.out);have CE:=qA ((HB.out.cell (p:=⟨w1.heap.size,1,none⟩) (by show w1.heap.size<w1.heap.size+1;omega)).trans Dt.out);have Bg:=qA ((HB.out.cell (p:=⟨w1.heap.size,2,none⟩) (by show w1.heap.size<w1.heap.size+1;omega)).trans Cd.out);have GCF:Hid (∀j,wr.frozen? ⟨w1.heap.size,j,none⟩=false):=qA fun j=>(HB.out.frozen (p:=⟨w1.heap.size,j,none⟩) (by show w1.heap.size<w1.heap.size+1;omega)).trans (CS.out j);have BB:Hid (Below w1.heap.size w1 wr):=qA (Ea.out.trans (HB.out.mono tO));have Bc:w1.heap.size<wr.heap.size:=tO;clear DK Dt Cd CS Do mi Ea B3 QN;go_wp2;go_loopw [5] (fun l wr=> ∃(gg:GrD) (xs:List Int) (A':Option Addr) (cap':Nat),grB gg=true∧R=qBy gg.2.1.toNat gg xs∧xs.length=gg.2.1.toNat∧OwI wr (w1.heap.size+1) l xs∧wr.cell? ⟨w1.heap.size,0,none⟩=some (.int .i64 gg.1)∧wr.cell? ⟨w1.heap.size,1,none⟩=some (.int .i64 gg.2.1)∧wr.cell? ⟨w1.heap.size,2,none⟩=some (.slice A' gg.2.2.length cap')∧(∀j,wr.frozen? ⟨w1.heap.size,j,none⟩=false)∧OwE wr W0.heap.size (.slice A' gg.2.2.length cap') gg.2.2∧(∀b,(zaw A' gg.2.2.length cap').ownBlock=some b→l.ownBlock≠some b)∧Below w1.heap.size w1 wr∧w1.heap.size<wr.heap.size) (fun l _=>slN l)
   case atStart=>exact⟨(r,(k:Int),es),rng k,A1,ah,aD.out,HT.out,iT,HO.out,Bv.out,CE.out,Bg.out,GCF.out,GE.out,fun b hb he=>by have h1:=pO.out b hb;have h2:=HO.out.1.lt b he;omega,BB.out,Bc⟩
   case round=>
    clear HT HO Bv CE Bg GCF GE BB pO;obtain⟨gg,xs,A',cap',yQ,hR,cX,ab,gI,aC,dG,Cj,gU,ai,aa,rI⟩:=hrel;obtain⟨wq,rfl⟩: ∃wq:World,wq=wr:=⟨_,rfl⟩;obtain⟨lJ,dM,mH,_⟩:=qR yQ;obtain⟨r2,n2,cD⟩:=gg;simp only at hR cX gI aC dG gU ai dM mH lJ
    obtain⟨M,rfl⟩: ∃M:Nat,n2=(M:Int):=⟨n2.toNat,tO⟩;simp only[zak] at cX hR;have Dv:1≤M:=tO;have Kh:M≤40:=tO;clear dM;have xP:=qA yQ;have HR:=qA hR;have HO:=qA ab;have lA:=qA gU;have bk:=qA ai;have jR:=qA Cj;have uy:=qA aa;have hs:=aa.size;obtain⟨Al,capl,rfl,jB,gW,_,hf⟩:=OwI.form ab;obtain⟨gl,rfl,zU,uz⟩:=hf tO;have Dx:cD.length≤cap':=by obtain⟨_,_,e,h1,_⟩:=OwE.form gU;injection e with _ _ e3;subst e3;exact h1
    have HA:Hid (∀w',Below wq.heap.size wq w'→ArgG w' (.agg #[.int .i64 r2, .int .i64 M, .slice A' cD.length cap']) (r2,(M:Int),cD)):=qA fun w' hb=>⟨_,rfl,by show I64 r2;unfold I64;omega,by show I64 (M:Int);unfold I64;omega,(lA.out.below hb).arg⟩;clear yQ hR ab gU ai Cj aa hf;go_wp2_with fail;refine(qLg _ (r2,(M:Int),cD) wq (HA.out _ (zab _ _)) xP.out).mono ?_
    rintro e wj ⟨rj,rfl,oj,bj⟩;obtain⟨Aj,capj,rfl,pd,_,_,wP⟩:=qr oj;rw[qIf] at wP pd⊢;simp only[zak] at wP pd⊢;obtain⟨gj,rfl,FR,xQ⟩:=wP tO;have sj:=bj.size;have GD:Hid (∀k:Nat,k<M→wj.cell? ⟨gj,k,none⟩=some (.bool (hasB (qBj cD 0) k))):=qA fun k hk=>by
     have h1:=OwB.cellAt oj k (by rw[qIf];simpa using hk);rw[qMS k (by simpa using hk)] at h1;exact h1
    have rm:=qA bj;have d0:=qA ((bj.cell (p:=⟨w1.heap.size,0,none⟩) rI).trans gI);have d1:=qA ((bj.cell (p:=⟨w1.heap.size,1,none⟩) rI).trans aC);have d2:=qA ((bj.cell (p:=⟨w1.heap.size,2,none⟩) rI).trans dG);have dF:Hid (∀j,wj.frozen? ⟨w1.heap.size,j,none⟩=false):=qA fun j=>(bj.frozen (p:=⟨w1.heap.size,j,none⟩) rI).trans (jR.out j);have jL:w1.heap.size<wj.heap.size:=tO;clear oj bj wP gI aC dG jR;obtain⟨U,hU⟩: ∃U,U=qAG cD M:=⟨_,rfl⟩;have HU:=qA hU;have rN:Hid (∀k:Nat,qMH cD k=(decide (degL cD k<2)|| !hasB (qBj cD 0) k)):=qA fun k=>rfl;clear hU;go_wp2;go_loopw [8,9] (fun a i wg=> ∃k:Nat,i= .int .i64 k∧1≤k∧k≤M∧((a= .int .i64 0∧qAU cD M (M-k) k=U)∨(∃u:Nat,a= .int .i64 u∧U=(u:Int)∧1≤u∧u<M∧k=u+1))∧Below wj.heap.size wj wg) (fun _ i _=>M+1-(intOf i).toNat)
    case atStart=>exact⟨1,rfl,zaa _,Dv, .inl ⟨rfl,by rw[HU.out];rfl⟩,zab _ _⟩
    case round=>
     obtain⟨k,rfl,mP,hk,tg,pY⟩:=hrel;have kS:=qA pY;have AV:=pY.size;have e0:=(pY.cell (p:=⟨w1.heap.size,0,none⟩) jL).trans d0.out;have e1:=(pY.cell (p:=⟨w1.heap.size,1,none⟩) jL).trans d1.out;have e2:=(pY.cell (p:=⟨w1.heap.size,2,none⟩) jL).trans d2.out;clear pY;rcases tg with ⟨rfl,nC⟩ | ⟨u,rfl,hUu,pw,huM,rfl⟩
     ·have wG:=qA nC;clear nC;by_cases ac:k<M
      ·have rS:=(kS.out.cell (p:=⟨gj,k,none⟩) xQ).trans (GD.out k ac);have LB:=qA (rN.out k);have vK:(k:Int)<(M:Int):=tO;have Ah:degL cD k≤240:=by have:=qIE cD k cD.length;rw[zam] at this;omega
       go_wp2_with fail;refine(qFh _ (r2,(M:Int),cD) k _ (HA.out _ (rm.out.trans (kS.out.mono sj))) (by simp only;omega)).mono ?_
       rintro e w7 ⟨rfl,b7⟩;have B7:=qA b7;have s7:=b7.size;have D0:=(b7.cell (p:=⟨gj,k,none⟩) (by show gj<wr.heap.size;omega)).trans rS;clear b7 rS;simp only
       generalize degL cD k=d at*;by_cases hd:d<2
       ·have xA:(d:Int)<2:=tO;have F:=qA (qCE ac (by rw[LB.out];simp[hd]));go_wp2;go_roundw
        case rel=>exact⟨k+1,by go_num,tO,tO, .inr ⟨k,rfl,by rw[←wG.out,F.out],mP,ac,rfl⟩,kS.out.trans (B7.out.mono AV)⟩
        case measure=>simp[intOf];omega
       ·have xA: ¬(d:Int)<2:=tO;rcases h1:hasB (qBj cD 0) k with _ | _
        ·have F:=qA (qCE ac (by rw[LB.out,h1];simp));rw[h1] at D0;go_wp2;go_roundw
         case rel=>exact⟨k+1,by go_num,tO,tO, .inr ⟨k,rfl,by rw[←wG.out,F.out],mP,ac,rfl⟩,kS.out.trans (B7.out.mono AV)⟩
         case measure=>simp[intOf];omega
        ·have F:=qA (qEj ac (by rw[LB.out,h1];simp[hd]));rw[h1] at D0;go_wp2;go_roundw
         case rel=>exact⟨k+1,by go_num,tO,tO, .inl ⟨rfl,by rw[←F.out,wG.out]⟩,kS.out.trans (B7.out.mono AV)⟩
         case measure=>simp[intOf];omega
      ·obtain rfl:k=M:=tO
       have Fq:U= -1:=by rw[←wG.out,qFS]
       have HE:Hid (R=((r2,(k:Int),cD),xs)):=qA (by rw[HR.out];exact qFO _ (show qAG cD ((k:Int)).toNat<0 by rw[zak,←HU.out,Fq];decide) _);have bb:Hid (Below w1.heap.size w1 wr):=qA (uy.out.trans ((rm.out.trans (kS.out.mono sj)).mono tO));have Gw:=(bb.out.cell (p:=⟨w.heap.size+1,0,none⟩) i8).trans Hu.out;have E8:=(bb.out.cell (p:=⟨w.heap.size+1,1,none⟩) i8).trans EL.out;have Er:=(bb.out.cell (p:=⟨w.heap.size+1,2,none⟩) i8).trans Gs.out;have dR:=(bb.out.frozen (p:=⟨w.heap.size+1,0,none⟩) i8).trans (RQF.out 0);have dP:=(bb.out.frozen (p:=⟨w.heap.size+1,1,none⟩) i8).trans (RQF.out 1);have dI:=(bb.out.frozen (p:=⟨w.heap.size+1,2,none⟩) i8).trans (RQF.out 2);have ow:=lA.out.below (rm.out.trans (kS.out.mono sj));have ol:=HO.out.below (rm.out.trans (kS.out.mono sj));have OW:Hid (OwE (((wr.setCell ⟨w.heap.size+1,0,none⟩ (.int .i64 r2)).setCell ⟨w.heap.size+1,1,none⟩ (.int .i64 k)).setCell ⟨w.heap.size+1,2,none⟩ (.slice A' cD.length cap')) W0.heap.size (.slice A' cD.length cap') cD):=qA
        (((ow.far (p:=⟨w.heap.size+1,0,none⟩) (by show w.heap.size+1<_;omega) _).far (p:=⟨w.heap.size+1,1,none⟩) (by show w.heap.size+1<_;omega) _).far (p:=⟨w.heap.size+1,2,none⟩) (by show w.heap.size+1<_;omega) _)
       have OL:Hid (OwI (((wr.setCell ⟨w.heap.size+1,0,none⟩ (.int .i64 r2)).setCell ⟨w.heap.size+1,1,none⟩ (.int .i64 k)).setCell ⟨w.heap.size+1,2,none⟩ (.slice A' cD.length cap')) (w1.heap.size+1) (.slice (some ⟨gl,0,none⟩) xs.length capl) xs):=qA
        (((ol.far (p:=⟨w.heap.size+1,0,none⟩) (by show w.heap.size+1<_;omega) _).far (p:=⟨w.heap.size+1,1,none⟩) (by show w.heap.size+1<_;omega) _).far (p:=⟨w.heap.size+1,2,none⟩) (by show w.heap.size+1<_;omega) _)
       have BBW:=qA (eh.out.trans (bb.out.mono (show w.heap.size≤w1.heap.size by omega)));clear ow ol;go_wp2;obtain⟨c0,c1,c2⟩:=qDX wr (w.heap.size+1) (.int .i64 r2) (.int .i64 k) (.slice A' cD.length cap') Gw E8 Er;have bw:Below w.heap.size w (((wr.setCell ⟨w.heap.size+1,0,none⟩ (.int .i64 r2)).setCell ⟨w.heap.size+1,1,none⟩ (.int .i64 k)).setCell ⟨w.heap.size+1,2,none⟩ (.slice A' cD.length cap')):=(by repeat(first | exact .refl _ _ | (refine BxS ?_ _) | (refine qB ?_ _) | (refine zad ?_) | (refine BxA ?_ _) | (refine BxT ?_ (Hid.out BBW))));generalize ((wr.setCell ⟨w.heap.size+1,0,none⟩ (.int .i64 r2)).setCell ⟨w.heap.size+1,1,none⟩ (.int .i64 k)).setCell ⟨w.heap.size+1,2,none⟩ (.slice A' cD.length cap')=wf at*;refine bodyPost_ret (v:= .tuple #[.agg #[.int .i64 r2, .int .i64 k, .slice A' cD.length cap'], .slice (some ⟨gl,0,none⟩) xs.length capl]) (by simp[results,Tryz.results128,go_sem,c0,c1,c2,cX]) rfl ⟨_,_,rfl,?_,?_,bw⟩
       ·rw[HE.out];refine⟨.slice A' cD.length cap',rfl,?_,?_,OW.out.mono tO⟩
        ·show I64 r2
         unfold I64;omega
        ·show I64 (k:Int)
         unfold I64;omega
       ·rw[HE.out];exact OL.out.mono tO
     ·obtain⟨wg,rfl⟩: ∃wg:World,wg=wr:=⟨_,rfl⟩;have IX:Hid (qAG cD M=(u:Int)):=qA (by rw[←HU.out,hUu]);have ar:qAd (M:Int) (delO M u):=qGx Dv tO;have bG:=qA ar;have my:(delO M u).length=M-1:=by rw[qCN,if_pos tO]
      have eH:Hid (rnG (r2,(M:Int),cD) (delO M u)=(r2,((M-1:Nat):Int),srt cmpE (rnL cD (delO M u)))):=qA (by rw[←my];rfl);have jP:Hid (R=qBy (M-1) (r2,((M-1:Nat):Int),srt cmpE (rnL cD (delO M u))) (xs.take u++xs.drop (u+1))):=qA (by
       have h1:=qHN (g:=(r2,(M:Int),cD)) (u:=u) xs (by simpa using IX.out) (by simpa using huM);simp only[zak] at h1;rw[eH.out] at h1;simp only[zak] at h1;rw[HR.out,h1])
      have jw:Hid (grB (r2,((M-1:Nat):Int),srt cmpE (rnL cD (delO M u)))=true):=qA (by rw[←eH.out];exact qHh xP.out ar);have l8:(wg.alloc (.cells #[] 3)).heap.size=wg.heap.size+1:=by simp
      have o5:OwI (wg.alloc (.cells #[] 3)) wg.heap.size (.slice (some ⟨wg.heap.size,0,none⟩) 0 0) (delO 0 u):=qW wg [] (fun _ h=>by cases h) (by simp) (zaa _);have O5:=qA o5;have B5:Hid (Below wg.heap.size wg (wg.alloc (.cells #[] 3))):=qA (by repeat(first | exact .refl _ _ | (refine BxS ?_ _) | (refine qB ?_ _) | (refine zad ?_) | (refine BxA ?_ _)));have E9:=qA l8;have E0:=qA e0;have E1:=qA e1;have E2:=qA e2;have EF:Hid (∀j,wg.frozen? ⟨w1.heap.size,j,none⟩=false):=qA fun j=>(kS.out.frozen (p:=⟨w1.heap.size,j,none⟩) jL).trans (dF.out j);have tA:w1.heap.size<wg.heap.size:=tO;have g0:((u:Int)==0)=false:=by rw[beq_eq_false_iff_ne];omega
      clear ar o5 l8 hUu my;obtain⟨kk,mw⟩: ∃kk:Int,((u+1:Nat):Int)=kk:=⟨_,rfl⟩;rw[mw];have Ii:kk<(M:Int)∨ ¬kk<(M:Int):=tO;clear hk mP mw;rcases Ii with hq | hq
      all_goals
       go_wp2;generalize wg.alloc (.cells #[] 3)=W5 at O5 B5 E9⊢;go_loopw [10,11] (fun o i wo=> ∃k:Nat,k≤M∧i= .int .i64 k∧OwI wo wg.heap.size o (delO k u)∧Below wg.heap.size wg wo) (fun _ i _=>M-(intOf i).toNat)
       case atStart=>exact⟨0,zal _,rfl,O5.out,B5.out⟩
       case round=>
        obtain⟨k,hk,rfl,ab,jG⟩:=hrel;have vx:=qA ab;have sh:=qA jG;have DJ:=jG.size;have dU:=(jG.cell (p:=⟨w1.heap.size,1,none⟩) tA).trans E1.out;have nh:=(jG.cell (p:=⟨w1.heap.size,0,none⟩) tA).trans E0.out;have rD:=(jG.cell (p:=⟨w1.heap.size,2,none⟩) tA).trans E2.out;obtain⟨Ao,capo,rfl,_⟩:=OwI.form ab;clear ab jG;by_cases ac:k<M
        ·by_cases eB:k=u
         ·subst eB;have F:Hid (delO (k+1) (k:Int)=delO k (k:Int)):=qA (by rw[qBx];simp);go_wp2;go_roundw
          case rel=>exact⟨k+1,tO,by go_num,by rw[F.out];exact vx.out,sh.out⟩
          case measure=>simp[intOf];omega
         ·have aY: ¬(k:Int)=(u:Int):=tO;have F:Hid (delO (k+1) (u:Int)=delO k (u:Int)++ [(k:Int)]):=qA (by rw[qBx,if_pos aY]);have HK:Hid (I64 (k:Int)):=qA ⟨tO,tO⟩;have Jx:(delO k (u:Int)).length≤40:=by rw[qCN];split<;>omega
          go_wp2_with (at_builtin;refine qN rfl (.tmp 68) (.tmp 70) rfl _ _ _ (OwI.alloc vx.out _) rfl _ _ rfl (qG _ _ _) HK.out (by first | omega | (simp<;>omega)) (by first | omega | (simp<;>omega)) ?_;intro v9 wv9 o9 g9 p9)
          go_roundw
          case rel=>exact⟨k+1,tO,by go_num,by rw[F.out];exact o9,qQ sh.out tO vx.out.1 (zaa _) g9⟩
          case measure=>simp[intOf];omega
        ·obtain rfl:k=M:=tO
         go_wp2_with fail;refine(qKo _ _ (r2,(k:Int),cD) (delO k u) _ (HA.out _ ((rm.out.trans (kS.out.mono sj)).trans (sh.out.mono tO))) vx.out.rd xP.out bG.out).mono ?_
         rintro e w6 ⟨r6,rfl,o6,b6⟩;rw[eH.out] at o6;obtain⟨s6,rfl,_,_,si⟩:=o6;simp only at si⊢
         generalize srt cmpE (rnL cD (delO k (u:Int)))=es6 at*;generalize hm:k-1=m at*;have HM:=qA hm;clear hm;have B6:=qA b6;have JF:=b6.size;have Ir:=qA si;obtain⟨A6,cT,rfl,Ef,J4,_⟩:=OwE.form si;have C8: ∀b,(zaw A6 es6.length cT).ownBlock=some b→wr.heap.size≤b∧b<w6.heap.size:=fun b hb=>si.1.lt b hb;have zD:=qA C8;have f0:=(b6.cell (p:=⟨w1.heap.size,0,none⟩) (by show w1.heap.size<wr.heap.size;omega)).trans nh;have f1:=(b6.cell (p:=⟨w1.heap.size,1,none⟩) (by show w1.heap.size<wr.heap.size;omega)).trans dU;have f2:=(b6.cell (p:=⟨w1.heap.size,2,none⟩) (by show w1.heap.size<wr.heap.size;omega)).trans rD;have FF:Hid (∀j,w6.frozen? ⟨w1.heap.size,j,none⟩=false):=qA fun j=>(b6.frozen (p:=⟨w1.heap.size,j,none⟩) (by show w1.heap.size<wr.heap.size;omega)).trans ((sh.out.frozen (p:=⟨w1.heap.size,j,none⟩) tA).trans (EF.out j));have Hk:=FF.out 0;have Gm:=FF.out 1;have Iu:=FF.out 2;clear si b6 C8 nh dU rD;go_wp2;obtain⟨c0,c1,c2⟩:=qDX w6 w1.heap.size (.int .i64 r2) (.int .i64 m) (.slice A6 es6.length cT) f0 f1 f2;have Dr:Hid (Below wq.heap.size wq w6):=qA ((rm.out.trans (kS.out.mono sj)).trans (((sh.out.trans (B6.out.mono tO))).mono tO));have wJ:OwI (((w6.setCell ⟨w1.heap.size,0,none⟩ (.int .i64 r2)).setCell ⟨w1.heap.size,1,none⟩ (.int .i64 m)).setCell ⟨w1.heap.size,2,none⟩ (.slice A6 es6.length cT)) (w1.heap.size+1) (.slice (some ⟨gl,0,none⟩) xs.length capl) xs:=
          ((((HO.out.below Dr.out).far (p:=⟨w1.heap.size,0,none⟩) (by show w1.heap.size<_;omega) _).far (p:=⟨w1.heap.size,1,none⟩) (by show w1.heap.size<_;omega) _).far (p:=⟨w1.heap.size,2,none⟩) (by show w1.heap.size<_;omega) _)
         have Bn:OwE (((w6.setCell ⟨w1.heap.size,0,none⟩ (.int .i64 r2)).setCell ⟨w1.heap.size,1,none⟩ (.int .i64 m)).setCell ⟨w1.heap.size,2,none⟩ (.slice A6 es6.length cT)) wr.heap.size (.slice A6 es6.length cT) es6:=
          (((Ir.out.far (p:=⟨w1.heap.size,0,none⟩) (by show w1.heap.size<_;omega) _).far (p:=⟨w1.heap.size,1,none⟩) (by show w1.heap.size<_;omega) _).far (p:=⟨w1.heap.size,2,none⟩) (by show w1.heap.size<_;omega) _)
         have Dp:Below w1.heap.size w1 (((w6.setCell ⟨w1.heap.size,0,none⟩ (.int .i64 r2)).setCell ⟨w1.heap.size,1,none⟩ (.int .i64 m)).setCell ⟨w1.heap.size,2,none⟩ (.slice A6 es6.length cT)):=
          (((uy.out.trans (Dr.out.mono tO)).setCell (p:=⟨w1.heap.size,0,none⟩) (by show w1.heap.size≤_;exact zaa _) _).setCell (p:=⟨w1.heap.size,1,none⟩) (by show w1.heap.size≤_;exact zaa _) _).setCell (p:=⟨w1.heap.size,2,none⟩) (by show w1.heap.size≤_;exact zaa _) _
         have Cx: ∀j,(((w6.setCell ⟨w1.heap.size,0,none⟩ (.int .i64 r2)).setCell ⟨w1.heap.size,1,none⟩ (.int .i64 m)).setCell ⟨w1.heap.size,2,none⟩ (.slice A6 es6.length cT)).frozen? ⟨w1.heap.size,j,none⟩=false:=fun j=>by
          rw[zay,zay,zay];exact FF.out j
         have JQ:(((w6.setCell ⟨w1.heap.size,0,none⟩ (.int .i64 r2)).setCell ⟨w1.heap.size,1,none⟩ (.int .i64 m)).setCell ⟨w1.heap.size,2,none⟩ (.slice A6 es6.length cT)).heap.size=w6.heap.size:=by simp
         generalize ((w6.setCell ⟨w1.heap.size,0,none⟩ (.int .i64 r2)).setCell ⟨w1.heap.size,1,none⟩ (.int .i64 m)).setCell ⟨w1.heap.size,2,none⟩ (.slice A6 es6.length cT)=w7 at*;have Jh:=qA wJ;have Et:=qA Bn;have jM:=qA Dp;have Im:=qA Cx;have C0:=qA c0;have C1:=qA c1;have C2:=qA c2;have aQ:u≤xs.length:=tO;have bU:u+1≤xs.length:=tO;have OC:=qA (qKB wJ aQ);have RC:=qA (RdI.cut (k:=u+1) (A:=some ⟨gl,0,none⟩) (cap:=capl) wJ.rd rfl bU);clear wJ Bn Dp Cx c0 c1 c2 f0 f1 f2 Hk Gm Iu FF;have z1:(0:Int)≤(u:Int):=tO;have z2:(u:Int)≤(capl:Int):=tO;have z3:(u:Int)+1≤(k:Int):=tO;have z4:(k:Int)≤(capl:Int):=tO;have z5:(0:Int)≤(u:Int)+1:=tO;have z6:(u:Int)+1≤(capl:Int):=tO;have zw:IntKind.i64.wrap ((u:Int)+1)=(u:Int)+1:=by rw[IntKind.wrap_i64];omega
         have HC:Hid (∀(v9:Value) (w9:World),OwI w9 (w1.heap.size+1) v9 (xs.take u++xs.drop (u+1))→w7.drew.grownBy w9 (zaw (some ⟨gl,0,none⟩) u capl).ownBlock→(v9.ownBlock=(zaw (some ⟨gl,0,none⟩) u capl).ownBlock∨v9.ownBlock=some w7.drew.heap.size)→
           (∃(gg:GrD) (xs:List Int) (A':Option Addr) (cap':Nat),grB gg=true∧R=qBy gg.2.1.toNat gg xs∧xs.length=gg.2.1.toNat∧OwI w9 (w1.heap.size+1) v9 xs∧w9.cell? ⟨w1.heap.size,0,none⟩=some (.int .i64 gg.1)∧w9.cell? ⟨w1.heap.size,1,none⟩=some (.int .i64 gg.2.1)∧w9.cell? ⟨w1.heap.size,2,none⟩=some (.slice A' gg.2.2.length cap')∧(∀j,w9.frozen? ⟨w1.heap.size,j,none⟩=false)∧OwE w9 W0.heap.size (.slice A' gg.2.2.length cap') gg.2.2∧(∀b,(zaw A' gg.2.2.length cap').ownBlock=some b→v9.ownBlock≠some b)∧Below w1.heap.size w1 w9∧w1.heap.size<w9.heap.size)∧slN v9<k):=qA (by
          intro v9 w9 o9 g9 p9;have zk: ∀b,b<w7.heap.size→b≠gl→w9.heap[b]? =w7.heap[b]? :=fun b hb ai=>g9.block b hb fun e=>ai (by simpa[zac] using e);have uA:w7.heap.size≤w9.heap.size:=g9.size;have fk:(xs.take u++xs.drop (u+1)).length=m:=by
           have:=HM.out
           rw[zah,zaG,zaH];omega
          have sQ:Below w1.heap.size w1 w9:=(jM.out.drew).grown g9 (by show w1.heap.size≤w7.heap.size;omega) fun x hx=>by simp[zac] at hx;omega
          have cc: ∀o,w9.cell? ⟨w1.heap.size,o,none⟩=w7.cell? ⟨w1.heap.size,o,none⟩:=fun o=>zaA (zk w1.heap.size tO tO);have cf: ∀o,w9.frozen? ⟨w1.heap.size,o,none⟩=w7.frozen? ⟨w1.heap.size,o,none⟩:=fun o=>zaK (zk w1.heap.size tO tO);obtain⟨A9,aT,nT,_⟩:=OwI.form o9;refine⟨⟨(r2,(m:Int),es6),xs.take u++xs.drop (u+1),A6,cT,jw.out,by rw[jP.out];simp,by rw[fk];simp,o9,(cc 0).trans C0.out,(cc 1).trans C1.out,(cc 2).trans C2.out,fun j=>(cf j).trans (Im.out j),(Et.out.keep fun b hb=>zk b (by have:=zD.out b hb;omega) (by have:=zD.out b hb;omega)).mono tO,fun b hb he=> ?_,sQ,tO⟩,?_⟩
          ·have h1:=zD.out b hb;rcases p9 with p9 | p9
           ·rw[p9] at he;simp[zac] at he
            omega
           ·rw[p9] at he;have h2:w7.heap.size=b:=by simpa using he
            omega
          ·rw[nT,fk];show m<k
           have:=HM.out
           omega)
         by_cases hcu:capl=u+1
         ·have RC':Hid (RdI w7 (.slice (some ⟨gl,0,none⟩) (k-(u+1)) 0) (xs.drop (u+1))):=qA (by
           have h1:=RC.out;rw[if_pos hcu,cX,show capl-(u+1)=0 by omega] at h1;exact h1)
          clear RC;subst hcu;have y1:(u:Int)≤(u:Int)+1:=tO;have y2:(k:Int)≤(u:Int)+1:=tO;clear z2 z4 z6;go_region_held3 (fun w'=>True) (trivial)
           (first | (refine qAN rfl (.tmp 77) (.tmp 81) rfl (w1.heap.size+1) _ (xs.take u) (OwI.drew OC.out) (by rfl) _ (xs.drop (u+1)) ?_ (by rfl) (by simp only[zaG,zaH];omega) (by show _≤w7.heap.size;omega) ?_;(exact RC'.out.drew);intro v9 w9 o9 g9 p9;have X9:=qA (HC.out v9 w9 o9 g9 p9);clear o9 g9 p9))
          clear HC;obtain⟨X1,X2⟩:=X9.out;clear X9;have ei:=qA X1;clear X1;go_wp2;go_roundw
          case rel=>exact ei.out
          case measure=>(show slN v9<xs.length;omega)
         ·have RC':Hid (RdI w7 (.slice (some ⟨gl,u+1,none⟩) (k-(u+1)) (capl-(u+1))) (xs.drop (u+1))):=qA (by
           have h1:=RC.out;rw[if_neg hcu,cX] at h1;simpa[Addr.add] using h1)
          go_region_held3 (fun w'=>True) (trivial)
           (first | (refine qAN rfl (.tmp 77) (.tmp 81) rfl (w1.heap.size+1) _ (xs.take u) (OwI.drew OC.out) (by rfl) _ (xs.drop (u+1)) ?_ (by rfl) (by simp only[zaG,zaH];omega) (by show _≤w7.heap.size;omega) ?_;(exact RC'.out.drew);intro v9 w9 o9 g9 p9;have X9:=qA (HC.out v9 w9 o9 g9 p9);clear o9 g9 p9))
          clear HC;obtain⟨X1,X2⟩:=X9.out;clear X9;have ei:=qA X1;clear X1;go_wp2;go_roundw
          case rel=>exact ei.out
          case measure=>(show slN v9<xs.length;omega)
theorem qER (v:Value) (g:GrD) (w:World) (h:ArgG w v g) (hf:qAk g=true):
  Calls Tryz.prog 156 #[v] w fun e w'=> ∃r,e= .returned r∧OwI w' w.heap.size r (canO g)∧Below w.heap.size w w':=by
 have HG:=qA h;have HF:=qA hf;obtain⟨s,rfl,bg,bH,ha⟩:=h;clear hf ha;go_enter Tryz.func156,Tryz.ntmps156
 go_wp2_with fail;have bx:Below w.heap.size w (w.alloc (.cells #[.int .i64 g.1,.int .i64 g.2.1,s] 82)):=(by repeat(first | exact .refl _ _ | (refine BxS ?_ _) | (refine qB ?_ _) | (refine zad ?_) | (refine BxA ?_ _)));have l0:(w.alloc (.cells #[.int .i64 g.1,.int .i64 g.2.1,s] 82)).cell? ⟨w.heap.size,0,none⟩=some (.int .i64 g.1):=by simp[go_sem]
 have l1:(w.alloc (.cells #[.int .i64 g.1,.int .i64 g.2.1,s] 82)).cell? ⟨w.heap.size,1,none⟩=some (.int .i64 g.2.1):=by simp[go_sem]
 have l2:(w.alloc (.cells #[.int .i64 g.1,.int .i64 g.2.1,s] 82)).cell? ⟨w.heap.size,2,none⟩=some s:=by simp[go_sem]
 have sA:w.heap.size<(w.alloc (.cells #[.int .i64 g.1,.int .i64 g.2.1,s] 82)).heap.size:=by simp
 generalize w.alloc (.cells #[.int .i64 g.1,.int .i64 g.2.1,s] 82)=W at bx l0 l1 l2 sA⊢;have eo:=qBd _ g W (HG.out.below bx);rw[HF.out] at eo;have lQ:=qA eo;have BX:=qA bx;clear eo bx;refine lQ.out.mono ?_;rintro e w1 ⟨rfl,b1⟩;have q0:=(b1.cell (p:=⟨w.heap.size,0,none⟩) sA).trans l0;have q1:=(b1.cell (p:=⟨w.heap.size,1,none⟩) sA).trans l1;have q2:=(b1.cell (p:=⟨w.heap.size,2,none⟩) sA).trans l2;have BB:Hid (Below w.heap.size w w1):=qA (BX.out.trans (b1.mono BX.out.size));clear b1 lQ l0 l1 l2;go_wp2_with fail;refine(qOy _ g w1 (HG.out.below BB.out) HF.out).mono ?_
 rintro e w2 ⟨r2,s2,rfl,o2,b2⟩;have O2:=qA (o2.mono (BB.out.size));have B2:=qA (BB.out.trans (b2.mono BB.out.size));clear o2 b2 q0 q1 q2;go_wp2;exact bodyPost_ret (v:=r2) (by simp[results,Tryz.results156]) rfl ⟨_,rfl,O2.out,B2.out⟩
theorem qCH (v:Value) (g:GrD) (w:World) (h:ArgG w v g) (hf:qAk g=true):
  Calls Tryz.prog 129 #[v] w fun e w'=> ∃r,e= .returned r∧OwG w' w.heap.size r (canG g)∧Below w.heap.size w w':=by
 have HG:=qA h;have HF:=qA hf;obtain⟨hg,_⟩:=qAQ hf;have aD:=qA hg;have bG:=qA (qNQ hg);have pD:Hid (canG g=rnG g (canO g)):=qA rfl;generalize canG g=cg at*;obtain⟨s,rfl,bg,bH,ha⟩:=h;obtain⟨A,cap,rfl⟩:=ha.form;clear hf hg ha;go_enter Tryz.func129,Tryz.ntmps129
 go_wp2_with fail;have bx:Below w.heap.size w ((w.alloc (.cells #[.int .i64 g.1,.int .i64 g.2.1, .slice A g.2.2.length cap] 82)).alloc (.cells #[.int .i64 0,.int .i64 0, .slice none 0 0] 82)):=(by repeat(first | exact .refl _ _ | (refine BxS ?_ _) | (refine qB ?_ _) | (refine zad ?_) | (refine BxA ?_ _)));obtain⟨W0,aF⟩: ∃W,W=(w.alloc (.cells #[.int .i64 g.1,.int .i64 g.2.1, .slice A g.2.2.length cap] 82)).alloc (.cells #[.int .i64 0,.int .i64 0, .slice none 0 0] 82):=⟨_,rfl⟩;rw[←aF] at bx⊢;have cI:W0.heap.size=w.heap.size+1+1:=by rw[aF];simp
 have B0:W0.cell? ⟨w.heap.size,0,none⟩=some (.int .i64 g.1):=by rw[aF];simp[go_sem]
 have B1:W0.cell? ⟨w.heap.size,1,none⟩=some (.int .i64 g.2.1):=by rw[aF];simp[go_sem]
 have B2:W0.cell? ⟨w.heap.size,2,none⟩=some (.slice A g.2.2.length cap):=by rw[aF];simp[go_sem]
 have R0:Hid (W0.cell? ⟨w.heap.size+1,0,none⟩=some (.int .i64 0)):=qA (by rw[aF];simp[go_sem]);have R1:Hid (W0.cell? ⟨w.heap.size+1,1,none⟩=some (.int .i64 0)):=qA (by rw[aF];simp[go_sem]);have R2:Hid (W0.cell? ⟨w.heap.size+1,2,none⟩=some (.slice none 0 0)):=qA (by rw[aF];simp[go_sem]);have RF:Hid (∀j,W0.frozen? ⟨w.heap.size+1,j,none⟩=false):=qA fun j=>by rw[aF];simp[go_sem]
 clear aF;have xC:=qA cI;have lC:w.heap.size<W0.heap.size:=tO;have iO:w.heap.size+1<W0.heap.size:=tO;clear cI;have BX:=qA bx;have HA:Hid (∀w',Below W0.heap.size W0 w'→ArgG w' (.agg #[.int .i64 g.1, .int .i64 g.2.1, .slice A g.2.2.length cap]) g):=qA fun w' hb=>HG.out.below (BX.out.trans (hb.mono tO));have eo:=qBd _ g W0 (HA.out _ (zab _ _));rw[HF.out] at eo;have lQ:=qA eo;clear eo bx;refine lQ.out.mono ?_;rintro e w1 ⟨rfl,b1⟩;have q0:=(b1.cell (p:=⟨w.heap.size,0,none⟩) lC).trans B0;have q1:=(b1.cell (p:=⟨w.heap.size,1,none⟩) lC).trans B1;have q2:=(b1.cell (p:=⟨w.heap.size,2,none⟩) lC).trans B2;have BB:=qA b1;have C0:=qA B0;have C1:=qA B1;have C2:=qA B2;clear b1 lQ B0 B1 B2;go_wp2_with fail;go_region_held3 (fun w'=>w'.cell? ⟨w.heap.size,0,none⟩=some (.int .i64 g.1)∧w'.cell? ⟨w.heap.size,1,none⟩=some (.int .i64 g.2.1)∧w'.cell? ⟨w.heap.size,2,none⟩=some (.slice A g.2.2.length cap))
  (first | exact⟨k0,k1,k2⟩ | go_keep)
  (first
   | (go_at_call 156;refine(qER _ g _ (HA.out _ BB.out.drew) HF.out).mono ?_;rintro e' w2 ⟨r2,rfl,o2,b2⟩;have O2:=qA o2;have B2:=qA (BB.out.drew.trans (b2.mono BB.out.size));have k0:=(B2.out.cell (p:=⟨w.heap.size,0,none⟩) lC).trans C0.out;have k1:=(B2.out.cell (p:=⟨w.heap.size,1,none⟩) lC).trans C1.out;have k2:=(B2.out.cell (p:=⟨w.heap.size,2,none⟩) lC).trans C2.out;clear o2 b2 q0 q1 q2)
   | (go_at_call 155;refine(qKo _ _ g (canO g) _ (HA.out _ B2.out) O2.out.rd aD.out bG.out).mono ?_;rintro e' w3 ⟨r3,rfl,o3,b3⟩;have s2:=B2.out.size;have B3:=qA (B2.out.trans (b3.mono s2));obtain⟨s3,rfl,i1,i2,fA⟩:=o3;obtain⟨A3,aU,rfl,_⟩:=OwE.form fA;have mi:=qA (fA.mono s2);have I1:=qA i1;have I2:=qA i2;have k0:=(B3.out.cell (p:=⟨w.heap.size,0,none⟩) lC).trans C0.out;have k1:=(B3.out.cell (p:=⟨w.heap.size,1,none⟩) lC).trans C1.out;have k2:=(B3.out.cell (p:=⟨w.heap.size,2,none⟩) lC).trans C2.out;have vc:=(B3.out.cell (p:=⟨w.heap.size+1,0,none⟩) iO).trans R0.out;have tt:=(B3.out.cell (p:=⟨w.heap.size+1,1,none⟩) iO).trans R1.out;have t8:=(B3.out.cell (p:=⟨w.heap.size+1,2,none⟩) iO).trans R2.out;have dR:=(B3.out.frozen (p:=⟨w.heap.size+1,0,none⟩) iO).trans (RF.out 0);have dP:=(B3.out.frozen (p:=⟨w.heap.size+1,1,none⟩) iO).trans (RF.out 1);have dI:=(B3.out.frozen (p:=⟨w.heap.size+1,2,none⟩) iO).trans (RF.out 2);clear b3 fA i1 i2))
 obtain⟨c0,c1,c2⟩:=qDX w3 (w.heap.size+1) (.int .i64 (rnG g (canO g)).1) (.int .i64 (rnG g (canO g)).2.1) (.slice A3 (rnG g (canO g)).2.2.length aU) vc tt t8;have ax:Hid (Below w.heap.size w w3):=qA (BX.out.trans (B3.out.mono BX.out.size));have bw:Below w.heap.size w (((w3.setCell ⟨w.heap.size+1,0,none⟩ (.int .i64 (rnG g (canO g)).1)).setCell ⟨w.heap.size+1,1,none⟩ (.int .i64 (rnG g (canO g)).2.1)).setCell ⟨w.heap.size+1,2,none⟩ (.slice A3 (rnG g (canO g)).2.2.length aU)):=(by repeat(first | exact .refl _ _ | (refine BxS ?_ _) | (refine qB ?_ _) | (refine zad ?_) | (refine BxA ?_ _) | (refine BxT ?_ (Hid.out ax))));have ow:OwE (((w3.setCell ⟨w.heap.size+1,0,none⟩ (.int .i64 (rnG g (canO g)).1)).setCell ⟨w.heap.size+1,1,none⟩ (.int .i64 (rnG g (canO g)).2.1)).setCell ⟨w.heap.size+1,2,none⟩ (.slice A3 (rnG g (canO g)).2.2.length aU)) W0.heap.size (.slice A3 (rnG g (canO g)).2.2.length aU) (rnG g (canO g)).2.2:=
  ((mi.out.far (p:=⟨w.heap.size+1,0,none⟩) iO _).far (p:=⟨w.heap.size+1,1,none⟩) iO _).far (p:=⟨w.heap.size+1,2,none⟩) iO _
 generalize ((w3.setCell ⟨w.heap.size+1,0,none⟩ (.int .i64 (rnG g (canO g)).1)).setCell ⟨w.heap.size+1,1,none⟩ (.int .i64 (rnG g (canO g)).2.1)).setCell ⟨w.heap.size+1,2,none⟩ (.slice A3 (rnG g (canO g)).2.2.length aU)=wf at*;go_wp2;refine bodyPost_ret (v:= .agg #[.int .i64 (rnG g (canO g)).1, .int .i64 (rnG g (canO g)).2.1, .slice A3 (rnG g (canO g)).2.2.length aU]) (by simp[results,Tryz.results129,go_sem,c0,c1,c2]) rfl ⟨_,rfl,?_,bw⟩;rw[pD.out];exact⟨_,rfl,I1.out,I2.out,ow.mono tO⟩
theorem qHB (v:Value) (g:GrD) (w:World) (h:ArgG w v g):
  Calls Tryz.prog 106 #[v] w fun e w'=>e= .returned (.bool (qGP g))∧Below w.heap.size w w':=by
 have HG:=qA h;obtain⟨s,rfl,bg,bH,ha⟩:=h;obtain⟨A,cap,rfl⟩:=ha.form;have HC:Hid (qGP g=(qAk g&&decide (qAG g.2.2 g.2.1.toNat<0)&&decide (canG g=g))):=qA rfl;generalize qGP g=cb at*;clear ha;go_enter Tryz.func106,Tryz.ntmps106
 go_wp2_with fail;have bx:Below w.heap.size w (w.alloc (.cells #[.int .i64 g.1,.int .i64 g.2.1, .slice A g.2.2.length cap] 82)):=(by repeat(first | exact .refl _ _ | (refine BxS ?_ _) | (refine qB ?_ _) | (refine zad ?_) | (refine BxA ?_ _)));have l0:(w.alloc (.cells #[.int .i64 g.1,.int .i64 g.2.1, .slice A g.2.2.length cap] 82)).cell? ⟨w.heap.size,0,none⟩=some (.int .i64 g.1):=by simp[go_sem]
 have l1:(w.alloc (.cells #[.int .i64 g.1,.int .i64 g.2.1, .slice A g.2.2.length cap] 82)).cell? ⟨w.heap.size,1,none⟩=some (.int .i64 g.2.1):=by simp[go_sem]
 have l2:(w.alloc (.cells #[.int .i64 g.1,.int .i64 g.2.1, .slice A g.2.2.length cap] 82)).cell? ⟨w.heap.size,2,none⟩=some (.slice A g.2.2.length cap):=by simp[go_sem]
 have sA:w.heap.size<(w.alloc (.cells #[.int .i64 g.1,.int .i64 g.2.1, .slice A g.2.2.length cap] 82)).heap.size:=by simp
 generalize w.alloc (.cells #[.int .i64 g.1,.int .i64 g.2.1, .slice A g.2.2.length cap] 82)=W at bx l0 l1 l2 sA⊢;have BX:=qA bx;have HA:Hid (∀w',Below W.heap.size W w'→ArgG w' (.agg #[.int .i64 g.1, .int .i64 g.2.1, .slice A g.2.2.length cap]) g):=qA fun w' hb=>HG.out.below (BX.out.trans (hb.mono tO));clear bx;refine(qBd _ g W (HA.out _ (zab _ _))).mono ?_
 rintro e w1 ⟨rfl,b1⟩;have BW:=qA b1;have q0:=(b1.cell (p:=⟨w.heap.size,0,none⟩) sA).trans l0;have q1:=(b1.cell (p:=⟨w.heap.size,1,none⟩) sA).trans l1;have q2:=(b1.cell (p:=⟨w.heap.size,2,none⟩) sA).trans l2;have L0:=qA l0;have L1:=qA l1;have L2:=qA l2;clear b1 l0 l1 l2;rcases e1:qAk g with _ | _
 ·have HR:Hid (cb=false):=qA (by rw[HC.out,e1];rfl);clear e1;go_wp2;exact bodyPost_ret (v:= .bool false) (by simp[results,Tryz.results106]) rfl ⟨by rw[HR.out],BX.out.trans (BW.out.mono (zan sA))⟩
 ·have HF:=qA e1;have hg:=(qAQ e1).1;have aD:=qA hg;have tR:=qA (qLo hg);go_wp2_with fail;refine(qEl _ g w1 (HA.out _ BW.out) aD.out).mono ?_
  rintro e w2 ⟨rt,lt,rfl,ot,ol,b2⟩;have s1:=BW.out.size;have B2:=qA (BW.out.trans (b2.mono s1));have s2:=B2.out.size;generalize qCL g=T at*;obtain⟨⟨t0,t1,t2⟩,tl⟩:=T;obtain⟨st,rfl,_,_,oe⟩:=ot;obtain⟨At,capt,rfl,_⟩:=OwE.form oe;simp only at tR⊢
  have k0:=(B2.out.cell (p:=⟨w.heap.size,0,none⟩) sA).trans L0.out;have k1:=(B2.out.cell (p:=⟨w.heap.size,1,none⟩) sA).trans L1.out;have k2:=(B2.out.cell (p:=⟨w.heap.size,2,none⟩) sA).trans L2.out;have oN:w.heap.size<w2.heap.size:=tO;clear b2 ol oe q0 q1 q2 hg e1;go_wp2;have b3:Below w2.heap.size w2 (w2.alloc (.cells #[.int .i64 t0,.int .i64 t1, .slice At t2.length capt] 82)):=(zab _ _).alloc (zaa _) _;have m1:(w2.alloc (.cells #[.int .i64 t0,.int .i64 t1, .slice At t2.length capt] 82)).cell? ⟨w2.heap.size,1,none⟩=some (.int .i64 t1):=by simp[go_sem]
  have s3:w2.heap.size<(w2.alloc (.cells #[.int .i64 t0,.int .i64 t1, .slice At t2.length capt] 82)).heap.size:=by simp
  generalize w2.alloc (.cells #[.int .i64 t0,.int .i64 t1, .slice At t2.length capt] 82)=W3 at b3 m1 s3⊢;have p0:=(b3.cell (p:=⟨w.heap.size,0,none⟩) oN).trans k0;have p1:=(b3.cell (p:=⟨w.heap.size,1,none⟩) oN).trans k1;have p2:=(b3.cell (p:=⟨w.heap.size,2,none⟩) oN).trans k2;have B3:=qA (B2.out.trans (b3.mono s2));have fF:w.heap.size<W3.heap.size:=tO;have P0:=qA p0;have P1:=qA p1;have P2:=qA p2;have M1:=qA m1;clear k0 k1 k2 b3;rcases hq:(t1==g.2.1) with _ | _
  ·have HR:Hid (cb=false):=qA (by
    have h1:=tR.out;have h2:decide (t1=g.2.1)=false:=by rw[decide_eq_false_iff_not];exact beq_eq_false_iff_ne.1 hq
    rw[h2] at h1;rw[HC.out,←h1];simp)
   have f1:=BelW.cell p1 fF;have f2:=BelW.cell m1 s3;have f3:=BelW.cell p0 fF;have f4:=BelW.cell p2 fF;(refine qK tK tK ?_;(repeat(go_big_quiet_step (fail)));refine wpQuiet_nil ?_;intro wq hw';obtain⟨pq,al⟩:=hw';have bq:=pq.h;rw[←al] at bq;clear al pq)
   go_wp2;exact bodyPost_ret (v:= .bool false) (by simp[results,Tryz.results106]) rfl ⟨by rw[HR.out],BX.out.trans ((B3.out.trans (bq.mono tO)).mono (zan sA))⟩
  ·have HR:Hid (cb=decide (canG g=g)):=qA (by
    have h1:=tR.out;have h2:decide (t1=g.2.1)=true:=by rw[decide_eq_true_iff];exact eq_of_beq hq
    rw[h2] at h1;rw[HC.out,←h1,HF.out];simp)
   go_region_held3 (fun w'=>w'.cell? ⟨w.heap.size,0,none⟩=some (.int .i64 g.1)∧w'.cell? ⟨w.heap.size,1,none⟩=some (.int .i64 g.2.1)∧w'.cell? ⟨w.heap.size,2,none⟩=some (.slice A g.2.2.length cap)∧w'.cell? ⟨w2.heap.size,1,none⟩=some (.int .i64 t1))
    (first | exact⟨k0,k1,k2,k3⟩ | go_keep)
    (first
     | (go_at_call 129;refine(qCH _ g _ (HA.out _ B3.out.drew) HF.out).mono ?_;rintro e' w4 ⟨r4,rfl,o4,b4⟩;have B4:=qA ((zab W3.heap.size W3).drew.trans b4);have O4:=qA o4;have k0:=(B4.out.cell (p:=⟨w.heap.size,0,none⟩) fF).trans P0.out;have k1:=(B4.out.cell (p:=⟨w.heap.size,1,none⟩) fF).trans P1.out;have k2:=(B4.out.cell (p:=⟨w.heap.size,2,none⟩) fF).trans P2.out;have k3:=(B4.out.cell (p:=⟨w2.heap.size,1,none⟩) s3).trans M1.out;clear b4 o4)
     | (go_at_call 131;refine(qED _ _ (canG g) g _ O4.out.arg (HA.out _ (B3.out.trans (B4.out.mono B3.out.size)))).mono ?_;rintro e' w5 ⟨rfl,b5⟩;have B5:=qA (B4.out.trans (b5.mono B4.out.size));have k0:=(B5.out.cell (p:=⟨w.heap.size,0,none⟩) fF).trans P0.out;have k1:=(B5.out.cell (p:=⟨w.heap.size,1,none⟩) fF).trans P1.out;have k2:=(B5.out.cell (p:=⟨w.heap.size,2,none⟩) fF).trans P2.out;have k3:=(B5.out.cell (p:=⟨w2.heap.size,1,none⟩) s3).trans M1.out;clear b5))
   go_wp2;exact bodyPost_ret (v:= .bool (decide (canG g=g))) (by simp[results,Tryz.results106]) rfl ⟨by rw[HR.out],BX.out.trans ((B3.out.trans (B5.out.mono tO)).mono (zan sA))⟩
def invN (w:List Int):List Int:=(w.map fun x=> -x).reverse
theorem qPB (w:List Int):invN (invN w)=w:=by
 unfold invN;rw[List.map_reverse,List.reverse_reverse,List.map_map];have:((fun x:Int=> -x)∘fun x:Int=> -x)=id:=by funext x;simp
 rw[this,List.map_id]
theorem qKN {w:List Int} {x:Int} (h:x∈invN w): -x∈w:=by
 unfold invN at h;simp only[List.mem_reverse,List.mem_map] at h;obtain⟨y,hy,rfl⟩:=h;simpa using hy
def wst (es:List EdD) (u:Int) (wu:List Int) (tw:List (Int×List Int)) (x:Int):List (Int×List Int):=
 if 0≤qAY es u x then(if hasB (tw.map (·.1)) (qAY es u x) then tw else tw++ [(qAY es u x,wu++ [x])]) else tw
def wcF (es:List EdD) (ls:List Int):Nat→Nat→List (Int×List Int)→List (Int×List Int)
 | 0,_,tw=>tw
 | f+1,i,tw=>match tw[i]? with
   | none=>tw
   | some p=>wcF es ls f (i+1) (ls.foldl (wst es p.1 p.2) tw)
def wcO (g:GrD):List (Int×List Int):=wcF g.2.2 (qD g.1.toNat) 41 0 [(0,[])]
structure TwI (es:List EdD) (ls:List Int) (tw:List (Int×List Int)):Prop where
 root:tw[0]? =some (0,[])
 par: ∀p∈tw,p=(0,[])∨ ∃q∈tw,∃x∈ls,p.2=q.2++ [x]∧qAY es q.1 x=p.1∧0≤p.1
 len: ∀p∈tw,p.2.length<tw.length
def lkW (tw:List (Int×List Int)) (v:Int):List Int:=match tw.find? (fun p=>decide (p.1=v)) with
 | some p=>p.2
 | none=> []
def wdO (g:GrD) (v:Int):List Int:=lkW (wcO g) v
section
variable {g:GrD}
def NoB:List Int→Prop
 | []=>True
 | [_]=>True
 | a::b::l=>b≠ -a∧NoB (b::l)
end
def imgW (a b:GrD) (v:Int):Int:=qOO b.2.2 0 (wdO a v)
section
variable {a b:GrD}
end
def Lt3 (x:Int):Prop:= -3≤x∧x≤3∧x≠0
theorem Lt3.inv {l x:Int} (h:Lt3 l):invB l x=true↔x= -l:=by
 unfold invB;have:=h.1;have:=h.2.2
 simp
 omega
def okR (es:List EdD) (v:Int):List Int→Prop
 | []=>True
 | [y]=>qAY es v y<0∧Lt3 y
 | y::z::r=>y≠ -z∧Lt3 y∧okR es v (z::r)
def okS (g:GrD) (s:Int×List Int):Prop:=(0≤s.1∧s.1<g.2.1)∧okR g.2.2 s.1 s.2
section
variable {g:GrD} (hg:grB g=true) (hf:Fol g.2.2)
include hg
include hf
omit hf
include hf
end
section
variable {g:GrD} (hg:grB g=true) (hf:Fol g.2.2) {w:List Int} (hw: ∀y∈w,Lt3 y) {s:Int×List Int} (hs:okS g s)
include hg hw
include hf
include hs
end
section
variable {g:GrD} (hg:grB g=true) (hf:Fol g.2.2)
include hg hf
end
theorem qJC {c:List Int}: ∀(n f:Nat),(∀i,i<f→invB (c.getD i 0) (c.getD (c.length-1-i) 0)=true)→ ∀i,i<qAS c n f→invB (c.getD i 0) (c.getD (c.length-1-i) 0)=true
 | 0,_,h=>h
 | n+1,f,h=>by
   rw[qEy];split
   ·rename_i q
    refine qJC n (f+1) fun i hi=> ?_;rcases zaE i f with z | z
    ·exact h i z
    ·have:i=f:=tO
     subst this;exact q.2
   ·exact h
theorem qMG (l:List Int) (j:Nat) (h:j<l.length):(invN l).getD j 0= -(l.getD (l.length-1-j) 0):=by
 unfold invN;have h1:j<((l.map fun x=> -x).reverse).length:=by simpa using h
 rw[zag,zaf h1,zag,zaf tO];simp
theorem qHL {x:List Int} (h: ∀y∈x,Lt3 y):x=x.take (qk x)++qBt x++invN (x.take (qk x)):=by
 have fe:=qEO x;have bQ:=qJC (c:=x) x.length 0 (fun i hi=>tO);refine qEp ?_ fun i hi=> ?_
 ·simp only[zah,qEo];simp[invN]
  omega
 ·have l1:(x.take (qk x)).length=qk x:=by simp;omega
  have l2:=qEo x;rcases zaE i (qk x) with q | q
  ·rw[List.append_assoc,qAb _ _ _ tO];simp[q]
  ·rcases zaE i (x.length-qk x) with q2 | q2
   ·rw[qAb _ _ _ (by rw[zah];omega),qBA _ _ _ tO,qFF _ _ tO,l1];congr 1;omega
   ·rw[qBA _ _ _ (by rw[zah];omega),zah,l1,l2];have hj:x.length-1-i<qk x:=tO;have hx:=bQ (x.length-1-i) hj;rw[show x.length-1-(x.length-1-i)=i by omega] at hx;have h3:Lt3 (x.getD (x.length-1-i) 0):=h _ (by rw[zag,zaf tO];simp);rw[Lt3.inv h3] at hx;rw[hx];rw[qMG _ _ tO,l1,show qk x-1-(i-(qk x+(x.length-2*qk x)))=x.length-1-i by omega];congr 1
    rw[zag,zag,List.getElem?_take_of_lt tO]
section
variable {es:List EdD} {c:List Int} {v:Int}
end
def freG (l:List Oper):Bool:=
 Region.noSelect l.toArray&&(zaq l.length).all fun i=>match l[i]? with
  | none=>true
  | some o=>(o.after.all fun e=> !Region.binds .any e||decide (e.on<i))&&
    ((zaq l.length).all fun k=>match l[k]? with
      | none=>true
      | some o'=>(decide (i=k)|| !(o.dst==o'.dst)||o.dst.isNone)&&
        (match o'.dst with
         | none=>true
         | some t=> !(o.looksAt l.toArray).contains t||qw l l.length i k||qw l l.length k i))
def ObwG (G:List Nat) (P:Program) (J:Nat→World→Prop) (l:List Oper) (L:List Sg) (T:List (Option (World→World→Prop))) (vs:Nat→Value) (Q:Exit→Act→World→Prop):List Oper→List Sg→Nat→Act→Prop
 | [],_,_,b=> ∀W',Hid (J l.length W')→Hid (∀j,j<l.length→(sgA L j).R (qAz l j vs) W' (vs j))→Q .normal b W'
 | _::_,[],_,_=>False
 | o::r,s::ss,k,b=>(match G.contains k with
   | true=>True
   | false=>(∀W K Q0,Hid (J k W)→Hid (∀j,qw l l.length k j=true→(sgA L j).R (qAz l j vs) W (vs j))→Hid (∀v W',tnA T k W W'→s.R (qAz l k vs) W' v→K (b.put o.dst v) W')→o.wp P b W K Q0))∧ObwG G P J l L T vs Q r ss (k+1) (b.put o.dst (s.pick (vs k)))
def GOff (L:List Sg) (T:List (Option (World→World→Prop))):List Nat→Prop
 | []=>True
 | i::r=>(sgA L i= .val undef∧T.getD i none=none)∧GOff L T r
theorem GOff.at {L:List Sg} {T:List (Option (World→World→Prop))}: ∀ {G:List Nat},GOff L T G→ ∀i,G.contains i=true→sgA L i= .val undef∧T.getD i none=none
 | [],_,_,h=>by cases h
 | j::r,h,i,hi=>by
   simp only[List.contains_cons,zaB,beq_iff_eq] at hi;rcases hi with rfl | hi
   ·exact h.1
   ·exact GOff.at h.2 i hi
theorem qJB {S:Nat→Bool} {vs:Nat→Value} {d:Tmp}: ∀(r:List Oper) (k:Nat) (b:Act),(∀o∈r,o.dst≠some d)→(actV S vs r k b).tmps[d]? =b.tmps[d]?
 | [],_,_,_=>rfl
 | o::r,k,b,h=>by
   unfold actV;rw[qJB r (k+1) _ fun o' bi=>h o' (by simp[bi])];split
   ·have:=h o (by simp)
    cases hd:o.dst with
    | none=>rfl
    | some e=>
      rw[hd] at this;simp only[Act.put];rw[Array.getElem?_setIfInBounds_ne (fun q=>this (by rw[q]))]
   ·rfl
theorem qLe {S:Nat→Bool} {vs:Nat→Value} {d:Tmp}: ∀(r:List Oper) (k:Nat) (b:Act) (i:Nat) (o:Oper),r[i]? =some o→o.dst=some d→S (k+i)=true→(∀j o2,r[j]? =some o2→j≠i→o2.dst≠some d)→d<b.tmps.size→(actV S vs r k b).tmps[d]? =some (vs (k+i))
 | [],_,_,_,_,h,_,_,_,_=>by simp at h
 | o'::r,k,b,0,o,h,hd,hS,hu,hz=>by
   obtain rfl:o'=o:=by simpa using h
   rw[zaz] at hS⊢;unfold actV;rw[hS,qJB r (k+1) _ fun o2 eG=>by
    obtain⟨j,hj⟩:=List.getElem?_of_mem eG;exact hu (j+1) o2 (by simpa using hj) tO]
   simp only[if_true,hd,Act.put];rw[Array.getElem?_setIfInBounds_self_of_lt hz]
 | o'::r,k,b,i+1,o,h,hd,hS,hu,hz=>by
   unfold actV;rw[qLe r (k+1) _ i o (by simpa using h) hd (by rwa [show k+1+i=k+(i+1) by omega]) (fun j o2 hj vq=>hu (j+1) o2 (by simpa using hj) tO) (by split<;>(try simp only[qFl])<;>exact hz)];rw[show k+1+i=k+(i+1) by omega]
section
variable {l:List Oper}
theorem qCZ (h:freG l=true):Region.noSelect l.toArray=true∧ ∀i o,l[i]? =some o→(∀e∈o.after,Region.binds .any e=true→e.on<i)∧(∀k o',l[k]? =some o'→i≠k→ ∀d,o.dst=some d→o'.dst≠some d)∧
  ∀k o' t,l[k]? =some o'→o'.dst=some t→t∈o.looksAt l.toArray→qw l l.length i k=true∨qw l l.length k i=true:=by
 unfold freG at h;rw[zar,zaT] at h;refine⟨h.1,fun i o ho=> ?_⟩;have hi:i<l.length:=(zai.1 ho).1;have h1:=h.2 i (zaU.2 hi);rw[ho] at h1;simp only[zar,zaT,zaU] at h1;obtain⟨h3,h4⟩:=h1;refine⟨fun e he hb=> ?_,fun k o' hk hik d hd hd'=> ?_,fun k o' t hk ht hl=> ?_⟩
 ·have:=Array.all_eq_true_iff_forall_mem.1 h3 e he
  rw[hb] at this;simpa using this
 ·have h5:=h4 k ((zai.1 hk).1);rw[hk] at h5;simp only[zar,zaB,decide_eq_true_eq] at h5;rcases h5.1 with (h6 | h6) | h6
  ·exact hik h6
  ·rw[hd,hd'] at h6;simp at h6
  ·rw[hd] at h6;simp at h6
 ·have h5:=h4 k ((zai.1 hk).1);rw[hk] at h5;simp only[zar] at h5;have h6:=h5.2;rw[ht] at h6;simp only[zaB,Bool.not_eq_true'] at h6;rcases h6 with (h6 | h6) | h6
  ·rw[List.contains_iff_mem.2 hl] at h6;cases h6
  ·exact .inl h6
  ·exact .inr h6
theorem qDK (hB:freG l=true): ∀(f i j:Nat),qw l f i j=true→j<i
 | 0,_,_,h=>by cases h
 | f+1,i,j,h=>by
   unfold qw at h;cases ho:l[i]? with
   | none=>rw[ho] at h;cases h
   | some o=>
     rw[ho] at h;simp only[List.any_eq_true,Array.mem_toList_iff,zar,zaB,beq_iff_eq] at h;obtain⟨e,he,hb,h⟩:=h;have h1:=((qCZ hB).2 i o ho).1 e he hb;rcases h with h | h
     ·omega
     ·have:=qDK hB f e.on j h;omega
end
section
variable {P:Program} {I Hs:World→Prop} {D:List Nat} {J:Nat→World→Prop} {l:List Oper} {L:List Sg} {T:List (Option (World→World→Prop))} {w:World} {a:Act} {Q:Exit→Act→World→Prop} {G:List Nat}
theorem qJl {vs:Nat→Value} (hvs: ∀j,j<l.length→(sgA L j).pick (vs j)=vs j): ∀(r:List Oper) (ss:List Sg) (k:Nat) (b:Act),(∀j,r[j]? =l[k+j]?)→(∀j,ss.getD j (.val undef)=sgA L (k+j))→ObwG G P J l L T vs Q r ss k b→
  (∀i o,r[i]? =some o→G.contains (k+i)=false→ ∀W K Q0,Hid (J (k+i) W)→Hid (∀j,qw l l.length (k+i) j=true→(sgA L j).R (qAz l j vs) W (vs j))→Hid (∀v W',tnA T (k+i) W W'→(sgA L (k+i)).R (qAz l (k+i) vs) W' v→K ((actV (fun j=>decide (j<k+i)) vs r k b).put o.dst v) W')→o.wp P (actV (fun j=>decide (j<k+i)) vs r k b) W K Q0)∧
  (∀W',Hid (J l.length W')→Hid (∀j,j<l.length→(sgA L j).R (qAz l j vs) W' (vs j))→Q .normal (actV (fun _=>true) vs r k b) W')
 | [],_,_,_,_,_,h=>⟨fun i o ho _=>by simp at ho,h⟩
 | _::_,[],_,_,_,_,h=>h.elim
 | o::r,s::ss,k,b,hr,hs,h=>by
   obtain⟨h1,h2⟩:=h;have aW:s=sgA L k:=by simpa using hs 0
   have hk:k<l.length:=by
    have:=hr 0
    rw[zaz] at this;exact(zai.1 this.symm).1
   rw[aW,hvs k hk] at h2;have hn:=qJl hvs r ss (k+1) _ (fun j=>by have:=hr (j+1);rw[show k+(j+1)=k+1+j by omega] at this;simpa using this) (fun j=>by have:=hs (j+1);rw[show k+(j+1)=k+1+j by omega] at this;simpa using this) h2;refine⟨fun i o' bi hG'=> ?_,?_⟩
   ·cases i with
    | zero=>
      obtain rfl:o=o':=by simpa using bi
      have e:actV (fun j=>decide (j<k+0)) vs (o::r) k b=b:=by
       unfold actV;rw[decide_eq_false tO];have: ∀(r:List Oper) (k2:Nat) (b:Act),k≤k2→actV (fun j=>decide (j<k+0)) vs r k2 b=b:=by
        intro r;induction r with
        | nil=>intros;rfl
        | cons o r ih=>
          intro k2 b rV;unfold actV;rw[decide_eq_false tO];exact ih (k2+1) b tO
       exact this r (k+1) b tO
      rw[zaz] at hG';rw[e,zaz,←aW];rw[hG'] at h1;exact h1
    | succ i=>
      have e:k+(i+1)=k+1+i:=tO;rw[e] at hG';have:=hn.1 i o' (by simpa using bi) hG'
      rw[e];unfold actV;rw[decide_eq_true tO];exact this
   ·exact hn.2
end
end Go.Proofs.YtlgcflpaekbopaaGreat
