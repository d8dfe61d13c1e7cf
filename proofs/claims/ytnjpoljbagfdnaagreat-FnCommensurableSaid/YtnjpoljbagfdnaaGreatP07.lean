/- Parts of the proof: IdxI. -/
import Derived.Test.YtnjpoljbagfdnaaGreatP04
import Derived.Test.YtnjpoljbagfdnaaGreatP06
import Derived.Test.YtnjpoljbagfdnaaGreatP03
import Derived.Test.YtnjpoljbagfdnaaGreatP05
set_option maxRecDepth 100000
set_option maxHeartbeats 16000000
set_option linter.unusedVariables false
set_option linter.unusedSimpArgs false
namespace Go.Proofs.YtnjpoljbagfdnaaGreat
open Go.RowKit
open _root_.List renaming getElem?_eq_getElem→zaa,mem_of_getElem?→zac,getElem?_eq_some_iff→zad,all_eq_true→zae,replicate→zai,take_length→zak,getElem_of_mem→zam,mem_singleton→zap,mem_append→zaq,mem_cons→zar,length_append→zav,length_singleton→zaw,getElem_mem→zay,mem_filterMap→zaz,mem_filter→zaA,length_set→zaB,getElem_set→zaF,mem_map→zaG,length_cons→zaJ,filter_cons→zaK,foldl_cons→zaL,nil_append→zaM,getElem?_take→zaP,pairwise_map→zaR,length_map→zaU,length_nil→zaV
open _root_.Classical renaming byContradiction→zab
open Go.RowKit.Below renaming heap_setCell→zaf,refl→zao
open _root_.Nat renaming le_refl→zag,zero_le→zat,not_lt_zero→zax,lt_of_lt_of_le→zaC,zero_add→zaD,le_succ→zaS
open Go.Value renaming slice→zah,ownBlock→zaj
open _root_.Int renaming toNat_natCast→zal,le_refl→zaE,not_lt→zaI
open _root_.Bool renaming and_eq_true→zan,false_eq_true→zaH,or_eq_false_iff→zaO,eq_false_iff→zaQ,or_eq_true→zaT,false_or→zaW
open Go.World renaming frozen?_setCell→zas,cell?_of_block→zau,frozen?_of_block→zaN
theorem qCZ {v x y:Int} {e:EdD} (hx: -3≤x∧x≤3):mt v x e=some y↔(0<x∧e.2.1=x∧e.1=v∧e.2.2=y)∨(x<0∧e.2.1= -x∧e.2.2=v∧e.1=y):=by
 have hw:wrap64 (-x)= -x:=IntWalk.wrap64_in _ ⟨tO,tO⟩;unfold mt;rw[hw];constructor
 ·intro h;split at h
  ·split at h
   ·rename_i p q;injection h with h;exact .inl ⟨p,q.1,q.2,h⟩
   ·cases h
  ·split at h
   ·split at h
    ·rename_i p q;injection h with h;exact .inr ⟨p,q.1,q.2,h⟩
    ·cases h
   ·cases h
 ·rintro(⟨p,q,r,s⟩ | ⟨p,q,r,s⟩)
  ·rw[if_pos p,if_pos ⟨q,r⟩,s]
  ·rw[if_neg tO,if_pos p,if_pos ⟨q,r⟩,s]
theorem qCN {g:GrD} (hg:grB g=true) (hf:Fol g.2.2) {v x y:Int} (hx: -3≤x∧x≤3) (hy:0≤y):qF g.2.2 v x=y↔(0<x∧(v,x,y)∈g.2.2)∨(x<0∧(y,-x,v)∈g.2.2):=by
 constructor
 ·intro h;obtain⟨e,he,hm⟩:=qBb (by omega:0≤qF g.2.2 v x);rw[h] at hm;rcases(qCZ hx).1 hm with ⟨p,q,r,s⟩ | ⟨p,q,r,s⟩
  ·left
   obtain⟨a,l,b⟩:=e;simp only at q r s
   subst q r s;exact⟨p,he⟩
  ·right
   obtain⟨a,l,b⟩:=e;simp only at q r s
   subst q r s;exact⟨p,he⟩
 ·rintro(⟨p,h⟩ | ⟨p,h⟩)
  ·exact qFr hf h ((qCZ hx).2 (.inl ⟨p,rfl,rfl,rfl⟩))
  ·exact qFr hf h ((qCZ hx).2 (.inr ⟨p,rfl,rfl,rfl⟩))
theorem qBW {g:GrD} (hg:grB g=true) {v x:Int} (hx: -3≤x∧x≤3) (h:0≤qF g.2.2 v x):x∈qG g.1.toNat:=by
 obtain⟨e,he,hm⟩:=qBb h;have hl:=(qI hg he).2.1;rw[qX];rcases(qCZ hx).1 hm with ⟨p,q,_⟩ | ⟨p,q,_⟩<;>omega
def ov (o:List Int) (i:Int):Int:=o.getD i.toNat (-1)
theorem qEL {o:List Int} (hd:o.Nodup): ∀(k:Nat) (hk:k<o.length),plv o o[k]=(k:Int)+1:=by
 induction o with
 | nil=>intro k hk;cases hk
 | cons u o ih=>
   rw[List.nodup_cons] at hd;intro k hk;cases k with
   | zero=>simp[plv]
   | succ k=>
     have Ct:k<o.length:=by simpa using hk
     have ai:u≠o[k]:=fun e=>hd.1 (e▸zay Ct);have:=ih hd.2 k Ct
     simp only[List.getElem_cons_succ];unfold plv;rw[if_neg ai,if_neg tO,this];omega
theorem qIE {o:List Int} {k:Nat} (hk:k<o.length):ov o k=o[k]:=by
 unfold ov;rw[zal];simp[hk]
theorem qFS {o:List Int} (hd:o.Nodup) {i:Int} (h0:0≤i) (h1:i<o.length):plv o (ov o i)=i+1:=by
 obtain⟨k,rfl⟩: ∃k:Nat,i=(k:Int):=⟨i.toNat,tO⟩;rw[qIE tO,qEL hd k tO]
theorem qDH {o:List Int} {i:Int} (h0:0≤i) (h1:i<o.length):ov o i∈o:=by
 obtain⟨k,rfl⟩: ∃k:Nat,i=(k:Int):=⟨i.toNat,tO⟩;rw[qIE tO];exact zay _
theorem qFL {o:List Int} (hd:o.Nodup) {v:Int} (h:v∈o):ov o (plv o v-1)=v:=by
 obtain⟨k,hk,rfl⟩:=zam h;rw[qEL hd k hk,show(k:Int)+1-1=k by omega,qIE hk]
theorem qCC {o:List Int} {v:Int} (h:v∈o):0<plv o v:=by
 have:=qAe o v
 have h0:plv o v≠0:=fun e=>qCy.1 e h;omega
theorem qNz {g:GrD} {o:List Int} {e:EdD}:e∈(rnG g o).2.2↔ ∃a∈g.2.2,rnE o a=some e:=by
 show e∈srt cmpE (rnL g.2.2 o)↔_
 rw[(qAu qAD _).2];unfold rnL;rw[zaz]
theorem qMY {o:List Int} (hd:o.Nodup) {a e:EdD} (h1:0≤e.1∧e.1<o.length) (h2:0≤e.2.2∧e.2.2<o.length):rnE o a=some e↔a=(ov o e.1,e.2.1,ov o e.2.2):=by
 unfold rnE;constructor
 ·intro h;split at h
  ·rename_i p
   injection h with h
   subst h;simp only
   have m1:a.1∈o:=zab fun hn=>by have:=qCy.2 hn;omega
   have m2:a.2.2∈o:=zab fun hn=>by have:=qCy.2 hn;omega
   rw[qFL hd m1,qFL hd m2]
  ·cases h
 ·rintro rfl;simp only
  rw[qFS hd h1.1 h1.2,qFS hd h2.1 h2.2,if_pos ⟨tO,tO⟩];congr 1
  obtain⟨x,l,y⟩:=e;simp only
  rw[show x+1-1=x by omega,show y+1-1=y by omega]
theorem qHV {g:GrD} {o:List Int} (hd:o.Nodup) {e:EdD} (h1:0≤e.1∧e.1<o.length) (h2:0≤e.2.2∧e.2.2<o.length):e∈(rnG g o).2.2↔(ov o e.1,e.2.1,ov o e.2.2)∈g.2.2:=by
 rw[qNz];constructor
 ·rintro⟨a,ha,hr⟩
  rw[(qMY hd h1 h2).1 hr] at ha;exact ha
 ·intro h;exact⟨_,h,(qMY hd h1 h2).2 rfl⟩
theorem qGW {g:GrD} {o:List Int} (hf:qb g=true) (ho:OrdN g.2.1 o) {i x:Int} (h0:0≤i) (h1:i<o.length) (hx: -3≤x∧x≤3):
  qF (rnG g o).2.2 i x=if 0≤qF g.2.2 (ov o i) x then plv o (qF g.2.2 (ov o i) x)-1 else-1:=by
 obtain⟨hg,aO⟩:=qE hf;obtain⟨mf,oQ⟩:=qE (qBY hf ho);have fwd: ∀j:Int,0≤j→j<o.length→(qF (rnG g o).2.2 i x=j↔qF g.2.2 (ov o i) x=ov o j):=fun j j0 j1=>by
  have wL:=(ho.2.1 _ (qDH j0 j1)).1;rw[qCN mf oQ hx j0,qCN hg aO hx wL,qHV ho.1 (e:=(i,x,j)) ⟨h0,h1⟩ ⟨j0,j1⟩,qHV ho.1 (e:=(j,-x,i)) ⟨j0,j1⟩ ⟨h0,h1⟩]
 by_cases hy:0≤qF g.2.2 (ov o i) x
 ·rw[if_pos hy];by_cases hm:qF g.2.2 (ov o i) x∈o
  ·have hp:=qCC hm;have hr:=qAe o (qF g.2.2 (ov o i) x);exact(fwd _ tO tO).2 (qFL ho.1 hm).symm
  ·rw[qCy.2 hm];rcases qO mf i x with h | h
   ·rw[h];rfl
   ·have:=(fwd _ h.1 h.2).1 rfl
    rw[this] at hm;exact absurd (qDH h.1 h.2) hm
 ·rw[if_neg hy];rcases qO mf i x with h | h
  ·exact h
  ·have:=(fwd _ h.1 h.2).1 rfl
   have h2:=(ho.2.1 _ (qDH h.1 h.2)).1;omega
theorem qAz {es:List EdD} {u v x:Int} (hx: -3≤x∧x≤3) (h:Conn es u v) (hn:0≤qF es v x):Conn es u (qF es v x):=by
 obtain⟨e,he,hm⟩:=qBb hn;rcases(qCZ hx).1 hm with ⟨_,_,r,s⟩ | ⟨_,_,r,s⟩
 ·rw[←s];exact .fwd e he (r▸h)
 ·rw[←s];exact .back e he (r▸h)
structure Sub (x g:GrD) (s:Int→Int):Prop where
 rk:x.1=g.1
 rng: ∀i,0≤i→i<x.2.1→0≤s i∧s i<g.2.1
 cn:Conn g.2.2 0 (s 0)
 fw: ∀i l,0≤i→i<x.2.1→ -3≤l∧l≤3→0≤qF x.2.2 i l→qF g.2.2 (s i) l=s (qF x.2.2 i l)
 lp: ∀i w,0≤i→i<x.2.1→Conn x.2.2 0 i→(∀l∈w,-3≤l∧l≤3)→NoB w→qY g.2.2 (s i) w=s i→qY x.2.2 i w=i
theorem Sub.walk {x g:GrD} {s:Int→Int} (h:Sub x g s) (hx:grB x=true): ∀(w:List Int) (i:Int),0≤i→i<x.2.1→(∀l∈w,-3≤l∧l≤3)→0≤qY x.2.2 i w→qY g.2.2 (s i) w=s (qY x.2.2 i w)
 | [],_,_,_,_,_=>rfl
 | l::w,i,h0,h1,hl,hw=>by
   rw[qS] at hw⊢;split at hw
   ·exact absurd hw (by decide)
   ·rename_i hn
    have dM:=hl l (by simp);have hf:=h.fw i l h0 h1 dM tO;rcases qO hx i l with e | ⟨e1,e2⟩
    ·omega
    ·have hr:=h.rng _ e1 e2;rw[hf,if_neg tO];conv=>rhs;rw[qS,if_neg hn]
     exact h.walk hx w _ e1 e2 (fun l wV=>hl l (by simp[wV])) hw
theorem Sub.conn {x g:GrD} {s:Int→Int} (h:Sub x g s) (hx:grB x=true) (wK:Fol x.2.2) (hg:grB g=true) {i:Int} (hc:Conn x.2.2 0 i):(0≤i∧i<x.2.1)∧Conn g.2.2 0 (s i):=by
 have hs:=(qB hx).2.1;have key: ∀e∈x.2.2,(Conn g.2.2 0 (s e.1)↔Conn g.2.2 0 (s e.2.2)):=fun e he=>by
  have hr:=qI hx he;have h3:=(qB hx).1;have hl: -3≤e.2.1∧e.2.1≤3:=tO;have n1:=qt hx wK he;have n2:=qAt hx wK he;have f1:=h.fw e.1 e.2.1 hr.1.1 hr.1.2 hl (by rw[n1];exact hr.2.2.1);have f2:=h.fw e.2.2 (-e.2.1) hr.2.2.1 hr.2.2.2 tO (by rw[n2];exact hr.1.1);rw[n1] at f1;rw[n2] at f2;constructor
  ·intro c;have:=qAz hl c (by rw[f1];exact(h.rng _ hr.2.2.1 hr.2.2.2).1)
   rwa [f1] at this
  ·intro c;have:=qAz (x:= -e.2.1) tO c (by rw[f2];exact(h.rng _ hr.1.1 hr.1.2).1)
   rwa [f2] at this
 refine qAL (S:=fun i=>(0≤i∧i<x.2.1)∧Conn g.2.2 0 (s i)) ⟨tO,h.cn⟩ (fun e he=> ?_) hc;have hr:=qI hx he;have:=key e he
 constructor
 ·rintro⟨_,c⟩;exact⟨hr.2.2,this.1 c⟩
 ·rintro⟨_,c⟩;exact⟨hr.1,this.2 c⟩
theorem Sub.refl {g:GrD}:Sub g g id where
 rk:=rfl
 rng:=fun _ h0 h1=>⟨h0,h1⟩
 cn:= .base
 fw:=fun _ _ _ _ _ _=>rfl
 lp:=fun _ _ _ _ _ _ _ h=>h
theorem Sub.trans {x y g:GrD} {s t:Int→Int} (h:Sub x y s) (k:Sub y g t) (hx:grB x=true) (wK:Fol x.2.2) (hy:grB y=true) (hfy:Fol y.2.2) (hg:grB g=true):Sub x g (fun i=>t (s i)) where
 rk:=h.rk.trans k.rk
 rng:=fun i h0 h1=>by have:=h.rng i h0 h1;exact k.rng _ this.1 this.2
 cn:=(k.conn hy hfy hg h.cn).2
 fw:=fun i l h0 h1 hl hn=>by
  have hr:=h.rng i h0 h1;have f:=h.fw i l h0 h1 hl hn;rw[←f];refine k.fw _ l hr.1 hr.2 hl ?_;rw[f];rcases qO hx i l with e | ⟨e1,e2⟩
  ·omega
  ·exact(h.rng _ e1 e2).1
 lp:=fun i w h0 h1 hc hl hn hw=>by
  have hr:=h.rng i h0 h1;exact h.lp i w h0 h1 hc hl hn (k.lp (s i) w hr.1 hr.2 (h.conn hx wK hy hc).2 hl hn hw)
theorem NoB.tail {a:Int} {l:List Int} (h:NoB (a::l)):NoB l:=by
 cases l with
 | nil=>trivial
 | cons b l=>exact h.2
theorem Sub.rn {g:GrD} {o:List Int} (hf:qb g=true) (ho:OrdN g.2.1 o) (h0:Conn g.2.2 0 (ov o 0))
  (H: ∀v∈o,Conn g.2.2 0 v→ ∀l w,-3≤l∧l≤3→(∀x∈w,-3≤x∧x≤3)→NoB (l::w)→0≤qF g.2.2 v l→qF g.2.2 v l∉o→qY g.2.2 (qF g.2.2 v l) w∉o):Sub (rnG g o) g (ov o):=by
 obtain⟨hg,aO⟩:=qE hf;obtain⟨mf,oQ⟩:=qE (qBY hf ho);have rngs: ∀i,0≤i→i<(rnG g o).2.1→0≤ov o i∧ov o i<g.2.1:=fun i a b=>ho.2.1 _ (qDH a b);have fws: ∀i l,0≤i→i<(rnG g o).2.1→ -3≤l∧l≤3→0≤qF (rnG g o).2.2 i l→qF g.2.2 (ov o i) l=ov o (qF (rnG g o).2.2 i l):=fun i l a b hl hn=>by
  have e:=qGW hf ho a b hl;split at e
  ·rename_i hp
   rw[e] at hn⊢;refine(qFL ho.1 (zab fun hm=> ?_)).symm
   have:=qCy.2 hm
   omega
  ·omega
 have walks: ∀(w:List Int) (v:Int),v∈o→Conn g.2.2 0 v→(∀l∈w,-3≤l∧l≤3)→NoB w→qY g.2.2 v w∈o→qY (rnG g o).2.2 (plv o v-1) w=plv o (qY g.2.2 v w)-1:=by
  intro w;induction w with
  | nil=>intro v _ _ _ _ _;rfl
  | cons l w ih=>
    intro v hv hc hl hn hw;have dM:=hl l (by simp);have mi: ∀x∈w,-3≤x∧x≤3:=fun x hx=>hl x (by simp[hx]);rw[qS] at hw;split at hw
    ·have:=(ho.2.1 _ hw).1;omega
    ·rename_i Cq
     have hm:qF g.2.2 v l∈o:=zab fun hm=>H v hv hc l w dM mi hn tO hm hw;have hp:=qCC hv;have hr:=qAe o v;have vM:=qCC hm;have e:=qGW hf ho (i:=plv o v-1) (x:=l) tO tO dM;rw[qFL ho.1 hv,if_pos tO] at e;rw[qS,qS,e,if_neg tO,if_neg Cq];exact ih _ hm (qAz dM hc tO) mi hn.tail hw
 exact⟨rfl,rngs,h0,fws,fun i w a b hc hl hn hw=>by
  have MK:Conn g.2.2 0 (ov o i):=by
   have key: ∀e∈(rnG g o).2.2,(Conn g.2.2 0 (ov o e.1)↔Conn g.2.2 0 (ov o e.2.2)):=fun e he=>by
    have hr:=qI mf he;have h3:=(qB mf).1;have hl: -3≤e.2.1∧e.2.1≤3:=tO;have n1:=qt mf oQ he;have n2:=qAt mf oQ he;have f1:=fws e.1 e.2.1 hr.1.1 hr.1.2 hl (by rw[n1];exact hr.2.2.1);have f2:=fws e.2.2 (-e.2.1) hr.2.2.1 hr.2.2.2 tO (by rw[n2];exact hr.1.1);rw[n1] at f1;rw[n2] at f2;constructor
    ·intro c;have:=qAz hl c (by rw[f1];exact(rngs _ hr.2.2.1 hr.2.2.2).1)
     rwa [f1] at this
    ·intro c;have:=qAz (x:= -e.2.1) tO c (by rw[f2];exact(rngs _ hr.1.1 hr.1.2).1)
     rwa [f2] at this
   exact qAL (S:=fun i=>Conn g.2.2 0 (ov o i)) h0 key hc
  have no:=qDH a b;have:=walks w (ov o i) no MK hl hn (by rw[hw];exact no)
  rw[hw,qFS ho.1 a b] at this;rw[show i+1-1=i by omega] at this;exact this⟩
theorem qKL {v x y:Int} {e:EdD} (hx: -3≤x∧x≤3) (h:mt v x e=some y):1≤degE v e:=by
 unfold degE;rcases(qCZ hx).1 h with ⟨_,_,r,_⟩ | ⟨_,_,r,_⟩
 ·rw[if_pos r];omega
 ·rw[if_pos r];omega
theorem qIA (e:EdD) (es:List EdD) (v:Int):degL (e::es) v=degE v e+degL es v:=by simp[degL]
theorem qEg {v:Int} {e:EdD}: ∀ {es:List EdD},e∈es→degE v e≤degL es v
 | a::es,h=>by
   rw[qIA];rcases zar.1 h with rfl | h
   ·omega
   ·have:=qEg (v:=v) h;omega
theorem qHa {v:Int} {e1 e2:EdD} (ai:e1≠e2): ∀ {es:List EdD},e1∈es→e2∈es→degE v e1+degE v e2≤degL es v
 | a::es,h1,h2=>by
   rw[qIA];rcases zar.1 h1 with r1 | h1
   ·rcases zar.1 h2 with r2 | h2
    ·exact absurd (r1.trans r2.symm) ai
    ·have:=qEg (v:=v) h2
     rw[r1];omega
   ·rcases zar.1 h2 with r2 | h2
    ·have:=qEg (v:=v) h1
     rw[r2];omega
    ·have:=qHa (v:=v) ai h1 h2;omega
theorem qDA {es:List EdD} {v l m:Int} (hl: -3≤l∧l≤3) (hm: -3≤m∧m≤3) (hd:degL es v≤1) (h1:0≤qF es v l) (h2:0≤qF es v m):l=m:=by
 obtain⟨e1,jg,m1⟩:=qBb h1;obtain⟨e2,mU,m2⟩:=qBb h2;have p1:=qKL hl m1;have p2:=qKL hm m2;by_cases he:e1=e2
 ·subst he;have jG:=qEg (v:=v) jg;unfold degE at jG;rcases(qCZ hl).1 m1 with ⟨a1,a2,a3,a4⟩ | ⟨a1,a2,a3,a4⟩<;>rcases(qCZ hm).1 m2 with ⟨b1,b2,b3,b4⟩ | ⟨b1,b2,b3,b4⟩
  ·omega
  ·rw[if_pos a3,if_pos b3] at jG;omega
  ·rw[if_pos a3,if_pos b3] at jG;omega
  ·omega
 ·have:=qHa (v:=v) he jg mU
  omega
theorem qBM (es:List EdD) (n:Nat): ∀f v:Nat,0≤qAM es n f v→qDM es (qAM es n f v).toNat=true
 | 0,v,h=>by unfold qAM at h;exact absurd h (by decide)
 | f+1,v,h=>by
   unfold qAM at h⊢;split
   ·rename_i hv
    rw[if_pos hv] at h;split
    ·rename_i hb;simpa using hb
    ·rename_i hb
     rw[if_neg hb] at h;exact qBM es n f (v+1) h
   ·rename_i hv
    rw[if_neg hv] at h;exact absurd h (by decide)
theorem Sub.leaf {g:GrD} (hf:qb g=true) (hl:0≤qk g.2.2 g.2.1.toNat):Sub (rnG g (delO g.2.1.toNat (qk g.2.2 g.2.1.toNat))) g (ov (delO g.2.1.toNat (qk g.2.2 g.2.1.toNat)))∧ov (delO g.2.1.toNat (qk g.2.2 g.2.1.toNat)) 0=0:=by
 obtain⟨hg,aO⟩:=qE hf;have aq:=(qB hg).2.1;have hr:=qAQ g.2.2 g.2.1.toNat;have gE:=qBM g.2.2 g.2.1.toNat _ _ hl;change qDM g.2.2 (qk g.2.2 g.2.1.toNat).toNat=true at gE;generalize qk g.2.2 g.2.1.toNat=u at*;have af:=qCS (n:=g.2.1.toNat) (x:=u) tO tO;rw[show((g.2.1.toNat:Nat):Int)=g.2.1 by omega] at af;have hz:ov (delO g.2.1.toNat u) 0=0:=by
  have:=af.2.2
  unfold ov;simp[List.getD,this]
 refine⟨Sub.rn hf af.toN (by rw[hz];exact .base) ?_,hz⟩;intro v hv hc l w dT mi hn h0 hm;have Hv:qF g.2.2 v l=u:=zab fun ai=>by
  rcases qO hg v l with e | ⟨e1,e2⟩
  ·omega
  ·exact hm (qAp.2 ⟨⟨e1,tO⟩,ai⟩)
 have lQ:=qAz dT hc h0;rw[Hv] at lQ hm⊢;have hd:degL g.2.2 u<2:=by
  unfold qDM at gE;rw[show((u.toNat:Nat):Int)=u by omega,zaT,decide_eq_true_eq] at gE;rcases gE with h | h
  ·exact h
  ·rw[qAS.2 ((qBp _ _ _).2 lQ)] at h;cases h
 cases w with
 | nil=>exact hm
 | cons m w=>
   have cV:=mi m (by simp);rw[qS];by_cases hnm:qF g.2.2 u m<0
   ·rw[if_pos hnm];intro q;have:=(qAp.1 q).1
    omega
   ·have hb:=qAA hg aO dT h0;rw[Hv] at hb;have lP:=(af.2.1 v hv).1;have:=qDA cV (m:= -l) tO (by omega:degL g.2.2 u≤1) tO (by rw[hb];exact lP)
    exact absurd this hn.1
theorem Sub.trimF: ∀(f:Nat) (g:GrD) (l:List Int),qb g=true→ ∃s,Sub (trimF f g l).1 g s∧s 0=0
 | 0,g,l,_=>⟨id,Sub.refl,rfl⟩
 | f+1,g,l,hf=>by
   unfold Go.Proofs.YtnjpoljbagfdnaaGreat.trimF;split
   ·exact⟨id,Sub.refl,rfl⟩
   ·rename_i hn
    obtain⟨hg,aO⟩:=qE hf;obtain⟨s1,z1⟩:=Sub.leaf hf tO;have aq:=(qB hg).2.1;have hr:=qAQ g.2.2 g.2.1.toNat;have af:=qCS (n:=g.2.1.toNat) (x:=qk g.2.2 g.2.1.toNat) tO tO;rw[show((g.2.1.toNat:Nat):Int)=g.2.1 by omega] at af;have a7:=qDa hf af;obtain⟨s,hs,hz⟩:=Sub.trimF f _ (l.take (qk g.2.2 g.2.1.toNat).toNat++l.drop ((qk g.2.2 g.2.1.toNat).toNat+1)) a7;obtain⟨ga,fa⟩:=qE a7;obtain⟨gb,fb⟩:=qE (qDv f _ (l.take (qk g.2.2 g.2.1.toNat).toNat++l.drop ((qk g.2.2 g.2.1.toNat).toNat+1)) a7);exact⟨_,hs.trans s1 gb fb ga fa hg,by rw[hz,z1]⟩
theorem qLw (es:List EdD):qk es 1= -1:=rfl
theorem qFJ: ∀(f:Nat) (g:GrD) (l:List Int),qb g=true→g.2.1≤f+1→qk (Go.Proofs.YtnjpoljbagfdnaaGreat.trimF f g l).1.2.2 (Go.Proofs.YtnjpoljbagfdnaaGreat.trimF f g l).1.2.1.toNat<0
 | 0,g,l,hf,h=>by
   have aq:=(qB (qE hf).1).2.1;have e:g.2.1.toNat=1:=tO;show qk g.2.2 g.2.1.toNat<0
   rw[e,qLw];decide
 | f+1,g,l,hf,h=>by
   unfold Go.Proofs.YtnjpoljbagfdnaaGreat.trimF;split
   ·rename_i hn;exact hn
   ·rename_i hn
    have aq:=(qB (qE hf).1).2.1;have hr:=qAQ g.2.2 g.2.1.toNat;have af:=qCS (n:=g.2.1.toNat) (x:=qk g.2.2 g.2.1.toNat) tO tO;rw[show((g.2.1.toNat:Nat):Int)=g.2.1 by omega] at af;refine qFJ f _ _ (qDa hf af) ?_;rw[qEY,qBK,if_pos tO];omega
theorem qIn {g:GrD} (hf:qb g=true):qk (qBT g).1.2.2 (qBT g).1.2.1.toNat<0:=by
 have aq:=(qB (qE hf).1).2.1;exact qFJ _ _ _ hf tO
theorem qLP (es:List EdD) (u:Int) (o:List Int) (x:Int) {y:Int} (h:y∈o):y∈qW es u o x:=by
 unfold qW;split
 ·split
  ·exact h
  ·exact zaq.2 (.inl h)
 ·exact h
theorem qGc (es:List EdD) (u:Int): ∀(ls:List Int) (o:List Int) {y:Int},y∈o→y∈ls.foldl (qW es u) o
 | [],_,_,h=>h
 | x::ls,o,_,h=>qGc es u ls _ (qLP es u o x h)
theorem qIi (es:List EdD) (u:Int): ∀(ls:List Int) (o:List Int) (x:Int),x∈ls→0≤qF es u x→qF es u x∈ls.foldl (qW es u) o
 | a::ls,o,x,hx,h=>by
   rw[zaL];rcases zar.1 hx with rfl | hx
   ·refine qGc es u ls _ ?_;unfold qW;rw[if_pos h];split
    ·rename_i hb;exact qAS.1 hb
    ·exact zaq.2 (.inr (by simp))
   ·exact qIi es u ls _ x hx h
theorem qGY {g:GrD} (hg:grB g=true) (ls:List Int): ∀(f i:Nat) (o:List Int),qAB g.2.1 o→41≤f+i→
  (∀(j:Nat) (v:Int),j<i→o[j]? =some v→ ∀x∈ls,0≤qF g.2.2 v x→qF g.2.2 v x∈o)→
  ∀v∈canF g.2.2 ls f i o,∀x∈ls,0≤qF g.2.2 v x→qF g.2.2 v x∈canF g.2.2 ls f i o
 | 0,i,o,af,hi,hc=>by
   have hl:=af.len (qB hg).2.1.2 (by have:=(qB hg).2.1.1;omega);intro v hv x hx h0;obtain⟨j,hj,rfl⟩:=zam hv;exact hc j _ (by have:(canF g.2.2 ls 0 i o).length=o.length:=rfl;omega) (zaa hj) x hx h0
 | f+1,i,o,af,hi,hc=>by
   have hl:=af.len (qB hg).2.1.2 (by have:=(qB hg).2.1.1;omega);by_cases fE:i<o.length
   ·rw[qBd _ _ _ _ _ fE];refine qGY hg ls f (i+1) _ (qHW hg ls af) tO ?_;intro j v hj hv x hx h0;by_cases xa:j<i
    ·have zg:j<o.length:=tO;have e:=qr g.2.2 o[i] ls o j _ (zaa zg);rw[hv] at e;injection e with e
     subst e;exact qGc _ _ _ _ (hc j _ xa (zaa zg) x hx h0)
    ·obtain rfl:j=i:=tO
     have e:=qr g.2.2 o[j] ls o j _ (zaa fE);rw[hv] at e;injection e with e
     subst e;exact qIi _ _ _ _ _ hx h0
   ·have e:canF g.2.2 ls (f+1) i o=o:=by
     rw[canF,List.getElem?_eq_none tO]
    rw[e];intro v hv x hx h0;obtain⟨j,hj,rfl⟩:=zam hv;exact hc j _ tO (zaa hj) x hx h0
theorem qAX {g:GrD} (hg:grB g=true) {v x:Int} (hv:v∈canO g) (hx: -3≤x∧x≤3) (h0:0≤qF g.2.2 v x):qF g.2.2 v x∈canO g:=
 qGY hg _ 41 0 [0] (qAB.one (qB hg).2.1.1) tO (fun j _ hj=>tO) v hv x (qBW hg hx h0) h0
theorem qMl {g:GrD} (hf:qb g=true) {v:Int} (h:Conn g.2.2 0 v):v∈canO g:=by
 obtain⟨hg,aO⟩:=qE hf;refine qAL (S:=fun v=>v∈canO g) (zac (qc hg).2.2) (fun e he=> ?_) h;have hr:=qI hg he;have h3:=(qB hg).1;have n1:=qt hg aO he;have n2:=qAt hg aO he;constructor
 ·intro c;have:=qAX hg c (x:=e.2.1) tO (by rw[n1];exact hr.2.2.1)
  rwa [n1] at this
 ·intro c;have:=qAX hg c (x:= -e.2.1) tO (by rw[n2];exact hr.1.1)
  rwa [n2] at this
theorem qJR {n:Int} {o:List Int} (h:qAB n o):ov o 0=0:=by
 have:=h.2.2
 unfold ov;simp[List.getD,this]
theorem Sub.can {g:GrD} (hf:qb g=true):Sub (canG g) g (ov (canO g)):=by
 obtain⟨hg,aO⟩:=qE hf;have af:=qc hg;refine Sub.rn hf af.toN (by rw[qJR af];exact .base) ?_;intro v hv hc l w hl mi hn h0 hm;exact absurd (qAX hg hv hl h0) hm
theorem qKe {es:List EdD} (h:Fol es):foL es= []:=by
 cases e:foL es with
 | nil=>rfl
 | cons f l=>
   obtain⟨i,k,hi,hk,hf⟩:=qKa (show f∈foL es by rw[e];simp);have hc:=List.pairwise_iff_getElem.1 h i k tO hk hi;unfold qBN at hc;unfold fo2 at hf;rw[zaQ] at hc;rcases zaq.1 hf with hf | hf
   ·split at hf
    ·rename_i q
     exact absurd (by simp[q.1,q.2]) hc
    ·cases hf
   ·split at hf
    ·rename_i q
     exact absurd (by simp[q.1,q.2]) hc
    ·cases hf
theorem qFj {g:GrD} (hf:qb g=true):folA g=g:=qHh (qKe (qE hf).2) _
theorem qBn {g:GrD} (hf:qb g=true):qb (canG g)=true:=qDa hf (qc (qE hf).1)
theorem Sub.core {g:GrD} (hf:qb g=true): ∃s,Sub (qAj g) g s∧s 0=0:=by
 obtain⟨hg,aO⟩:=qE hf;unfold qAj;rw[qFj hf];obtain⟨s,hs,hz⟩:=Sub.trimF g.2.1.toNat g ((List.range g.2.1.toNat).map fun v=>((v:Nat):Int)) hf;have ht:=qCW hf;obtain⟨ga,fa⟩:=qE ht;obtain⟨gb,fb⟩:=qE (qBn ht);exact⟨_,(Sub.can ht).trans hs gb fb ga fa hg,by rw[qJR (qc ga),hz]⟩
theorem qJl {g h:GrD} {o:List Int} {f:Int→Int} {ls:List Int} (pV: ∀u∈o,∀v∈o,f u=f v→u=v)
  (hst: ∀u∈o,∀x∈ls,(0≤qF g.2.2 u x→qF g.2.2 u x∈o∧qF h.2.2 (f u) x=f (qF g.2.2 u x)∧0≤f (qF g.2.2 u x))∧(qF g.2.2 u x<0→qF h.2.2 (f u) x<0)):
  ∀(n i:Nat) (o1:List Int),(∀y∈o1,y∈o)→canF h.2.2 ls n i (o1.map f)=(canF g.2.2 ls n i o1).map f:=by
 have GO: ∀(o1:List Int) (y:Int),(∀z∈o1,z∈o)→y∈o→hasB (o1.map f) (f y)=hasB o1 y:=fun o1 y ho hy=>by
  rw[Bool.eq_iff_iff,qAS,qAS,zaG];constructor
  ·rintro⟨z,hz,e⟩
   rw[←pV z (ho z hz) y hy e];exact hz
  ·intro h;exact⟨y,h,rfl⟩
 have step: ∀(o1:List Int) (u x:Int),(∀z∈o1,z∈o)→u∈o→x∈ls→qW h.2.2 (f u) (o1.map f) x=(qW g.2.2 u o1 x).map f∧ ∀z∈qW g.2.2 u o1 x,z∈o:=fun o1 u x ho hu hx=>by
  have hs:=hst u hu x hx;unfold qW;by_cases h0:0≤qF g.2.2 u x
  ·obtain⟨a,b,c⟩:=hs.1 h0;rw[if_pos h0,b,if_pos c,GO o1 _ ho a];by_cases hb:hasB o1 (qF g.2.2 u x)=true
   ·rw[if_pos hb,if_pos hb];exact⟨rfl,ho⟩
   ·rw[if_neg hb,if_neg hb];refine⟨by simp,fun z hz=> ?_⟩;rcases zaq.1 hz with hz | hz
    ·exact ho z hz
    ·rw[zap.1 hz];exact a
  ·have:=hs.2 tO
   rw[if_neg h0,if_neg tO];exact⟨rfl,ho⟩
 have fold: ∀(l2:List Int) (o1:List Int) (u:Int),(∀x∈l2,x∈ls)→(∀z∈o1,z∈o)→u∈o→l2.foldl (qW h.2.2 (f u)) (o1.map f)=(l2.foldl (qW g.2.2 u) o1).map f∧ ∀z∈l2.foldl (qW g.2.2 u) o1,z∈o:=by
  intro l2;induction l2 with
  | nil=>intro o1 u _ ho _;exact⟨rfl,ho⟩
  | cons x l2 ih=>
    intro o1 u hl ho hu;have:=step o1 u x ho hu (hl x (by simp))
    rw[zaL,zaL,this.1];exact ih _ u (fun y hy=>hl y (by simp[hy])) this.2 hu
 intro n;induction n with
 | zero=>intro i o1 _;rfl
 | succ n ih=>
   intro i o1 ho;rw[canF,canF,List.getElem?_map];cases hi:o1[i]? with
   | none=>rfl
   | some u=>
     simp only[Option.map_some];have:=fold ls o1 u (fun _ h=>h) ho (ho u (zac hi))
     rw[this.1];exact ih _ _ this.2
theorem qLY {n k:Nat} (h:k<(rng n).length):(rng n)[k]=(k:Int):=by simp[rng]
theorem qIZ (n:Nat):(rng n).Nodup:=by
 unfold rng List.Nodup;rw[zaR];exact(List.nodup_range (n:=n)).imp fun fI e=>fI tO
theorem qMb {n:Nat} {v:Int} (h:0≤v∧v<n):plv (rng n) v=v+1:=by
 obtain⟨k,rfl⟩: ∃k:Nat,v=(k:Int):=⟨v.toNat,tO⟩;have hk:k<(rng n).length:=by rw[qGM];omega
 have:=qEL (qIZ n) k hk
 rwa [qLY hk] at this
theorem qOt {g:GrD} (hg:grB g=true):rnG g (rng g.2.1.toNat)=g:=by
 have hs:=(qB hg).2.1;have hL:rnL g.2.2 (rng g.2.1.toNat)=g.2.2:=by
  unfold rnL;have: ∀e∈g.2.2,rnE (rng g.2.1.toNat) e=some e:=fun e he=>by
   have hr:=qI hg he;unfold rnE;rw[qMb ⟨hr.1.1,tO⟩,qMb ⟨hr.2.2.1,tO⟩,if_pos ⟨tO,tO⟩];obtain⟨a,l,b⟩:=e;simp only
   rw[show a+1-1=a by omega,show b+1-1=b by omega]
  generalize g.2.2=es at*;induction es with
  | nil=>rfl
  | cons e es ih=>
    rw[List.filterMap_cons,this e (by simp)];simp only
    rw[ih fun a ha=>this a (by simp[ha])]
 unfold rnG;rw[hL,←qKA qAD (qHH hg) (fun _=>Iff.rfl),qGM];obtain⟨a,b,c⟩:=g;simp only at hs⊢
 rw[show((b.toNat:Nat):Int)=b by omega]
theorem qMZ {h:GrD} (hf:qb h=true) (hl:qk h.2.2 h.2.1.toNat<0):qR (canG h)=true:=by
 obtain⟨hg,aO⟩:=qE hf;have Iv:=qBn hf;obtain⟨mf,oQ⟩:=qE Iv;have af:=qc hg;have aq:=(qB hg).2.1;have ve:=(qB mf).2.1;have next: ∀u∈canO h,∀x,-3≤x∧x≤3→(0≤qF h.2.2 u x→qF h.2.2 u x∈canO h∧qF (canG h).2.2 (plv (canO h) u-1) x=plv (canO h) (qF h.2.2 u x)-1∧0≤plv (canO h) (qF h.2.2 u x)-1)∧(qF h.2.2 u x<0→qF (canG h).2.2 (plv (canO h) u-1) x<0):=fun u hu x hx=>by
  have hp:=qCC hu;have hr:=qAe (canO h) u;have e:=qGW hf af.toN (i:=plv (canO h) u-1) (x:=x) tO tO hx;rw[qFL af.1 hu] at e;constructor
  ·intro h0;have hm:=qAX hg hu hx h0;have:=qCC hm
   rw[if_pos h0] at e;exact⟨hm,e,tO⟩
  ·intro h0;rw[if_neg tO] at e;show qF (rnG h (canO h)).2.2 _ x<0
   omega
 have nP:canO (canG h)=rng (canO h).length:=by
  have hm:=qJl (g:=h) (h:=canG h) (o:=canO h) (f:=fun u=>plv (canO h) u-1) (ls:=qG h.1.toNat) (fun u hu v hv e=>by
   have:=qCC hu
   exact qGH (o:=canO h) (by have e':plv (canO h) u-1=plv (canO h) v-1:=e;omega) tO) (fun u hu x hx=>next u hu x (let3 hg hx)) 41 0 [0] (fun y hy=>by
   rw[zap.1 hy];exact zac af.2.2)
  have e0:plv (canO h) 0-1=0:=by
   have h0:0<(canO h).length:=(zad.1 af.2.2).1;have:=qEL af.1 0 h0
   have h1:=(zad.1 af.2.2).2;rw[h1] at this;omega
  simp only[List.map_cons,List.map_nil,e0] at hm;show canF (canG h).2.2 (qG h.1.toNat) 41 0 [0]=_
  rw[hm];show(canO h).map (fun u=>plv (canO h) u-1)=_
  apply List.ext_getElem
  ·rw[zaU,qGM]
  ·intro k h1 h2;rw[List.getElem_map,qLY,qEL af.1 k (by simpa using h1)];omega
 have jz:canG (canG h)=canG h:=by
  have e:(canO h).length=(canG h).2.1.toNat:=by show _=((canO h).length:Int).toNat;omega
  show rnG (canG h) (canO (canG h))=_
  rw[nP,e,qOt mf]
 have oh:qk (canG h).2.2 (canG h).2.1.toNat<0:=by
  apply zab
  intro hn;have hb:=qBM (canG h).2.2 (canG h).2.1.toNat _ _ (by omega:0≤qk (canG h).2.2 (canG h).2.1.toNat);change qDM (canG h).2.2 (qk (canG h).2.2 (canG h).2.1.toNat).toNat=true at hb;have hr:=qAQ (canG h).2.2 (canG h).2.1.toNat;generalize qk (canG h).2.2 (canG h).2.1.toNat=u at*;have au:(canG h).2.1=((canO h).length:Int):=rfl;have fl:0≤u:=tO;have kc:u<((canO h).length:Int):=tO;have ln:=qDH fl kc;have DV:=qFS af.1 fl kc;have Mw:=af.2.1 _ ln;have Pv:ov (canO h) u≠0:=fun e=>by
   have h0:0<(canO h).length:=(zad.1 af.2.2).1;have:=qEL af.1 0 h0
   rw[(zad.1 af.2.2).2] at this;rw[e] at DV;omega
  have mn:=qEj h.2.2 h.2.1.toNat (h.2.1.toNat-1) 1 tO hl (ov (canO h) u).toNat tO tO;unfold qDM at mn hb;rw[show((u.toNat:Nat):Int)=u by omega] at hb;rw[show(((ov (canO h) u).toNat:Nat):Int)=ov (canO h) u by omega] at mn;simp only[zaO,decide_eq_false_iff_not,Bool.not_eq_false'] at mn;rw[zaT,decide_eq_true_eq] at hb;rcases hb with hb | hb
  ·--two letters at ov u
   obtain⟨l,m,dT,CV,ke,n1,n2⟩: ∃l m,(-3≤l∧l≤3)∧(-3≤m∧m≤3)∧l≠m∧0≤qF h.2.2 (ov (canO h) u) l∧0≤qF h.2.2 (ov (canO h) u) m:=by
    apply zab
    intro dE;have all: ∀l m,(-3≤l∧l≤3)→(-3≤m∧m≤3)→0≤qF h.2.2 (ov (canO h) u) l→0≤qF h.2.2 (ov (canO h) u) m→l=m:=fun l m a b c d=>zab fun e=>dE ⟨l,m,a,b,e,c,d⟩;have hd: ∀l0,(∀l,(-3≤l∧l≤3)→0≤qF h.2.2 (ov (canO h) u) l→l=l0)→degL h.2.2 (ov (canO h) u)≤1:=fun l0 dM=>qHQ (l0:=l0) aO (qAn hg) fun e he=>by
     have cZ:=qI hg he;have h3:=(qB hg).1;constructor
     ·intro e1;refine dM e.2.1 tO ?_;rw[←e1,qt hg aO he];exact cZ.2.2.1
     ·intro e1;refine dM (-e.2.1) tO ?_;rw[←e1,qAt hg aO he];exact cZ.1.1
    by_cases dA: ∃l,(-3≤l∧l≤3)∧0≤qF h.2.2 (ov (canO h) u) l
    ·obtain⟨l0,a,b⟩:=dA;have:=hd l0 fun l c d=>all l l0 c a d b
     omega
    ·have:=hd 0 fun l c d=>absurd ⟨l,c,d⟩ dA
     omega
   have t1:=(next _ ln l dT).1 n1;have t2:=(next _ ln m CV).1 n2;rw[DV,show u+1-1=u by omega] at t1 t2;exact ke (qDA (es:=(canG h).2.2) (v:=u) dT CV tO (by rw[t1.2.1];exact t1.2.2) (by rw[t2.2.1];exact t2.2.2))
  ·have hc:=(qBp _ _ _).1 (qAS.1 mn.2);have dg:(ov (canO h) u∈canO h∧Conn (canG h).2.2 0 (plv (canO h) (ov (canO h) u)-1)):=by
    have h0:0<(canO h).length:=(zad.1 af.2.2).1;have lz:=qEL af.1 0 h0;rw[(zad.1 af.2.2).2] at lz;refine qAL (S:=fun v=>v∈canO h∧Conn (canG h).2.2 0 (plv (canO h) v-1)) ⟨zac af.2.2,by rw[lz];exact .base⟩ (fun e he=> ?_) hc;have cZ:=qI hg he;have h3:=(qB hg).1;have p1:=qt hg aO he;have p2:=qAt hg aO he;constructor
    ·rintro⟨a,b⟩
     have t:=(next _ a e.2.1 tO).1 (by rw[p1];exact cZ.2.2.1);rw[p1] at t;refine⟨t.1,?_⟩;have:=qAz (x:=e.2.1) tO b (by rw[t.2.1];exact t.2.2)
     rwa [t.2.1] at this
    ·rintro⟨a,b⟩
     have t:=(next _ a (-e.2.1) tO).1 (by rw[p2];exact cZ.1.1);rw[p2] at t;refine⟨t.1,?_⟩;have:=qAz (x:= -e.2.1) tO b (by rw[t.2.1];exact t.2.2)
     rwa [t.2.1] at this
   rw[DV,show u+1-1=u by omega] at dg;rw[qAS.2 ((qBp _ _ _).2 dg.2)] at hb;cases hb
 unfold qR;rw[Iv,jz,decide_eq_true oh,decide_eq_true rfl];rfl
theorem qCq {g:GrD} (hg:grB g=true):qR (qAj g)=true:=by
 have h1:=qCW (qHb hg);exact qMZ h1 (qIn (qHb hg))
theorem qCs {a b:GrD} (h:qAG a b=true): ∀(w:List Int) (u:Int),(∀x∈w,-3≤x∧x≤3)→u∈canO a→0≤qY a.2.2 u w→qY b.2.2 (imgW a b u) w=imgW a b (qY a.2.2 u w):=by
 unfold qAG at h;simp only[zan,decide_eq_true_eq] at h;obtain⟨⟨⟨ha,hb⟩,hr⟩,H⟩:=h;have aL:=qZ ha;intro w;induction w with
 | nil=>intro u _ _ _;rfl
 | cons x w ih=>
   intro u hx hu hw;rw[qS] at hw⊢;split at hw
   ·exact absurd hw (by decide)
   ·rename_i hn
    have hs:=zae.1 (zae.1 H u hu) x (qBW (v:=u) aL (hx x (by simp)) (zaI.1 hn));unfold stB at hs;rw[decide_eq_false hn,zaW,zan,decide_eq_true_eq,decide_eq_true_eq] at hs;rw[if_neg tO];conv=>rhs;rw[qS,if_neg hn]
    rw[←hs.2];exact ih _ (fun y hy=>hx y (by simp[hy])) (qAX aL hu (hx x (by simp)) (zaI.1 hn)) hw
theorem qj {a b:GrD} (h:qAG a b=true):qR a=true∧qR b=true∧a.1=b.1:=by
 unfold qAG at h;simp only[zan,decide_eq_true_eq] at h;exact⟨h.1.1.1,h.1.1.2,h.1.2⟩
theorem qBB {a b:GrD} (ha:grB a=true):imgW a b 0=0:=by unfold imgW;rw[qBX ha];rfl
theorem qP {g:GrD} (h:qR g=true):qb g=true:=by
 unfold qR at h;simp only[zan] at h;exact h.1.1
theorem qHU {g:GrD} (hg:grB g=true) {e:EdD} (he:e∈g.2.2) (h1:e.1∈canO g) (h2:e.2.2∈canO g): ∀x∈basW g e,-3≤x∧x≤3:=fun y hy=>by
 unfold basW at hy;rcases zaq.1 hy with hy | hy
 ·rcases zaq.1 hy with hy | hy
  ·exact qBx hg h1 y hy
  ·rw[zap.1 hy];have:=(qI hg he).2.1
   have:=(qB hg).1
   omega
 ·have:=qBx hg h2 _ (qFu hy)
  omega
theorem qGa {es:List EdD} {u:Int}: ∀(w:List Int) (v:Int),(∀x∈w,-3≤x∧x≤3)→Conn es u v→0≤qY es v w→Conn es u (qY es v w)
 | [],_,_,h,_=>h
 | x::w,v,hx,h,h0=>by
   rw[qS] at h0⊢;split at h0
   ·exact absurd h0 (by decide)
   ·rename_i hn
    rw[if_neg hn];exact qGa w _ (fun y hy=>hx y (by simp[hy])) (qAz (hx x (by simp)) h tO) h0
theorem qDR {g:GrD} (h:qR g=true) {v:Int} (hv:0≤v∧v<g.2.1):Conn g.2.2 0 v:=by
 have hg:=qZ h;have hc:=qo h hv;have:=qGa (es:=g.2.2) (u:=0) (wdO g v) 0 (qBx hg hc) .base (by rw[qCG hg hc];omega)
 rwa [qCG hg hc] at this
theorem qGI {g:GrD} (hg:grB g=true) (aO:Fol g.2.2) {v:Int} (h:2≤degL g.2.2 v): ∃l m,(-3≤l∧l≤3)∧(-3≤m∧m≤3)∧l≠m∧0≤qF g.2.2 v l∧0≤qF g.2.2 v m:=by
 apply zab
 intro dE;have all: ∀l m,(-3≤l∧l≤3)→(-3≤m∧m≤3)→0≤qF g.2.2 v l→0≤qF g.2.2 v m→l=m:=fun l m a b c d=>zab fun e=>dE ⟨l,m,a,b,e,c,d⟩;have hd: ∀l0,(∀l,(-3≤l∧l≤3)→0≤qF g.2.2 v l→l=l0)→degL g.2.2 v≤1:=fun l0 dM=>qHQ (l0:=l0) aO (qAn hg) fun e he=>by
  have cZ:=qI hg he;have h3:=(qB hg).1;constructor
  ·intro e1;refine dM e.2.1 tO ?_;rw[←e1,qt hg aO he];exact cZ.2.2.1
  ·intro e1;refine dM (-e.2.1) tO ?_;rw[←e1,qAt hg aO he];exact cZ.1.1
 by_cases dA: ∃l,(-3≤l∧l≤3)∧0≤qF g.2.2 v l
 ·obtain⟨l0,a,b⟩:=dA;have:=hd l0 fun l c d=>all l l0 c a d b
  omega
 ·have:=hd 0 fun l c d=>absurd ⟨l,c,d⟩ dA
  omega
theorem qOJ {α:Type} (f:α→Nat): ∀(l:List α),l≠ []→ ∃x∈l,∀y∈l,f y≤f x
 | [x],_=>⟨x,by simp,fun y hy=>by rw[zap.1 hy];exact zag _⟩
 | x::y::l,_=>by
   obtain⟨z,hz,hm⟩:=qOJ f (y::l) (by simp);by_cases h:f z≤f x
   ·refine⟨x,by simp,fun t ht=> ?_⟩;rcases zar.1 ht with rfl | ht
    ·exact zag _
    ·exact Nat.le_trans (hm t ht) h
   ·refine⟨z,by simp[hz],fun t ht=> ?_⟩;rcases zar.1 ht with rfl | ht
    ·omega
    ·exact hm t ht
theorem qPB {g:GrD} (h:qR g=true) (ai:g.2.2≠ []): ∃e,e∈extL g:=by
 apply zab
 intro dE;have hf:=qP h;obtain⟨hg,aO⟩:=qE hf;have aq:=(qB hg).2.1;have tree: ∀e∈g.2.2,wdO g e.2.2=wdO g e.1++ [e.2.1]∨wdO g e.1=wdO g e.2.2++ [-e.2.1]:=fun e he=>by
  apply zab
  intro hn;refine dE ⟨e,zaA.2 ⟨he,qFC.2 ⟨fun q=>hn (.inl q),fun q=>hn (.inr q)⟩⟩⟩
 obtain⟨v,hv,rE⟩:=qOJ (fun v=>(wdO g v).length) (canO g) (fun e=>by have:=(qc hg).2.2;rw[e] at this;cases this);by_cases lP:v=0
 ·subst lP;rw[qBX hg] at rE;cases hes:g.2.2 with
  | nil=>exact ai hes
  | cons e es=>
    have he:e∈g.2.2:=by rw[hes];simp
    have hr:=qI hg he;have m1:=rE _ (qo h hr.1);have m2:=rE _ (qo h hr.2.2);simp only[zaV,Nat.le_zero] at m1 m2;rcases tree e he with q | q
    ·have:=congrArg List.length q;simp at this;omega
    ·have:=congrArg List.length q;simp at this;omega
 ·have IQ:=(qc hg).2.1 v hv;obtain⟨l,m,hl,hm,ke,n1,n2⟩:=qGI hg aO (qHT h (v:=v) tO);have key: ∀l,(-3≤l∧l≤3)→0≤qF g.2.2 v l→l= -(wdO g v).getLastD 0:=fun l hl hn=>by
   have hc:=qAX hg hv hl hn;have ii:=rE _ hc;have pt:wdO g (qF g.2.2 v l)=wdO g v++ [l]∨wdO g v=wdO g (qF g.2.2 v l)++ [-l]:=by
    rcases(qCN hg aO hl hn).1 rfl with ⟨p,q⟩ | ⟨p,q⟩
    ·exact tree _ q
    ·rcases tree _ q with r | r
     ·exact .inr r
     ·simp only at r;rw[Int.neg_neg] at r;exact .inl r
   rcases pt with q | q
   ·rw[q,zav,zaw] at ii;omega
   ·rw[q,qEs];omega
  exact ke ((key l hl n1).trans (key m hm n2).symm)
theorem Sub.mov {g:GrD} (hf:qb g=true) {u:Nat} (hu:(u:Int)<g.2.1) (hc:Conn g.2.2 0 u): ∃s,Sub (movG g u) g s∧s 0=u:=by
 obtain⟨hg,aO⟩:=qE hf;have aq:=(qB hg).2.1;have af:=qDd (n:=g.2.1.toNat) (u:=u) tO;rw[show((g.2.1.toNat:Nat):Int)=g.2.1 by omega] at af;have hz:ov (movO g.2.1.toNat u) 0=u:=rfl;have s1:=Sub.rn hf af (by rw[hz];exact hc) (by
  intro v hv hc l w hl mi hn h0 hm;refine absurd ?_ hm;unfold movO;rcases qO hg v l with e | ⟨e1,e2⟩
  ·omega
  ·by_cases hx:qF g.2.2 v l=u
   ·rw[hx];simp
   ·exact zar.2 (.inr (qAp.2 ⟨⟨e1,tO⟩,hx⟩)))
 have a7:=qBY hf af;obtain⟨s,hs,cj⟩:=Sub.core a7;obtain⟨ga,fa⟩:=qE a7;obtain⟨gb,fb⟩:=qE (qP (qCq ga));exact⟨_,hs.trans s1 gb fb ga fa hg,by rw[cj,hz]⟩
theorem qBP {g:GrD} (hf:qb g=true) {u:Nat} (hu:(u:Int)<g.2.1):qR (movG g u)=true:=by
 obtain⟨hg,aO⟩:=qE hf;have af:=qDd (n:=g.2.1.toNat) (u:=u) tO;have aq:=(qB hg).2.1;rw[show((g.2.1.toNat:Nat):Int)=g.2.1 by omega] at af;exact qCq (qE (qBY hf af)).1
def fstL (g:GrD):Int:=((qG g.1.toNat).find? fun x=>decide (0≤qF g.2.2 0 x)).getD 0
theorem qDS {g:GrD} (hg:grB g=true) (h:degL g.2.2 0=1):fstL g∈qG g.1.toNat∧0≤qF g.2.2 0 (fstL g):=by
 unfold fstL;cases e:(qG g.1.toNat).find? fun x=>decide (0≤qF g.2.2 0 x) with
 | some x=>
   exact⟨List.mem_of_find?_eq_some e,by simpa using List.find?_some e⟩
 | none=>
   exfalso
   rw[List.find?_eq_none] at e;have hz:degL g.2.2 0=0:=qGF fun a ha=>by
    have hr:=qI hg ha;have h3:=(qB hg).1;unfold degE;have n1:a.1≠0:=fun q=>by
     refine e a.2.1 (qX.2 (.inl ⟨tO,tO⟩)) ?_;rw[decide_eq_true_eq];have:a.2.2∈qv g.2.2 0 a.2.1:=zaz.2 ⟨a,ha,(qCZ tO).2 (.inl ⟨tO,rfl,q,rfl⟩)⟩
     unfold qF;cases hs:qv g.2.2 0 a.2.1 with
     | nil=>rw[hs] at this;cases this
     | cons y l=>
       have hy:y∈qv g.2.2 0 a.2.1:=by rw[hs];simp
       obtain⟨c,hc,hm⟩:=zaz.1 hy;have sO:=qI hg hc;rcases(qCZ tO).1 hm with ⟨_,_,_,s⟩ | ⟨_,_,_,s⟩
       ·rw[←s];exact sO.2.2.1
       ·rw[←s];exact sO.1.1
    have n2:a.2.2≠0:=fun q=>by
     refine e (-a.2.1) (qX.2 (.inr ⟨tO,tO⟩)) ?_;rw[decide_eq_true_eq];have:a.1∈qv g.2.2 0 (-a.2.1):=zaz.2 ⟨a,ha,(qCZ tO).2 (.inr ⟨tO,tO,q,rfl⟩)⟩
     unfold qF;cases hs:qv g.2.2 0 (-a.2.1) with
     | nil=>rw[hs] at this;cases this
     | cons y l=>
       have hy:y∈qv g.2.2 0 (-a.2.1):=by rw[hs];simp
       obtain⟨c,hc,hm⟩:=zaz.1 hy;have sO:=qI hg hc;rcases(qCZ tO).1 hm with ⟨_,_,_,s⟩ | ⟨_,_,_,s⟩
       ·rw[←s];exact sO.2.2.1
       ·rw[←s];exact sO.1.1
    rw[if_neg n1,if_neg n2]
   omega
theorem qNs {es:List EdD} {v x:Int} (hx: -3≤x∧x≤3) (h:0≤qF es v x):x≠0:=by
 obtain⟨e,_,hm⟩:=qBb h;rcases(qCZ hx).1 hm with ⟨p,_⟩ | ⟨p,_⟩<;>omega
theorem qJu {g:GrD} (hg:grB g=true) (aO:Fol g.2.2) (h:degL g.2.2 0=1):qF g.2.2 0 (fstL g)≠0:=fun e=>by
 obtain⟨h1,h2⟩:=qDS hg h;have hl:=let3 hg h1;have hb:=qAA hg aO hl h2;rw[e] at hb;have:=qDA hl (m:= -fstL g) tO tO h2 (by rw[hb];omega)
 have:=qNs hl h2
 omega
def qCB:Nat→GrD→List Int→GrD×List Int
 | 0,g,t=>(g,t)
 | f+1,g,t=>if 1<g.2.1∧degL g.2.2 0=1 then qCB f (movG g (qF g.2.2 0 (fstL g)).toNat) (t++ [fstL g]) else(g,t)
def cycG (g:GrD):GrD×List Int:=qCB 40 g []
theorem qJQ {g:GrD} (hf:qb g=true) (h:degL g.2.2 0=1):(movG g (qF g.2.2 0 (fstL g)).toNat).2.1<g.2.1:=by
 obtain⟨hg,aO⟩:=qE hf;have aq:=(qB hg).2.1;obtain⟨h1,h2⟩:=qDS hg h;have ai:=qJu hg aO h;have hl:=let3 hg h1;have ac:qF g.2.2 0 (fstL g)<g.2.1:=by
  rcases qO hg 0 (fstL g) with e | e<;>omega
 obtain⟨u,hu⟩: ∃u:Nat,qF g.2.2 0 (fstL g)=(u:Int):=⟨(qF g.2.2 0 (fstL g)).toNat,tO⟩;rw[hu] at ai ac h2⊢;rw[zal];have af:=qDd (n:=g.2.1.toNat) (u:=u) tO;rw[show((g.2.1.toNat:Nat):Int)=g.2.1 by omega] at af;have a7:=qBY hf af;obtain⟨ga,fa⟩:=qE a7;have au:((movO g.2.1.toNat u).length:Int)=g.2.1:=by
  unfold movO;rw[zaJ,qBK,if_pos tO];omega
 have ng:(0:Int)∈movO g.2.1.toNat u:=zar.2 (.inr (qAp.2 ⟨tO,tO⟩));have hp:=qCC ng;have BK:=qAe (movO g.2.1.toNat u) 0;have vj:plv (movO g.2.1.toNat u) 0≠1:=fun e=>by
  have:=qFL af.1 ng
  rw[e] at this;have e2:ov (movO g.2.1.toNat u) (1-1)=u:=rfl;omega
 have oh: ¬qk (rnG g (movO g.2.1.toNat u)).2.2 (rnG g (movO g.2.1.toNat u)).2.1.toNat<0:=fun hn=>by
  have jA:(rnG g (movO g.2.1.toNat u)).2.1=g.2.1:=au;have:=qEj _ _ ((rnG g (movO g.2.1.toNat u)).2.1.toNat-1) 1 tO hn (plv (movO g.2.1.toNat u) 0-1).toNat tO tO
  unfold qDM at this;simp only[zaO,decide_eq_false_iff_not] at this;rw[show(((plv (movO g.2.1.toNat u) 0-1).toNat:Nat):Int)=plv (movO g.2.1.toNat u) 0-1 by omega] at this;obtain⟨l,m,dR,dj,ke,n1,n2⟩:=qGI ga fa (v:=plv (movO g.2.1.toNat u) 0-1) tO;have key: ∀l,(-3≤l∧l≤3)→0≤qF (rnG g (movO g.2.1.toNat u)).2.2 (plv (movO g.2.1.toNat u) 0-1) l→0≤qF g.2.2 0 l:=fun l dR n1=>by
   rw[qGW hf af tO tO dR,qFL af.1 ng] at n1;split at n1
   ·rename_i q;exact q
   ·omega
  exact ke (qDA dR dj tO (key l dR n1) (key m dj n2))
 have m8:=qHD ga;rw[decide_eq_false oh,decide_eq_false_iff_not] at m8;have ii:=qKJ (rnG g (movO g.2.1.toNat u)).2.1.toNat (rnG g (movO g.2.1.toNat u)) ((List.range (rnG g (movO g.2.1.toNat u)).2.1.toNat).map fun v=>((v:Nat):Int)) ga;change (qBT (rnG g (movO g.2.1.toNat u))).1.2.1≤_ at ii;have jA:(rnG g (movO g.2.1.toNat u)).2.1=g.2.1:=au;have ht:=qCW a7;have JN:=(qE ht).1;have eT:=qc JN;have Lk:=(qB JN).2.1;have cU:=qAc (qBT (rnG g (movO g.2.1.toNat u))).1.2.1.toNat _ eT.1 fun y hy=>by have:=eT.2.1 y hy;omega
 unfold movG qAj;rw[qFj a7];show((canO _).length:Int)<_
 omega
theorem qKx {g:GrD} (hf:qb g=true) (hd:degL g.2.2 0=1) {w:List Int} (hw: ∀x∈w,-3≤x∧x≤3) (hn:NoB w) (ai:w≠ []) (h:qY g.2.2 0 w=0):
  ∃w2,w=fstL g::(w2++ [-fstL g])∧w2≠ []∧NoB w2∧qY g.2.2 (qF g.2.2 0 (fstL g)) w2=qF g.2.2 0 (fstL g):=by
 obtain⟨hg,aO⟩:=qE hf;obtain⟨h1,h2⟩:=qDS hg hd;have hl:=let3 hg h1;have rQ:=qJu hg aO hd;cases w with
 | nil=>exact absurd rfl ai
 | cons x w=>
   have hx:=hw x (by simp);have DX:0≤qF g.2.2 0 x:=by
    rw[qS] at h;split at h
    ·exact absurd h (by decide)
    ·omega
   have pe:=qDA hx hl tO DX h2;subst pe;rw[qS,if_neg tO] at h;rcases List.eq_nil_or_concat w with rfl | ⟨w2,z,rfl⟩
   ·exact absurd h rQ
   ·rw[List.concat_eq_append] at*;have hz:=hw z (by simp);have hp:=qBr g.2.2 w2 (qF g.2.2 0 (fstL g)) [z] h2 (by rw[h];exact zaE _);rw[qAd _ _ _ _ hp,qS] at h;split at h
    ·exact absurd h (by decide)
    ·rename_i hnz
     have h0:qF g.2.2 (qY g.2.2 (qF g.2.2 0 (fstL g)) w2) z=0:=h;have hb:=qAA hg aO hz (by omega:0≤qF g.2.2 (qY g.2.2 (qF g.2.2 0 (fstL g)) w2) z);rw[h0] at hb;have JO:=qDA (es:=g.2.2) (v:=0) (l:= -z) (m:=fstL g) tO hl tO (by rw[hb];exact hp) h2;rw[JO] at hb;have cj:z= -fstL g:=tO;subst cj;refine⟨w2,rfl,?_,?_,hb.symm⟩
     ·rintro rfl;exact hn.1 rfl
     ·have ht:=hn.tail;clear h hb hn hw hp h0 hnz JO;induction w2 with
      | nil=>trivial
      | cons a w2 ih=>
        cases w2 with
        | nil=>trivial
        | cons b w2=>exact⟨ht.1,ih (by simp) ht.2⟩
theorem qDo: ∀(f:Nat) (g:GrD) (t:List Int),qR g=true→ ∃s q,(qCB f g t).2=t++q∧(∀x∈q,-3≤x∧x≤3)∧Sub (qCB f g t).1 g s∧qY g.2.2 0 q=s 0∧qR (qCB f g t).1=true∧
  (∀w,(∀x∈w,-3≤x∧x≤3)→NoB w→w≠ []→qY g.2.2 0 w=0→ ∃w',w=q++w')∧(q= []→(qCB f g t).1=g)
 | 0,g,t,h=>⟨id,[],by simp[qCB],by simp,Sub.refl,rfl,h,fun w _ _ _ _=>⟨w,rfl⟩,fun _=>rfl⟩
 | f+1,g,t,h=>by
   unfold qCB;split
   ·rename_i hc
    have hf:=qP h;obtain⟨hg,aO⟩:=qE hf;obtain⟨h1,h2⟩:=qDS hg hc.2;have hl:=let3 hg h1;have ac:qF g.2.2 0 (fstL g)<g.2.1:=by
     rcases qO hg 0 (fstL g) with e | e<;>omega
    obtain⟨u,hu⟩: ∃u:Nat,qF g.2.2 0 (fstL g)=(u:Int):=⟨(qF g.2.2 0 (fstL g)).toNat,tO⟩;have lQ:=qAz hl (.base:Conn g.2.2 0 0) h2;have Ez:=fun w a b c d=>qKx hf hc.2 (w:=w) a b c d;rw[hu] at ac h2 lQ⊢;rw[zal];obtain⟨s1,aw,bI⟩:=Sub.mov hf ac lQ;have mC:=qBP hf ac;have NL:=qP mC;obtain⟨gm,fm⟩:=qE NL;obtain⟨s,q,e1,e2,e3,e4,e5,e6,e7⟩:=qDo f (movG g u) (t++ [fstL g]) mC;obtain⟨gy,fy⟩:=qE (qP e5);have ND:=(qB gm).2.1;have aP:=e3.rng 0 tO (by have:=(qB gy).2.1;omega);have hw:=aw.walk gm q 0 tO tO e2 (by rw[e4];exact aP.1);refine⟨fun i=>s1 (s i),fstL g::q,by rw[e1];simp,fun x hx=> ?_,e3.trans aw gy fy gm fm hg,?_,e5,fun w a b c d=> ?_,fun e=>by cases e⟩
    ·rcases zar.1 hx with rfl | hx
     ·exact hl
     ·exact e2 x hx
    ·rw[qS,hu,if_neg tO];rw[bI,e4] at hw;exact hw
    ·obtain⟨w2,r1,r2,r3,r4⟩:=Ez w a b c d;rw[hu,←bI] at r4;have r5: ∀x∈w2,-3≤x∧x≤3:=fun x hx=>a x (by rw[r1];simp[hx]);have:=aw.lp 0 w2 tO tO .base r5 r3 r4
     obtain⟨w',aA⟩:=e6 w2 r5 r3 r2 this;exact⟨w'++ [-fstL g],by rw[r1,aA];simp⟩
   ·exact⟨id,[],by simp,by simp,Sub.refl,rfl,h,fun w _ _ _ _=>⟨w,rfl⟩,fun _=>rfl⟩
theorem qJe: ∀(f:Nat) (g:GrD) (t:List Int),qR g=true→g.2.1≤f+1→ ¬(1<(qCB f g t).1.2.1∧degL (qCB f g t).1.2.2 0=1)
 | 0,g,t,h,hs=>fun q=>by have:=q.1;change 1<g.2.1 at this;omega
 | f+1,g,t,h,hs=>by
   unfold qCB;split
   ·rename_i hc
    have hf:=qP h;obtain⟨hg,aO⟩:=qE hf;have:=qJQ hf hc.2
    obtain⟨h1,h2⟩:=qDS hg hc.2;refine qJe f _ _ (qBP hf ?_) tO;rcases qO hg 0 (fstL g) with e | e<;>omega
   ·rename_i hc;exact hc
def covB (x y:GrD):Bool:=(canO x).all fun u=>(qG x.1.toNat).all fun l=> !(decide (qF x.2.2 u l<0)&&decide (0≤qF y.2.2 (imgW x y u) l))
def fibL (x y:GrD) (t:Int):List Int:=(canO x).filter fun u=>decide (imgW x y u=t)
def idxC (x y:GrD):Int:=if covB x y=true then(fibL x y 0).length else-1
theorem qIK (f:Int→Int) (n:Int): ∀(L:List Int),(L.filter fun u=>decide (f u<n+1)).length=(L.filter fun u=>decide (f u<n)).length+(L.filter fun u=>decide (f u=n)).length
 | []=>rfl
 | u::L=>by
   have ih:=qIK f n L;rw[zaK,zaK,zaK];by_cases h1:f u<n
   ·rw[decide_eq_true h1,decide_eq_true (by omega:f u<n+1),decide_eq_false (by omega: ¬f u=n)];simp only[if_pos,zaJ];simp only[zaH,if_false];omega
   ·by_cases h2:f u=n
    ·rw[decide_eq_false h1,decide_eq_true (by omega:f u<n+1),decide_eq_true h2];simp only[if_pos,zaJ,zaH,if_false];omega
    ·rw[decide_eq_false h1,decide_eq_false (by omega: ¬f u<n+1),decide_eq_false h2];simp only[zaH,if_false];exact ih
theorem qFs {x y:GrD} (h:qAG x y=true) (hc:covB x y=true) {t l:Int} (hl: -3≤l∧l≤3) (h0:0≤qF y.2.2 t l):(fibL x y t).length≤(fibL x y (qF y.2.2 t l)).length:=by
 obtain⟨hx,hy,hr⟩:=qj h;obtain⟨gx,fx⟩:=qE (qP hx);have LE:l∈qG x.1.toNat:=by rw[hr];exact qBW (qZ hy) hl h0
 have hst: ∀u∈fibL x y t,0≤qF x.2.2 u l∧qF x.2.2 u l∈fibL x y (qF y.2.2 t l):=fun u hu=>by
  obtain⟨kc,nI⟩:=zaA.1 hu;rw[decide_eq_true_eq] at nI;have:=zae.1 (zae.1 hc u kc) l LE
  have hn: ¬qF x.2.2 u l<0:=fun hn=>by
   rw[decide_eq_true hn,nI,decide_eq_true h0] at this;cases this
  have hh:=qCs h [l] u (fun z hz=>by rw[zap.1 hz];exact hl) kc (by rw[qBw _ _ _ (zaI.1 hn)];omega);rw[nI,qBw _ _ _ h0,qBw _ _ _ (zaI.1 hn)] at hh;exact⟨tO,zaA.2 ⟨qAX gx kc hl tO,decide_eq_true hh.symm⟩⟩
 have eL:((fibL x y t).map fun u=>qF x.2.2 u l).Nodup:=by
  have hd:(fibL x y t).Nodup:=(qc gx).1.filter _;unfold List.Nodup at*;rw[zaR];refine hd.imp_of_mem fun {a b} ha hb fI e=>fI ?_;have b1:=qAA gx fx hl (hst a ha).1;have b2:=qAA gx fx hl (hst b hb).1;rw[←b1,←b2,e]
 have gr: ∀z∈(fibL x y t).map fun u=>qF x.2.2 u l,z∈fibL x y (qF y.2.2 t l):=fun z hz=>by
  obtain⟨u,hu,rfl⟩:=zaG.1 hz;exact(hst u hu).2
 have:=eL.length_le_of_subset gr
 rwa [zaU] at this
theorem qDP {x y:GrD} (h:qAG x y=true) (hc:covB x y=true):x.2.1=y.2.1*((fibL x y 0).length:Int):=by
 obtain⟨hx,hy,hr⟩:=qj h;obtain⟨gx,fx⟩:=qE (qP hx);obtain⟨gy,fy⟩:=qE (qP hy);have const: ∀t,0≤t→t<y.2.1→(fibL x y t).length=(fibL x y 0).length:=fun t t0 t1=>by
  refine qAL (S:=fun t=>(fibL x y t).length=(fibL x y 0).length) rfl (fun e he=> ?_) (qDR hy ⟨t0,t1⟩);have cZ:=qI gy he;have h3:=(qB gy).1;have n1:=qt gy fy he;have n2:=qAt gy fy he;have m1:=qFs h hc (t:=e.1) (l:=e.2.1) tO (by rw[n1];exact cZ.2.2.1);have m2:=qFs h hc (t:=e.2.2) (l:= -e.2.1) tO (by rw[n2];exact cZ.1.1);rw[n1] at m1;rw[n2] at m2;constructor<;>intro q<;>omega
 have lX: ∀n:Nat,(n:Int)≤y.2.1→((canO x).filter fun u=>decide (imgW x y u<n)).length=n*(fibL x y 0).length:=by
  intro n;induction n with
  | zero=>
    intro _;rw[Nat.zero_mul,List.length_eq_zero_iff,List.filter_eq_nil_iff];intro u hu;rw[decide_eq_true_eq];have hw:=qCs h (wdO x u) 0 (qBx gx hu) (zac (qc gx).2.2) (by rw[qCG gx hu];exact((qc gx).2.1 u hu).1);rw[qCG gx hu,qBB gx] at hw;have hI:=h;rw[qGl] at hI;unfold qJU at hI;simp only[zan,decide_eq_true_eq] at hI;have hB: ∀e∈extL x,qY y.2.2 0 (basW x e)=0:=fun e he=>by
     have:=zae.1 hI.2 (basW x e) (by unfold basF;rw[if_pos hx];exact zaG.2 ⟨e,he,rfl⟩)
     simpa using this
    have:=qDp hx hy hB 40 hu tO
    omega
  | succ n ih=>
    intro hn;have h2:=ih tO;have h3:=qIK (imgW x y) (n:Int) (canO x);have h4:=const n tO tO;unfold fibL at h4;rw[show((n+1:Nat):Int)=(n:Int)+1 by omega,h3,h2,h4,Nat.succ_mul];rfl
 have aq:=(qB gy).2.1;have Bd:=(qB gx).2.1;have aB:=lX y.2.1.toNat tO;have nB:(canO x).filter (fun u=>decide (imgW x y u<(y.2.1.toNat:Nat)))=canO x:=by
  rw[List.filter_eq_self];intro u hu;rw[decide_eq_true_eq];have:=qBF gy (wdO x u) 0 tO
  unfold imgW;omega
 rw[nB] at aB;have cU:((canO x).length:Int)=x.2.1:=by
  unfold qR at hx;simp only[zan,decide_eq_true_eq] at hx;exact congrArg (fun g:GrD=>g.2.1) hx.2
 have:((canO x).length:Int)=(y.2.1.toNat:Int)*((fibL x y 0).length:Int):=by exact_mod_cast aB
 rw[←cU,this,show((y.2.1.toNat:Nat):Int)=y.2.1 by omega]
theorem qFf {a b:GrD} (h:qAG a b=true) (hv:0≤qY a.2.2 0 (cycG b).2):qAG (movG a (qY a.2.2 0 (cycG b).2).toNat) (cycG b).1=true:=by
 obtain⟨ha,hb,hr⟩:=qj h;obtain⟨ga,fa⟩:=qE (qP ha);obtain⟨gb,fb⟩:=qE (qP hb);obtain⟨s,q,e1,e2,e3,e4,e5,e6,_⟩:=qDo 40 b [] hb;change (cycG b).2= []++q at e1;change Sub (cycG b).1 b s at e3;change qR (cycG b).1=true at e5;rw[zaM] at e1;rw[e1] at hv⊢;have Fw:=(qB ga).2.1;have ac:qY a.2.2 0 q<a.2.1:=by
  rcases qBF ga q 0 tO with e | e<;>omega
 have lk:=qGa (es:=a.2.2) (u:=0) q 0 e2 .base hv;have gp:=qCs h q 0 e2 (zac (qc ga).2.2) hv;rw[qBB ga,e4] at gp;have JF:=qo ha ⟨hv,ac⟩;obtain⟨v,xV⟩: ∃v:Nat,qY a.2.2 0 q=(v:Int):=⟨(qY a.2.2 0 q).toNat,tO⟩;rw[xV] at ac lk gp JF⊢;rw[zal];obtain⟨s1,aw,bI⟩:=Sub.mov (qP ha) ac lk;have hx:=qBP (qP ha) ac;obtain⟨gx,fx⟩:=qE (qP hx);obtain⟨gy,fy⟩:=qE (qP e5);have Bd:=(qB gx).2.1;have LJ:=(qB gy).2.1;rw[qGl];unfold qJU;simp only[zan,decide_eq_true_eq];refine⟨⟨⟨hx,e5⟩,aw.rk.trans (hr.trans e3.rk.symm)⟩,?_⟩;unfold basF;rw[if_pos hx,zae];intro w hw;obtain⟨e,he,rfl⟩:=zaG.1 hw;rw[decide_eq_true_eq];obtain⟨jg,mU⟩:=zaA.1 he;have cZ:=qI gx jg;have c1:=qo hx cZ.1;have c2:=qo hx cZ.2.2;have jY:=qHU gx jg c1 c2;have w1:=qFt gx fx jg c1 c2;have w2:=aw.walk gx _ 0 tO tO jY (by rw[w1];omega);rw[w1,bI] at w2;have w3:=qCs h _ _ jY JF (by rw[w2];omega);rw[w2,←gp] at w3;exact e3.lp 0 _ tO tO .base jY (qDN gx fx jg mU c1 c2) w3
theorem qNq {a b:GrD} (h:qAG a b=true) (ai:a.2.2≠ []):0≤qY a.2.2 0 (cycG b).2:=by
 obtain⟨ha,hb,hr⟩:=qj h;obtain⟨ga,fa⟩:=qE (qP ha);obtain⟨s,q,e1,e2,e3,e4,e5,e6,_⟩:=qDo 40 b [] hb;change (cycG b).2= []++q at e1;rw[zaM] at e1;rw[e1];obtain⟨e,he⟩:=qPB ha ai;obtain⟨jg,mU⟩:=zaA.1 he;have cZ:=qI ga jg;have c1:=qo ha cZ.1;have c2:=qo ha cZ.2.2;have jY:=qHU ga jg c1 c2;have w1:=qFt ga fa jg c1 c2;have w3:=qCs h _ 0 jY (zac (qc ga).2.2) (by rw[w1];omega);rw[w1,qBB ga] at w3;obtain⟨w',aA⟩:=e6 _ jY (qDN ga fa jg mU c1 c2) (by unfold basW;simp) w3;refine qBr a.2.2 q 0 w' (zaE _) ?_;rw[←aA,w1];exact zaE _
def idxF (a b:GrD):Int:=if qAG a b=true then(if 0≤qY a.2.2 0 (cycG b).2 then idxC (movG a (qY a.2.2 0 (cycG b).2).toNat) (cycG b).1 else-1) else-1
theorem qEl (v x:Int):qF [] v x= -1:=rfl
theorem qFy {a:GrD} (ha:qR a=true) (h:a.2.2= []):a.2.1=1:=by
 have hg:=qZ ha;have aq:=(qB hg).2.1;apply zab
 intro hn;have:=qHT ha (v:=1) tO
 rw[h] at this;simp[degL] at this
theorem qMz {a b:GrD} (h:qAG a b=true) (ai:a.2.2= []):idxF a b=if b.2.2= [] then 1 else-1:=by
 obtain⟨ha,hb,hr⟩:=qj h;obtain⟨ga,fa⟩:=qE (qP ha);obtain⟨gb,fb⟩:=qE (qP hb);obtain⟨s,q,e1,e2,e3,e4,e5,e6,e7⟩:=qDo 40 b [] hb;change (cycG b).2= []++q at e1;change Sub (cycG b).1 b s at e3;change qR (cycG b).1=true at e5;change q= []→(cycG b).1=b at e7;rw[zaM] at e1;unfold idxF;rw[if_pos h];have bD:=qFf h;rw[e1] at bD⊢;by_cases hq:q= []
 ·subst hq;rw[e7 rfl] at bD⊢;have hw:qY a.2.2 0 []=0:=rfl;rw[hw] at bD⊢;have bD:=bD (zaE _);rw[if_pos (zaE _)];have Fw:=(qB ga).2.1;obtain⟨s1,aw,bI⟩:=Sub.mov (g:=a) (u:=0) (qP ha) tO .base;have hx:=qBP (g:=a) (u:=0) (qP ha) tO;change Sub (movG a (0:Int).toNat) a s1 at aw;change qR (movG a (0:Int).toNat)=true at hx;generalize movG a (0:Int).toNat=x at*;obtain⟨gx,fx⟩:=qE (qP hx);have Bd:=(qB gx).2.1;have dN: ∀u l,0≤u→u<x.2.1→(-3≤l∧l≤3)→qF x.2.2 u l<0:=fun u l u0 u1 hl=>by
   apply zab
   intro hn;have h1:=aw.fw u l u0 u1 hl tO;rw[ai,qEl] at h1;rcases qO gx u l with e | ⟨e,f⟩
   ·omega
   ·have:=(aw.rng _ e f).1;omega
  have pe:x.2.2= []:=by
   cases hes:x.2.2 with
   | nil=>rfl
   | cons e es=>
     have he:e∈x.2.2:=by rw[hes];simp
     have cZ:=qI gx he;have h3:=(qB gx).1;have:=dN e.1 e.2.1 cZ.1.1 cZ.1.2 tO
     rw[qt gx fx he] at this;omega
  have fi:=qFy hx pe;by_cases ku:b.2.2= []
  ·rw[if_pos ku];have hc:covB x b=true:=by
    unfold covB;rw[zae];intro u _;rw[zae];intro l _;rw[ku,qEl];simp
   unfold idxC;rw[if_pos hc];have gI:=qDP bD hc;rw[fi,qFy hb ku] at gI;omega
  ·rw[if_neg ku];unfold idxC;rw[if_neg];intro hc;have dE: ∀l,(-3≤l∧l≤3)→qF b.2.2 0 l<0:=fun l hl=>by
    apply zab
    intro hn;have dT:l∈qG x.1.toNat:=by
     rw[aw.rk,hr];exact qBW gb hl (zaI.1 hn)
    have:=zae.1 (zae.1 hc 0 (zac (qc gx).2.2)) l dT
    rw[qBB gx,decide_eq_true (dN 0 l tO tO hl),decide_eq_true (by omega:0≤qF b.2.2 0 l)] at this;cases this
   cases hes:b.2.2 with
   | nil=>exact ku hes
   | cons e es=>
     have he:e∈b.2.2:=by rw[hes];simp
     have cZ:=qI gb he;have h3:=(qB gb).1;have hz:e.1=0:=by
      refine qAL (S:=fun v=>v=0) rfl (fun d hd=> ?_) (qDR hb cZ.1);have aN:=qI gb hd;constructor
      ·intro q;have:=dE d.2.1 tO
       rw[←q,qt gb fb hd] at this;omega
      ·intro q;have:=dE (-d.2.1) tO
       rw[←q,qAt gb fb hd] at this;omega
     have:=dE e.2.1 tO
     rw[←hz,qt gb fb he] at this;omega
 ·cases q with
  | nil=>exact absurd rfl hq
  | cons l q=>
    have hw:qY a.2.2 0 (l::q)= -1:=by rw[qS,ai,qEl];rfl
    rw[hw,if_neg (by decide),if_neg];intro ku;have:qY b.2.2 0 (l::q)= -1:=by rw[qS,ku,qEl];rfl
    rw[this] at e4;have:=(e3.rng 0 tO (by have:=(qB (qZ e5)).2.1;omega)).1
    omega
structure GBx (w:World) (p base:Nat) (A:Option Addr) (c:Nat) (g:GrD):Prop where
 c0:w.cell? ⟨p,0,none⟩=some (.int .i64 g.1)
 c1:w.cell? ⟨p,1,none⟩=some (.int .i64 g.2.1)
 c2:w.cell? ⟨p,2,none⟩=some (.slice A g.2.2.length c)
 fz: ∀j,w.frozen? ⟨p,j,none⟩=false
 ow:OwE w base (.slice A g.2.2.length c) g.2.2
 ne: ∀b,(zah A g.2.2.length c).ownBlock=some b→b≠p
 i1:I64 g.1
 i2:I64 g.2.1
 lt:p<w.heap.size
theorem GBx.cs {w:World} {p base:Nat} {A:Option Addr} {c:Nat} {g:GrD} (h:GBx w p base A c g):w.cell? ⟨p,0,none⟩=some (.int .i64 g.1)∧w.cell? ⟨p,1,none⟩=some (.int .i64 g.2.1)∧w.cell? ⟨p,2,none⟩=some (.slice A g.2.2.length c):=⟨h.c0,h.c1,h.c2⟩
theorem GBx.below {w w':World} {p base:Nat} {A:Option Addr} {c:Nat} {g:GrD} (h:GBx w p base A c g) (hb:Below w.heap.size w w'):GBx w' p base A c g:=
 ⟨(hb.cell (p:=⟨p,0,none⟩) h.lt).trans h.c0,(hb.cell (p:=⟨p,1,none⟩) h.lt).trans h.c1,(hb.cell (p:=⟨p,2,none⟩) h.lt).trans h.c2,fun j=>(hb.frozen (p:=⟨p,j,none⟩) h.lt).trans (h.fz j),h.ow.below hb,h.ne,h.i1,h.i2,zaC h.lt hb.size⟩
theorem GBx.keep {w w':World} {p base:Nat} {A:Option Addr} {c:Nat} {g:GrD} (h:GBx w p base A c g) (hs:w.heap.size≤w'.heap.size) (hk: ∀b,b=p∨(zah A g.2.2.length c).ownBlock=some b→w'.heap[b]? =w.heap[b]?):GBx w' p base A c g:=by
 have hp:=hk p (.inl rfl);exact⟨(zau (w:=w) hp).trans h.c0,(zau (w:=w) hp).trans h.c1,(zau (w:=w) hp).trans h.c2,fun j=>(zaN (w:=w) hp).trans (h.fz j),h.ow.keep fun b hb=>hk b (.inr hb),h.ne,h.i1,h.i2,zaC h.lt hs⟩
theorem GBx.grown {w w':World} {p base:Nat} {A:Option Addr} {c:Nat} {g:GrD} {row:Option Nat} (h:GBx w p base A c g) (hg:w.grownBy w' row) (h1: ∀b,row=some b→b≠p∧(zah A g.2.2.length c).ownBlock≠some b):GBx w' p base A c g:=by
 refine h.keep hg.size fun b hb=> ?_;have ac:b<w.heap.size:=by
  rcases hb with rfl | hb
  ·exact h.lt
  ·exact(h.ow.1.lt b hb).2
 refine hg.block b ac fun e=> ?_;have:=h1 b e.symm
 rcases hb with rfl | hb
 ·exact this.1 rfl
 ·exact this.2 hb
theorem GBx.arg {w:World} {p base:Nat} {A:Option Addr} {c:Nat} {g:GrD} (h:GBx w p base A c g):ArgG w (.agg #[.int .i64 g.1, .int .i64 g.2.1, .slice A g.2.2.length c]) g:=⟨_,rfl,h.i1,h.i2,h.ow.arg⟩
theorem OwI.keepB {w w':World} {base:Nat} {s:Value} {xs:List Int} (h:OwI w base s xs) (hb: ∀b,s.ownBlock=some b→w'.heap[b]? =w.heap[b]?):OwI w' base s xs:=by
 refine⟨⟨h.1.1,?_⟩,h.2⟩;rcases h.1.2 with h0 | ⟨g,cap,cur,hv,hg,hh,r⟩
 ·exact .inl h0
 ·exact .inr ⟨g,cap,cur,hv,hg,by rw[hb g (by rw[hv];rfl)];exact hh,r⟩
theorem GBx.set {w:World} {p base base':Nat} {A A':Option Addr} {c c':Nat} {g m:GrD} (h:GBx w p base A c g) (o:OwE w base' (.slice A' m.2.2.length c') m.2.2) (hn: ∀b,(zah A' m.2.2.length c').ownBlock=some b→b≠p) (h1:I64 m.1) (h2:I64 m.2.1):
  GBx (((w.setCell ⟨p,0,none⟩ (.int .i64 m.1)).setCell ⟨p,1,none⟩ (.int .i64 m.2.1)).setCell ⟨p,2,none⟩ (.slice A' m.2.2.length c')) p base' A' c' m:=by
 obtain⟨e0,e1,e2⟩:=qi (.int .i64 m.1) (.int .i64 m.2.1) (.slice A' m.2.2.length c') h.c0 h.c1 h.c2;refine⟨e0,e1,e2,fun j=>by rw[zas,zas,zas];exact h.fz j,?_,hn,h1,h2,by simpa using h.lt⟩;refine o.keep fun b hb=> ?_;have:=hn b hb
 rw[zaf _ _ _ b this,zaf _ _ _ b this,zaf _ _ _ b this]
structure CBx (w:World) (p:Nat) (x y z:Value):Prop where
 c0:w.cell? ⟨p,0,none⟩=some x
 c1:w.cell? ⟨p,1,none⟩=some y
 c2:w.cell? ⟨p,2,none⟩=some z
 fz: ∀j,w.frozen? ⟨p,j,none⟩=false
 lt:p<w.heap.size
theorem CBx.cs {w:World} {p:Nat} {x y z:Value} (h:CBx w p x y z):w.cell? ⟨p,0,none⟩=some x∧w.cell? ⟨p,1,none⟩=some y∧w.cell? ⟨p,2,none⟩=some z:=⟨h.c0,h.c1,h.c2⟩
theorem CBx.below {w w':World} {p:Nat} {x y z:Value} (h:CBx w p x y z) (hb:Below w.heap.size w w'):CBx w' p x y z:=
 ⟨(hb.cell (p:=⟨p,0,none⟩) h.lt).trans h.c0,(hb.cell (p:=⟨p,1,none⟩) h.lt).trans h.c1,(hb.cell (p:=⟨p,2,none⟩) h.lt).trans h.c2,fun j=>(hb.frozen (p:=⟨p,j,none⟩) h.lt).trans (h.fz j),zaC h.lt hb.size⟩
theorem CBx.belowAt {w w':World} {p n:Nat} {x y z:Value} (h:CBx w p x y z) (hb:Below n w w') (hn:p<n):CBx w' p x y z:=
 ⟨(hb.cell (p:=⟨p,0,none⟩) hn).trans h.c0,(hb.cell (p:=⟨p,1,none⟩) hn).trans h.c1,(hb.cell (p:=⟨p,2,none⟩) hn).trans h.c2,fun j=>(hb.frozen (p:=⟨p,j,none⟩) hn).trans (h.fz j),zaC h.lt hb.size⟩
theorem CBx.other {w:World} {p q:Nat} {x y z a b c:Value} (h:CBx w p x y z) (ai:p≠q):CBx (((w.setCell ⟨q,0,none⟩ a).setCell ⟨q,1,none⟩ b).setCell ⟨q,2,none⟩ c) p x y z:=by
 have hp:(((w.setCell ⟨q,0,none⟩ a).setCell ⟨q,1,none⟩ b).setCell ⟨q,2,none⟩ c).heap[p]? =w.heap[p]? :=by
  rw[zaf _ _ _ p ai,zaf _ _ _ p ai,zaf _ _ _ p ai]
 exact⟨(zau (w:=w) hp).trans h.c0,(zau (w:=w) hp).trans h.c1,(zau (w:=w) hp).trans h.c2,fun j=>(zaN (w:=w) hp).trans (h.fz j),by simpa using h.lt⟩
theorem CBx.set {w:World} {p base':Nat} {x y z:Value} {A':Option Addr} {c':Nat} {m:GrD} (h:CBx w p x y z) (o:OwE w base' (.slice A' m.2.2.length c') m.2.2) (hn: ∀b,(zah A' m.2.2.length c').ownBlock=some b→b≠p) (h1:I64 m.1) (h2:I64 m.2.1):
  GBx (((w.setCell ⟨p,0,none⟩ (.int .i64 m.1)).setCell ⟨p,1,none⟩ (.int .i64 m.2.1)).setCell ⟨p,2,none⟩ (.slice A' m.2.2.length c')) p base' A' c' m:=by
 obtain⟨e0,e1,e2⟩:=qi (.int .i64 m.1) (.int .i64 m.2.1) (.slice A' m.2.2.length c') h.c0 h.c1 h.c2;refine⟨e0,e1,e2,fun j=>by rw[zas,zas,zas];exact h.fz j,?_,hn,h1,h2,by simpa using h.lt⟩;refine o.keep fun b hb=> ?_;have:=hn b hb
 rw[zaf _ _ _ b this,zaf _ _ _ b this,zaf _ _ _ b this]
theorem CBx.new {w W:World} {x y z:Value} {t:TypeId} (hW:W=w.alloc (.cells #[x,y,z] t)):CBx W w.heap.size x y z∧Below w.heap.size w W∧W.heap.size=w.heap.size+1:=by
 refine⟨⟨by rw[hW];simp[go_sem],by rw[hW];simp[go_sem],by rw[hW];simp[go_sem],fun j=>by rw[hW];simp[go_sem],by rw[hW];simp⟩,by rw[hW];exact(zao _ _).alloc (zag _) _,by rw[hW];simp⟩
theorem GBx.cbx {w:World} {p base:Nat} {A:Option Addr} {c:Nat} {g:GrD} (h:GBx w p base A c g):CBx w p (.int .i64 g.1) (.int .i64 g.2.1) (.slice A g.2.2.length c):=⟨h.c0,h.c1,h.c2,h.fz,h.lt⟩
theorem GBx.belowAt {w w':World} {p n base:Nat} {A:Option Addr} {c:Nat} {g:GrD} (h:GBx w p base A c g) (hb:Below n w w') (hn:p<n) (hr: ∀b,(zah A g.2.2.length c).ownBlock=some b→b<n):GBx w' p base A c g:=by
 have h2:=h.cbx.belowAt hb hn;exact⟨h2.c0,h2.c1,h2.c2,h2.fz,h.ow.keep fun b aJ=>hb.block b (hr b aJ),h.ne,h.i1,h.i2,h2.lt⟩
theorem qKb {w w2:World} {n:Nat} (h:w2.ownsRow w.heap.size 3 1 (.slice (some ⟨w.heap.size,0,none⟩) n n) n (zai n (Value.int .i64 0))):OwI w2 w.heap.size (.slice (some ⟨w.heap.size,0,none⟩) n n) (zai n 0):=by
 refine⟨?_,fun y hy=> ?_⟩
 ·rw[List.length_replicate];have:ints (zai n 0)=zai n (Value.int .i64 0):=by simp[ints]
  rw[this];exact h
 ·obtain⟨_,rfl⟩:=List.mem_replicate.1 hy;exact⟨by decide,by decide⟩
theorem qK (w:World) (p:Nat) (x y z:Value) {b:Nat} (h:b≠p):(((w.setCell ⟨p,0,none⟩ x).setCell ⟨p,1,none⟩ y).setCell ⟨p,2,none⟩ z).heap[b]? =w.heap[b]? :=by
 rw[zaf _ _ _ b h,zaf _ _ _ b h,zaf _ _ _ b h]
theorem qL {w0 w:World} {n p:Nat} (x y z:Value) (h:Below n w0 w) (hp:n≤p):Below n w0 (((w.setCell ⟨p,0,none⟩ x).setCell ⟨p,1,none⟩ y).setCell ⟨p,2,none⟩ z):=((h.setCell hp _).setCell hp _).setCell hp _
theorem qQ (w:World) (p:Nat) (x y z:Value):(((w.setCell ⟨p,0,none⟩ x).setCell ⟨p,1,none⟩ y).setCell ⟨p,2,none⟩ z).heap.size=w.heap.size:=by simp
theorem GBx.new {w W:World} {base:Nat} {A:Option Addr} {c:Nat} {m:GrD} {t:TypeId} (o:OwE w base (.slice A m.2.2.length c) m.2.2) (h1:I64 m.1) (h2:I64 m.2.1) (hW:W=w.alloc (.cells #[.int .i64 m.1, .int .i64 m.2.1, .slice A m.2.2.length c] t)):
  GBx W w.heap.size base A c m:=by
 have hb:Below w.heap.size w W:=by rw[hW];exact(zao _ _).alloc (zag _) _
 exact⟨by rw[hW];simp[go_sem],by rw[hW];simp[go_sem],by rw[hW];simp[go_sem],fun j=>by rw[hW];simp[go_sem],o.below hb,fun b hb=>by have:=(o.1.lt b hb).2;omega,h1,h2,by rw[hW];simp⟩
theorem GBx.mono {w:World} {p base base':Nat} {A:Option Addr} {c:Nat} {g:GrD} (h:GBx w p base A c g) (hb:base'≤base):GBx w p base' A c g:=
 ⟨h.c0,h.c1,h.c2,h.fz,h.ow.mono hb,h.ne,h.i1,h.i2,h.lt⟩
theorem qLh {g:GrD} {k:Nat} (hk:k<(qG g.1.toNat).length) (h0: ∀j (hj:j<(qG g.1.toNat).length),j<k→qF g.2.2 0 (qG g.1.toNat)[j]<0) (h:0≤qF g.2.2 0 (qG g.1.toNat)[k]):fstL g=(qG g.1.toNat)[k]:=by
 unfold fstL;have:(qG g.1.toNat).find? (fun x=>decide (0≤qF g.2.2 0 x))=some (qG g.1.toNat)[k]:=by
  rw[List.find?_eq_some_iff_getElem];refine⟨by simpa using h,k,hk,rfl,fun j hj=> ?_⟩;have:=h0 j tO hj
  simp
  omega
 rw[this];rfl
theorem qHo {f:Nat} {g:GrD} {t:List Int} (h:1<g.2.1∧degL g.2.2 0=1):qCB (f+1) g t=qCB f (movG g (qF g.2.2 0 (fstL g)).toNat) (t++ [fstL g]):=by
 rw[qCB,if_pos h]
theorem qFh {f:Nat} {g:GrD} {t:List Int} (h: ¬(1<g.2.1∧degL g.2.2 0=1)):qCB f g t=(g,t):=by
 cases f with
 | zero=>rfl
 | succ f=>rw[qCB,if_neg h]
theorem qEM (v:Value) (g:GrD) (w:World) (h:ArgG w v g) (hc:qR g=true):
  Calls Tryz.prog 82 #[v] w fun e w'=> ∃r o,e= .returned (.tuple #[r,o])∧OwG w' w.heap.size r (cycG g).1∧OwI w' w.heap.size o (cycG g).2∧Below w.heap.size w w':=by
 have HG:=qA h;have HC:=qA hc;have hf:=qP hc;have HF:=qA hf;obtain⟨aY,aO⟩:=qE hf;have aH:=qA aY;obtain⟨li,fG,aQ,_⟩:=qB aY;have iG:Hid (qCB 40 g []=cycG g):=qA rfl;have tJ:=qA (qJe 40 g [] hc tO);change Hid ¬(1<(cycG g).1.2.1∧degL (cycG g).1.2.2 0=1) at tJ;generalize cycG g=RES at*;obtain⟨s,rfl,aT,aS,ha⟩:=h;obtain⟨A,cap,rfl⟩:=ha.form;obtain⟨g1,N,es⟩:=g;simp only at*
 clear ha aY aO hf hc;go_enter Tryz.func82,Tryz.ntmps82
 go_wp2_with fail;obtain⟨W1,an⟩: ∃W,W=w.alloc (.cells #[.int .i64 g1,.int .i64 N, .slice A es.length cap] 26):=⟨_,rfl⟩;rw[←an];obtain⟨aw,b1,aR,_⟩:=gbox an;obtain⟨W2,aD⟩: ∃W,W=W1.alloc (.cells #[.int .i64 0,.int .i64 0, .slice none 0 0] 26):=⟨_,rfl⟩;rw[←aD];obtain⟨cT,b2,dg,a7⟩:=gbox aD;obtain⟨W,hW⟩: ∃W,W=W2.alloc (.cells #[] 3):=⟨_,rfl⟩;rw[←hW];have fS:W.heap.size=W2.heap.size+1:=by rw[hW];simp
 have b3:Below W2.heap.size W2 W:=by rw[hW];exact(zao _ _).alloc (zag _) _
 have o3:OwI W W2.heap.size (.slice (some ⟨W2.heap.size,0,none⟩) 0 0) []:=by rw[hW];exact qAE W2 [] qAT (by simp) (zag _)
 have bM:=qA aR;have cG:=qA dg;have fY:=qA a7;have nZ:=qA b1;have fH:=qA b2;have Fo:=qA b3;have aW:W.heap.size=w.heap.size+3:=tO;have e2:W2.heap.size=w.heap.size+2:=tO;have O3:Hid (OwI W (w.heap.size+2) (.slice (some ⟨w.heap.size+1+1,0,none⟩) 0 0) []):=qA (by rw[show w.heap.size+1+1=W2.heap.size by omega];exact o3.mono tO);have BX:Hid (Below w.heap.size w W):=qA (b1.trans ((b2.trans (b3.mono tO)).mono tO));have bH:Hid (∀w',Below (w.heap.size+2) W w'→w'.cell? ⟨w.heap.size,0,none⟩=some (.int .i64 g1)∧w'.cell? ⟨w.heap.size,1,none⟩=some (.int .i64 N)∧w'.cell? ⟨w.heap.size,2,none⟩=some (.slice A es.length cap)):=qA fun w' hb=>bM.out w' ((fH.out.mono tO).trans ((Fo.out.mono tO).trans (hb.mono tO)));have k8:Hid (∀w',Below (w.heap.size+2) W w'→(w'.cell? ⟨w.heap.size+1,0,none⟩=some (.int .i64 0)∧w'.cell? ⟨w.heap.size+1,1,none⟩=some (.int .i64 0)∧w'.cell? ⟨w.heap.size+1,2,none⟩=some (.slice none 0 0))∧ ∀j,w'.frozen? ⟨w.heap.size+1,j,none⟩=false):=qA fun w' hb=>by
  have e:Below (W1.heap.size+1) W2 w':=(Fo.out.mono tO).trans (hb.mono tO);have h1:=cG.out w' e;have h2:=fun j=>fY.out j w' e;rw[aw] at h1 h2;exact⟨h1,h2⟩
 have HA:Hid (∀w',Below (w.heap.size+2) W w'→ArgG w' (.agg #[.int .i64 g1, .int .i64 N, .slice A es.length cap]) (g1,N,es)):=qA fun w' hb=>HG.out.below (BX.out.trans (hb.mono tO));clear an aD hW aR dg a7 b1 b2 b3 o3 bM cG fY nZ fH Fo aw cT fS;clear e2;have aO:=qAH _ (g1,N,es) W (HA.out W ((zao W.heap.size W).mono tO));rw[HC.out] at aO;refine aO.mono ?_;clear aO;rintro e w4 ⟨rfl,b4⟩;have lZ:=b4.size;have B4:Hid (Below (w.heap.size+2) W w4):=qA (b4.mono tO);have O4:=qA (O3.out.below b4);obtain⟨q0,q1,q2⟩:=bH.out w4 B4.out;clear b4;go_wp2_with fail;refine(qBV _ (g1,N,es) w4 (HA.out w4 B4.out) (by simp only;omega)).mono ?_
 clear q0 q1 q2;rintro e w5 ⟨r,rfl,o5,b5⟩;have gW:=b5.size;have B5:Hid (Below (w.heap.size+2) W w5):=qA (B4.out.trans (b5.mono tO));have O5:=qA (O4.out.below b5);obtain⟨s1,rfl,_,_,bg⟩:=o5;obtain⟨A1,c1,rfl,_⟩:=bg.form;simp only at*
 clear b5;go_wp2_with fail;obtain⟨W6,dW⟩: ∃W,W=w5.alloc (.cells #[.int .i64 g1,.int .i64 N, .slice A1 es.length c1] 26):=⟨_,rfl⟩;have og:=qA (GBx.new (m:=(g1,N,es)) bg aT aS dW);have GB:Hid (∀b,(zah A1 es.length c1).ownBlock=some b→b≠w.heap.size+2):=qA fun b hb=>by have:=(bg.1.lt b hb).1;omega
 obtain⟨iD,b6,_,_⟩:=gbox dW;rw[←dW];have B6:Hid (Below (w.heap.size+2) W W6):=qA (B5.out.trans (b6.mono tO));have O6:=qA (O5.out.below b6);clear dW b6 bg;obtain⟨p,hp⟩: ∃p,p=w5.heap.size:=⟨_,rfl⟩;rw[←hp] at og⊢;have ym:w.heap.size+3≤p:=tO;have Kg:p<W6.heap.size:=tO;have Ri:w.heap.size+2≤w4.heap.size:=tO;clear hp iD gW lZ;go_loopw [4,6] (fun tl i wr=> ∃(k:Nat) (gk:GrD) (t:List Int) (A2:Option Addr) (c2:Nat),k≤40∧i= .int .i64 k∧qR gk=true∧qCB (40-k) gk t=RES∧gk.2.1+k≤40∧t.length≤k∧GBx wr p (w.heap.size+2) A2 c2 gk∧OwI wr (w.heap.size+2) tl t∧(∀b,tl.ownBlock=some b→b≠p∧(zah A2 gk.2.2.length c2).ownBlock≠some b)∧Below (w.heap.size+2) W wr) (fun _ i _=>40-(intOf i).toNat)
 case atStart=>
  exact⟨0,(g1,N,es),[],A1,c1,zat _,rfl,HC.out,iG.out,(by simp only;omega),zat _,og.out.mono tO,O6.out,fun b hb=>⟨by simp[zaj] at hb;omega,fun e=>GB.out b e (by simp[zaj] at hb;omega)⟩,B6.out⟩
 case round=>
  obtain⟨k,gk,t,A2,c2,hk,rfl,iE,zK,aq,CY,a8,pz,jq,aZ⟩:=hrel;obtain⟨wk,rfl⟩: ∃wk:World,wk=wr:=⟨_,rfl⟩;have fQ:=qP iE;obtain⟨fB,kO⟩:=qE fQ;obtain⟨yc,CR,pY,_⟩:=qB fB;have jk:=qA (fun hd=>qDS fB hd);have kW:=qA (fun hd=>qJu fB kO hd);have nc:=qA (qO fB);have GI:=qA (fun (u:Nat) hu=>qBP fQ (u:=u) hu);have ir:=qA (fun hd=>qJQ fQ hd);have cK:=qA (fun (f:Nat) hd=>qHo (f:=f) (g:=gk) (t:=t) hd);have Ft:=qA (fun (f:Nat) hd=>qFh (f:=f) (g:=gk) (t:=t) hd);have ONE:=qA (qp kO);have uo:=qA fQ;have rU:=qA zK;have aI:=qA a8;have ua:=qA pz;have d8:=qA jq;have dV:=qA aZ;obtain⟨At,ct,rfl,_⟩:=pz.form;obtain⟨rk,nk,ek⟩:=gk;obtain⟨rn,rfl⟩: ∃rn:Nat,rk=(rn:Int):=⟨rk.toNat,by simp only at yc;omega⟩;simp only[zal] at*;have fd:Hid (∀k (hk:k<(qG rn).length),(∀j (hj:j<(qG rn).length),j<k→qF ek 0 (qG rn)[j]<0)→0≤qF ek 0 (qG rn)[k]→fstL ((rn:Int),nk,ek)=(qG rn)[k]):=qA fun k hk h0 h1=>qLh (g:=((rn:Int),nk,ek)) hk h0 h1;obtain⟨z0,z1,z2⟩:=a8.cs;simp only at z0 z1 z2
  have mQ:=a8.lt;clear iE fQ fB kO zK a8 pz jq aZ;have mT:(k:Int)<40:=tO;have gJ:Hid (∀wf,Below wk.heap.size wk wf→ ¬(1<nk∧degL ek 0=1)→(((rn:Int),nk,ek),t)=RES):=qA fun wf _ hn=>by rw[←rU.out,Ft.out _ hn]
  rcases es1:decide (1<nk) with _ | _
  ·have jr: ¬1<nk:=by simpa using es1
   have HT:=gJ.out wk (zao _ _) (fun q=>jr q.1);obtain⟨⟨r0,r1,r2⟩,cF⟩:=k8.out wk dV.out;have eu:=cF 0;have eE:=cF 1;have eG:=cF 2;have aj:=qA (BX.out.trans (dV.out.mono tO));have px:w.heap.size+1≠p:=tO;have wN:=qA HT;clear cF HT;go_wp2;obtain⟨e0,e1,e2⟩:=qi (.int .i64 (rn:Int)) (.int .i64 nk) (.slice A2 ek.length c2) r0 r1 r2;have bw:Below w.heap.size w (((wk.setCell ⟨w.heap.size+1,0,none⟩ (.int .i64 (rn:Int))).setCell ⟨w.heap.size+1,1,none⟩ (.int .i64 nk)).setCell ⟨w.heap.size+1,2,none⟩ (.slice A2 ek.length c2)):=qL _ _ _ aj.out tO;have ow:OwE (((wk.setCell ⟨w.heap.size+1,0,none⟩ (.int .i64 (rn:Int))).setCell ⟨w.heap.size+1,1,none⟩ (.int .i64 nk)).setCell ⟨w.heap.size+1,2,none⟩ (.slice A2 ek.length c2)) (w.heap.size+2) (.slice A2 ek.length c2) ek:=aI.out.ow.keep fun b hb=>qK _ _ _ _ _ (by have:=(aI.out.ow.1.lt b hb).1;omega);have ot:OwI (((wk.setCell ⟨w.heap.size+1,0,none⟩ (.int .i64 (rn:Int))).setCell ⟨w.heap.size+1,1,none⟩ (.int .i64 nk)).setCell ⟨w.heap.size+1,2,none⟩ (.slice A2 ek.length c2)) (w.heap.size+2) (.slice At t.length ct) t:=ua.out.keepB fun b hb=>qK _ _ _ _ _ (by have:=(ua.out.1.lt b hb).1;omega);have i1:=aI.out.i1;have i2:=aI.out.i2;generalize (((wk.setCell ⟨w.heap.size+1,0,none⟩ (.int .i64 (rn:Int))).setCell ⟨w.heap.size+1,1,none⟩ (.int .i64 nk)).setCell ⟨w.heap.size+1,2,none⟩ (.slice A2 ek.length c2))=wf at*;rw[←wN.out];exact bodyPost_ret (v:= .tuple #[.agg #[.int .i64 (rn:Int), .int .i64 nk, .slice A2 ek.length c2], .slice At t.length ct]) (by simp[results,Tryz.results82,go_sem,e0,e1,e2]) rfl ⟨_,_,rfl,⟨.slice A2 ek.length c2,rfl,i1,i2,ow.mono tO⟩,ot.mono tO,bw⟩
  ·have jr:1<nk:=by simpa using es1
   go_wp2_with fail;refine(qDE _ ((rn:Int),nk,ek) 0 wk aI.out.arg (by simp only;omega)).mono ?_
   rintro e w7 ⟨rfl,b7⟩;have lB:=b7.size;have dP:=qA (aI.out.below b7);have kP:=qA (ua.out.below b7);have DE:=qA b7;have B7:=qA (dV.out.trans (b7.mono (by have:=dV.out.size;omega)));obtain⟨z0,z1,z2⟩:=dP.out.cs;simp only at z0 z1 z2
   clear b7;rcases ed:((degL ek 0:Int)==1) with _ | _
   ·have wT: ¬degL ek 0=1:=fun q=>by simp[q] at ed
    have HT:=gJ.out w7 DE.out (fun q=>wT q.2);obtain⟨⟨r0,r1,r2⟩,cF⟩:=k8.out w7 B7.out;have eu:=cF 0;have eE:=cF 1;have eG:=cF 2;have aj:=qA (BX.out.trans (B7.out.mono tO));have px:w.heap.size+1≠p:=tO;have wN:=qA HT;clear cF HT;go_wp2;obtain⟨e0,e1,e2⟩:=qi (.int .i64 (rn:Int)) (.int .i64 nk) (.slice A2 ek.length c2) r0 r1 r2;have bw:Below w.heap.size w (((w7.setCell ⟨w.heap.size+1,0,none⟩ (.int .i64 (rn:Int))).setCell ⟨w.heap.size+1,1,none⟩ (.int .i64 nk)).setCell ⟨w.heap.size+1,2,none⟩ (.slice A2 ek.length c2)):=qL _ _ _ aj.out tO;have ow:OwE (((w7.setCell ⟨w.heap.size+1,0,none⟩ (.int .i64 (rn:Int))).setCell ⟨w.heap.size+1,1,none⟩ (.int .i64 nk)).setCell ⟨w.heap.size+1,2,none⟩ (.slice A2 ek.length c2)) (w.heap.size+2) (.slice A2 ek.length c2) ek:=dP.out.ow.keep fun b hb=>qK _ _ _ _ _ (by have:=(dP.out.ow.1.lt b hb).1;omega);have ot:OwI (((w7.setCell ⟨w.heap.size+1,0,none⟩ (.int .i64 (rn:Int))).setCell ⟨w.heap.size+1,1,none⟩ (.int .i64 nk)).setCell ⟨w.heap.size+1,2,none⟩ (.slice A2 ek.length c2)) (w.heap.size+2) (.slice At t.length ct) t:=kP.out.keepB fun b hb=>qK _ _ _ _ _ (by have:=(kP.out.1.lt b hb).1;omega);have i1:=dP.out.i1;have i2:=dP.out.i2;generalize (((w7.setCell ⟨w.heap.size+1,0,none⟩ (.int .i64 (rn:Int))).setCell ⟨w.heap.size+1,1,none⟩ (.int .i64 nk)).setCell ⟨w.heap.size+1,2,none⟩ (.slice A2 ek.length c2))=wf at*;rw[←wN.out];exact bodyPost_ret (v:= .tuple #[.agg #[.int .i64 (rn:Int), .int .i64 nk, .slice A2 ek.length c2], .slice At t.length ct]) (by simp[results,Tryz.results82,go_sem,e0,e1,e2]) rfl ⟨_,_,rfl,⟨.slice A2 ek.length c2,rfl,i1,i2,ow.mono tO⟩,ot.mono tO,bw⟩
   ·have jG:degL ek 0=1:=by simp at ed;omega
    have Qh:=qA jG;have jk:=qA (jk.out jG);have kW:=qA (kW.out jG);have ir:=qA (ir.out jG);have cK:=qA (fun f=>cK.out f ⟨jr,jG⟩);clear jG gJ;go_wp2_with fail;refine(qAs rn w7 tO).mono ?_
    rintro e w8 ⟨rl,rfl,ol,b8⟩;have vE:=b8.size;have B8:=qA (B7.out.trans (b8.mono (by have:=B7.out.size;omega)));have vX:=qA (dP.out.below b8);have vS:=qA (kP.out.below b8);have dT:=qy rn;have gZ:Hid (∀x∈qG rn,-3≤x∧x≤3):=qA fun x hx=>by have:=qX.1 hx;omega
    generalize qG rn=ls at*;obtain⟨Al,capl,rfl,cU,cV,_,dC⟩:=ol.form;obtain⟨bl,rfl,jR,dw⟩:=dC tO;unfold maxLen at cV;have OL:=qA ol.rd;clear ol b8 z0 z1 z2 dC;go_wp2;go_loopw [4,8] (fun tl j wr=> ∃m:Nat,tl= .slice At t.length ct∧m≤ls.length∧j= .int .i64 m∧(∀i (hi:i<ls.length),i<m→qF ek 0 ls[i]<0)∧Below w8.heap.size w8 wr) (fun _ j _=>ls.length-(intOf j).toNat)
    case atStart=>exact⟨0,rfl,zat _,rfl,fun i _ hi=>absurd hi (zax _),zao _ _⟩
    case round=>
     obtain⟨m,rfl,hm,rfl,dE,hb⟩:=hrel;have je:=qA dE;have iC:=hb.size;have B9:=qA (B8.out.trans (hb.mono (by have:=B8.out.size;omega)));have cH:=qA (vX.out.below hb);have wJ:=qA (vS.out.below hb);have Ag:=qA (OL.out.below hb);have eh:=qA hb;clear dE hb;by_cases ac:m<ls.length
     ·obtain⟨_,_,dp,_,dO⟩:=Ag.out.at tO;obtain⟨rfl,rfl⟩:bl=_∧0=_:=by simpa using dp
      have c0:=dO m ac;rw[zaD] at c0;have mI:=qA (fd.out m ac (fun j hj hjm=>je.out j hj hjm));have gQ:=qA (gZ.out ls[m] (zay ac));have cS:=qA (fun x W (h:ArgG W (.agg #[.int .i64 (rn:Int), .int .i64 nk, .slice A2 ek.length c2]) ((rn:Int),nk,ek))=>qU _ ((rn:Int),nk,ek) 0 x W h (ONE.out 0 x));have pr:Hid (qF ek 0 ls[m]<0→ ∀i (hi:i<ls.length),i<m+1→qF ek 0 ls[i]<0):=qA fun h i hi dj=>by
       by_cases eR:i<m
       ·exact je.out i hi eR
       ·obtain rfl:i=m:=tO
        exact h
      obtain⟨x,hx⟩: ∃x,ls[m]=x:=⟨_,rfl⟩;have jM:=qA hx;rw[hx] at c0 mI gQ pr;clear hx;obtain⟨z0,z1,z2⟩:=cH.out.cs;simp only at z0 z1 z2
      have lC:=cH.out.lt;have bN:bl<wr.heap.size:=tO;clear dp dO;go_wp2_with fail;have f0:=BelW.cell z0 lC;have f1:=BelW.cell z1 lC;have f2:=BelW.cell z2 lC;have f3:=BelW.cell c0 bN;(refine qH tK tK ?_;(repeat(go_big_quiet_step (first | (go_at_call 86;exact Calls.bel_of (cS.out _ _ (cH.out.below (BelW.h _)).arg)))));refine wpQuiet_nil ?_;intro wq aA;obtain⟨pq,ae⟩:=aA;have bq:=pq.h;rw[←ae] at bq;clear ae pq)
      clear f0 f1 f2 f3 z0 z1 z2 c0;have sq:=bq.size;have aV:=qA (cH.out.below bq);have nw:=qA (wJ.out.below bq);have Bq:=qA (B9.out.trans (bq.mono (by have:=B9.out.size;omega)));have rS:=qA (eh.out.trans (bq.mono tO));clear bq;have HR:=qA (nc.out 0 x);rcases ey:decide (0≤qF ek 0 x) with _ | _
      ·have hy: ¬0≤qF ek 0 x:=by simpa using ey
       have vh:=qA (pr.out tO);generalize qF ek 0 x=y at*;go_wp2;go_roundw
       case rel=>exact⟨m+1,rfl,tO,by go_num,vh.out,rS.out⟩
       case measure=>simp[intOf];omega
      ·have hy:0≤qF ek 0 x:=by simpa using ey
       have Bn:=qA (mI.out hy);rw[Bn.out] at cK ir kW jk;have lJ:qF ek 0 x<nk:=by
        have:=HR.out
        omega
       have vK:Hid (I64 x):=qA (by have:=gQ.out;unfold I64;omega);obtain⟨u,hu⟩: ∃u:Nat,qF ek 0 x=(u:Int):=⟨(qF ek 0 x).toNat,tO⟩;rw[hu] at cK ir lJ hy⊢;have tL:=qA (GI.out u lJ);have FW:=qA lJ;rw[zal] at cK ir;clear hu mI pr Bn HR ey;obtain⟨z0,z1,z2⟩:=aV.out.cs;have lC:=aV.out.lt;have sZ:=qA (OL.out.below rS.out);have tj:m<ls.length:=ac;obtain⟨_,_,dp,_,dO⟩:=sZ.out.at tO;obtain⟨rfl,rfl⟩:bl=_∧0=_:=by simpa using dp
       have c0:=dO m ac;rw[zaD] at c0;have Mj:Hid (ls[m]=x):=jM;rw[Mj.out] at c0;clear dp dO;have AT:w.heap.size+2≤wq.heap.size:=tO;have BA:Hid (Below wq.heap.size wq (wq.alloc (.cells #[.int .i64 x] 3))):=qA ((zao _ _).alloc (zag _) _);have xz:Hid ((wq.alloc (.cells #[.int .i64 x] 3)).heap.size=wq.heap.size+1):=qA (by simp);clear z0 z1 z2;obtain⟨z0,z1,z2⟩:=(aV.out.below BA.out).cs;go_wp2_with ((at_builtin;refine qd rfl (.tmp 50) (.tmp 55) rfl _ _ _ (OwI.alloc nw.out _) rfl _ _ rfl (qa _ _ _) vK.out (by first | omega | (simp<;>omega)) (by first | omega | (simp<;>omega)) ?_;intro v9 wv9 o9 g9 p9);have iv:=qA ((aV.out.below BA.out).grown g9 (d8.out));have O9:=qA o9;have G9:=qA g9;have P9:=qA p9;clear z0 z1 z2 o9 g9 p9;obtain⟨z0,z1,z2⟩:=iv.out.cs;simp only at z0 z1 z2)
       have kn:=G9.out.size;rw[xz.out] at kn;have KL:Hid (Below (w.heap.size+2) W wv9):=qA (qe Bq.out AT nw.out.1 (zag _) G9.out);have gG:Hid (∀b,v9.ownBlock=some b→b≠p∧(zah A2 ek.length c2).ownBlock≠some b):=qA fun b hb=>by
        rcases P9.out with p9 | p9
        ·rw[p9] at hb;exact d8.out b hb
        ·rw[p9,xz.out] at hb;have cA:b=wq.heap.size+1:=by simpa using hb.symm
         refine⟨tO,fun e=> ?_⟩;have:=(aV.out.ow.1.lt b e).2
         omega
       have tD:=qA iv.out.arg;clear z0 z1 z2 c0;refine(qDD _ ((rn:Int),nk,ek) u wv9 tD.out uo.out FW.out).mono ?_
       rintro e kN ⟨KR,rfl,EQ,iX⟩;have pZ:=iX.size;have bT:=qA (iv.out.below iX);have FR:=qA (O9.out.below iX);have ye:=qA (KL.out.trans (iX.mono tO));generalize movG ((rn:Int),nk,ek) u=M at*;obtain⟨m1,m2,ms⟩:=M;obtain⟨Pd,rfl,bV,ce,gM⟩:=EQ;obtain⟨A9,c9,rfl,_⟩:=gM.form;simp only at bV ce gM
       have xS:Hid (∀b,(zah A9 ms.length c9).ownBlock=some b→wv9.heap.size≤b):=qA fun b hb=>(gM.1.lt b hb).1;have rB:=qA (bT.out.set (m:=(m1,m2,ms)) gM (fun b hb=>by have:=xS.out b hb;have:=iv.out.lt;omega) bV ce);obtain⟨z0,z1,z2⟩:=bT.out.cs;simp only at z0 z1 z2
       have fA:=bT.out.fz 0;have fc:=bT.out.fz 1;have eJ:=bT.out.fz 2;have OK:=qA (FR.out.keepB (w':=(((kN.setCell ⟨p,0,none⟩ (.int .i64 m1)).setCell ⟨p,1,none⟩ (.int .i64 m2)).setCell ⟨p,2,none⟩ (.slice A9 ms.length c9))) fun b hb=>qK _ _ _ _ _ (gG.out b hb).1);have OH:Hid (∀b,v9.ownBlock=some b→b≠p∧(zah A9 ms.length c9).ownBlock≠some b):=qA fun b hb=>⟨(gG.out b hb).1,fun e=>by have:=xS.out b e;have:=(O9.out.1.lt b hb).2;omega⟩;have BN:Hid (Below (w.heap.size+2) W (((kN.setCell ⟨p,0,none⟩ (.int .i64 m1)).setCell ⟨p,1,none⟩ (.int .i64 m2)).setCell ⟨p,2,none⟩ (.slice A9 ms.length c9))):=qA (qL _ _ _ ye.out tO);have eA:Hid (qCB (40-(k+1)) (m1,m2,ms) (t++ [x])=RES):=qA (by
        rw[←cK.out,←rU.out,show 40-k=(40-(k+1))+1 by omega])
       have cV:=ir.out;simp only at cV
       clear gM iX;go_wp2;go_roundw
       case rel=>exact⟨k+1,(m1,m2,ms),t++ [x],A9,c9,tO,by go_num,tL.out,eA.out,by simp only;omega,by rw[zav,zaw];omega,rB.out.mono tO,OK.out,OH.out,BN.out⟩
       case measure=>simp[intOf];omega
     ·exfalso
      obtain⟨k2,iL,eP⟩:=zam jk.out.1;have:=je.out k2 iL tO
      rw[eP] at this;have:=jk.out.2
      omega
theorem qEP (v:Value) (g:GrD) (w:World) (h:ArgG w v g) (hc:qR g=true):
  Calls Tryz.prog 76 #[v] w fun e w'=> ∃r o,e= .returned (.tuple #[r,o])∧OwG w' w.heap.size r (cycG g).1∧OwI w' w.heap.size o (cycG g).2∧Below w.heap.size w w':=by
 have HG:=qA h;have HC:=qA hc;have hf:=qP hc;have HF:=qA hf;obtain⟨aY,aO⟩:=qE hf;have aH:=qA aY;obtain⟨li,fG,aQ,_⟩:=qB aY;have iG:Hid (qCB 40 g []=cycG g):=qA rfl;have tJ:=qA (qJe 40 g [] hc tO);change Hid ¬(1<(cycG g).1.2.1∧degL (cycG g).1.2.2 0=1) at tJ;generalize cycG g=RES at*;obtain⟨s,rfl,aT,aS,ha⟩:=h;obtain⟨A,cap,rfl⟩:=ha.form;obtain⟨g1,N,es⟩:=g;simp only at*
 clear ha aY aO hf hc;go_enter Tryz.func76,Tryz.ntmps76
 go_wp2_with fail;obtain⟨W1,an⟩: ∃W,W=w.alloc (.cells #[.int .i64 g1,.int .i64 N, .slice A es.length cap] 26):=⟨_,rfl⟩;rw[←an];obtain⟨aw,b1,aR,_⟩:=gbox an;obtain⟨W,hW⟩: ∃W,W=W1.alloc (.cells #[.int .i64 0,.int .i64 0, .slice none 0 0] 26):=⟨_,rfl⟩;rw[←hW];obtain⟨cT,b2,dg,a7⟩:=gbox hW;have bM:=qA aR;have cG:=qA dg;have fY:=qA a7;have nZ:=qA b1;have fH:=qA b2;have aW:W.heap.size=w.heap.size+2:=tO;have BX:Hid (Below w.heap.size w W):=qA (b1.trans (b2.mono tO));have bH:Hid (∀w',Below (w.heap.size+2) W w'→w'.cell? ⟨w.heap.size,0,none⟩=some (.int .i64 g1)∧w'.cell? ⟨w.heap.size,1,none⟩=some (.int .i64 N)∧w'.cell? ⟨w.heap.size,2,none⟩=some (.slice A es.length cap)):=qA fun w' hb=>bM.out w' ((fH.out.mono tO).trans (hb.mono tO));have k8:Hid (∀w',Below (w.heap.size+2) W w'→(w'.cell? ⟨w.heap.size+1,0,none⟩=some (.int .i64 0)∧w'.cell? ⟨w.heap.size+1,1,none⟩=some (.int .i64 0)∧w'.cell? ⟨w.heap.size+1,2,none⟩=some (.slice none 0 0))∧ ∀j,w'.frozen? ⟨w.heap.size+1,j,none⟩=false):=qA fun w' hb=>by
  have e:Below (W1.heap.size+1) W w':=hb.mono tO;have h1:=cG.out w' e;have h2:=fun j=>fY.out j w' e;rw[aw] at h1 h2;exact⟨h1,h2⟩
 have HA:Hid (∀w',Below (w.heap.size+2) W w'→ArgG w' (.agg #[.int .i64 g1, .int .i64 N, .slice A es.length cap]) (g1,N,es)):=qA fun w' hb=>HG.out.below (BX.out.trans (hb.mono tO));clear an hW aR dg a7 b1 b2 bM cG fY nZ fH aw cT;refine(qBL _ (g1,N,es) W (HA.out W ((zao W.heap.size W).mono tO)) (by simp only;omega)).mono ?_
 rintro e w5 ⟨r,rfl,o5,b5⟩;have gW:=b5.size;have B5:Hid (Below (w.heap.size+2) W w5):=qA (b5.mono tO);obtain⟨s1,rfl,_,_,bg⟩:=o5;obtain⟨A1,c1,rfl,_⟩:=bg.form;simp only at*
 clear b5;obtain⟨q0,q1,q2⟩:=bH.out w5 B5.out;have PI:w.heap.size<w5.heap.size:=tO;go_wp2_with fail;clear q0 q1 q2;obtain⟨W6,dW⟩: ∃W,W=w5.alloc (.cells #[.int .i64 g1,.int .i64 N, .slice A1 es.length c1] 26):=⟨_,rfl⟩;have og:=qA (GBx.new (m:=(g1,N,es)) bg aT aS dW);obtain⟨iD,b6,_,_⟩:=gbox dW;rw[←dW];have B6:Hid (Below (w.heap.size+2) W W6):=qA (B5.out.trans (b6.mono tO));have Je:Hid (∀b,(zah A1 es.length c1).ownBlock=some b→b<w5.heap.size):=qA fun b hb=>(bg.1.lt b hb).2;clear dW b6 bg;obtain⟨W7,pd⟩: ∃W,W=W6.alloc (.cells #[] 3):=⟨_,rfl⟩;rw[←pd];have lB:W7.heap.size=W6.heap.size+1:=by rw[pd];simp
 have b7:Below W6.heap.size W6 W7:=by rw[pd];exact(zao _ _).alloc (zag _) _
 have o7:OwI W7 W6.heap.size (.slice (some ⟨W6.heap.size,0,none⟩) 0 0) []:=by rw[pd];exact qAE W6 [] qAT (by simp) (zag _)
 have B7:Hid (Below (w.heap.size+2) W W7):=qA (B6.out.trans (b7.mono tO));have pw:=qA (og.out.below b7);have O7:=qA o7;clear pd b7 o7;have aO:=qAR _ (g1,N,es) W7 (HA.out W7 B7.out);rw[HC.out] at aO;refine aO.mono ?_;clear aO;rintro e w8 ⟨rfl,b8⟩;have vE:=b8.size;have B8:Hid (Below (w.heap.size+2) W w8):=qA (B7.out.trans (b8.mono tO));have jT:=qA (pw.out.below b8);have O8:=qA (O7.out.below b8);clear b8;obtain⟨p,hp⟩: ∃p,p=w5.heap.size:=⟨_,rfl⟩;have KM:w5.heap.size+1=p+1:=tO;rw[←hp] at jT Je⊢;have ym:w.heap.size+2≤p:=tO;have MU:W6.heap.size=p+1:=tO;rw[MU] at O8;have QZ:p<w8.heap.size:=tO;clear hp gW iD lB vE og pw B5 B6 B7 O7;go_wp2;go_loopw [5] (fun tl wr=> ∃(gk:GrD) (t:List Int) (A2:Option Addr) (c2:Nat),t.length≤40∧qR gk=true∧qCB (40-t.length) gk t=RES∧gk.2.1+t.length≤40∧GBx wr p (w.heap.size+2) A2 c2 gk∧OwI wr (w.heap.size+2) tl t∧(∀b,tl.ownBlock=some b→b≠p∧(zah A2 gk.2.2.length c2).ownBlock≠some b)∧Below (w.heap.size+2) W wr) (fun o _=>40-sLen o)
 case atStart=>
  exact⟨(g1,N,es),[],A1,c1,zat _,HC.out,iG.out,(by simp only[zaV];omega),jT.out.mono tO,O8.out.mono tO,fun b hb=>⟨by simp[zaj] at hb;omega,fun e=>by have:=Je.out b e;simp[zaj] at hb;omega⟩,B8.out⟩
 case round=>
  obtain⟨gk,t,A2,c2,CY,iE,zK,aq,a8,pz,jq,aZ⟩:=hrel;obtain⟨wk,rfl⟩: ∃wk:World,wk=wr:=⟨_,rfl⟩;have fQ:=qP iE;obtain⟨fB,kO⟩:=qE fQ;obtain⟨yc,CR,pY,_⟩:=qB fB;have jk:=qA (fun hd=>qDS fB hd);have kW:=qA (fun hd=>qJu fB kO hd);have nc:=qA (qO fB);have GI:=qA (fun (u:Nat) hu=>qBP fQ (u:=u) hu);have ir:=qA (fun hd=>qJQ fQ hd);have cK:=qA (fun (f:Nat) hd=>qHo (f:=f) (g:=gk) (t:=t) hd);have Ft:=qA (fun (f:Nat) hd=>qFh (f:=f) (g:=gk) (t:=t) hd);have ONE:=qA (qp kO);have LET:=qA (qAn fB);have uo:=qA fQ;have rU:=qA zK;have aI:=qA a8;have ua:=qA pz;have d8:=qA jq;have dV:=qA aZ;obtain⟨At,ct,rfl,_⟩:=pz.form;obtain⟨rk,nk,ek⟩:=gk;obtain⟨rn,rfl⟩: ∃rn:Nat,rk=(rn:Int):=⟨rk.toNat,by simp only at yc;omega⟩;simp only[zal] at*;have fd:Hid (∀k (hk:k<(qG rn).length),(∀j (hj:j<(qG rn).length),j<k→qF ek 0 (qG rn)[j]<0)→0≤qF ek 0 (qG rn)[k]→fstL ((rn:Int),nk,ek)=(qG rn)[k]):=qA fun k hk h0 h1=>qLh (g:=((rn:Int),nk,ek)) hk h0 h1;obtain⟨z0,z1,z2⟩:=a8.cs;simp only at z0 z1 z2
  have mQ:=a8.lt;clear iE fQ fB kO zK a8 pz jq aZ;have NQ:t.length<40:=tO;have gJ:Hid (∀wf,Below wk.heap.size wk wf→ ¬(1<nk∧degL ek 0=1)→(((rn:Int),nk,ek),t)=RES):=qA fun wf _ hn=>by rw[←rU.out,Ft.out _ hn]
  rcases es1:decide (1<nk) with _ | _
  ·have jr: ¬1<nk:=by simpa using es1
   have HT:=gJ.out wk (zao _ _) (fun q=>jr q.1);obtain⟨⟨r0,r1,r2⟩,cF⟩:=k8.out wk dV.out;have eu:=cF 0;have eE:=cF 1;have eG:=cF 2;have aj:=qA (BX.out.trans (dV.out.mono tO));have px:w.heap.size+1≠p:=tO;have wN:=qA HT;clear cF HT;go_wp2;obtain⟨e0,e1,e2⟩:=qi (.int .i64 (rn:Int)) (.int .i64 nk) (.slice A2 ek.length c2) r0 r1 r2;have bw:Below w.heap.size w (((wk.setCell ⟨w.heap.size+1,0,none⟩ (.int .i64 (rn:Int))).setCell ⟨w.heap.size+1,1,none⟩ (.int .i64 nk)).setCell ⟨w.heap.size+1,2,none⟩ (.slice A2 ek.length c2)):=qL _ _ _ aj.out tO;have ow:OwE (((wk.setCell ⟨w.heap.size+1,0,none⟩ (.int .i64 (rn:Int))).setCell ⟨w.heap.size+1,1,none⟩ (.int .i64 nk)).setCell ⟨w.heap.size+1,2,none⟩ (.slice A2 ek.length c2)) (w.heap.size+2) (.slice A2 ek.length c2) ek:=aI.out.ow.keep fun b hb=>qK _ _ _ _ _ (by have:=(aI.out.ow.1.lt b hb).1;omega);have ot:OwI (((wk.setCell ⟨w.heap.size+1,0,none⟩ (.int .i64 (rn:Int))).setCell ⟨w.heap.size+1,1,none⟩ (.int .i64 nk)).setCell ⟨w.heap.size+1,2,none⟩ (.slice A2 ek.length c2)) (w.heap.size+2) (.slice At t.length ct) t:=ua.out.keepB fun b hb=>qK _ _ _ _ _ (by have:=(ua.out.1.lt b hb).1;omega);have i1:=aI.out.i1;have i2:=aI.out.i2;generalize (((wk.setCell ⟨w.heap.size+1,0,none⟩ (.int .i64 (rn:Int))).setCell ⟨w.heap.size+1,1,none⟩ (.int .i64 nk)).setCell ⟨w.heap.size+1,2,none⟩ (.slice A2 ek.length c2))=wf at*;rw[←wN.out];exact bodyPost_ret (v:= .tuple #[.agg #[.int .i64 (rn:Int), .int .i64 nk, .slice A2 ek.length c2], .slice At t.length ct]) (by simp[results,Tryz.results76,go_sem,e0,e1,e2]) rfl ⟨_,_,rfl,⟨.slice A2 ek.length c2,rfl,i1,i2,ow.mono tO⟩,ot.mono tO,bw⟩
  ·have jr:1<nk:=by simpa using es1
   go_wp2_with fail;refine(qDC _ ((rn:Int),nk,ek) 0 wk aI.out.arg (by simp only;omega)).mono ?_
   rintro e w7 ⟨rfl,b7⟩;have lB:=b7.size;have dP:=qA (aI.out.below b7);have kP:=qA (ua.out.below b7);have DE:=qA b7;have B7:=qA (dV.out.trans (b7.mono (by have:=dV.out.size;omega)));obtain⟨z0,z1,z2⟩:=dP.out.cs;simp only at z0 z1 z2
   clear b7;rcases ed:((degL ek 0:Int)==1) with _ | _
   ·have wT: ¬degL ek 0=1:=fun q=>by simp[q] at ed
    have HT:=gJ.out w7 DE.out (fun q=>wT q.2);obtain⟨⟨r0,r1,r2⟩,cF⟩:=k8.out w7 B7.out;have eu:=cF 0;have eE:=cF 1;have eG:=cF 2;have aj:=qA (BX.out.trans (B7.out.mono tO));have px:w.heap.size+1≠p:=tO;have wN:=qA HT;clear cF HT;go_wp2;obtain⟨e0,e1,e2⟩:=qi (.int .i64 (rn:Int)) (.int .i64 nk) (.slice A2 ek.length c2) r0 r1 r2;have bw:Below w.heap.size w (((w7.setCell ⟨w.heap.size+1,0,none⟩ (.int .i64 (rn:Int))).setCell ⟨w.heap.size+1,1,none⟩ (.int .i64 nk)).setCell ⟨w.heap.size+1,2,none⟩ (.slice A2 ek.length c2)):=qL _ _ _ aj.out tO;have ow:OwE (((w7.setCell ⟨w.heap.size+1,0,none⟩ (.int .i64 (rn:Int))).setCell ⟨w.heap.size+1,1,none⟩ (.int .i64 nk)).setCell ⟨w.heap.size+1,2,none⟩ (.slice A2 ek.length c2)) (w.heap.size+2) (.slice A2 ek.length c2) ek:=dP.out.ow.keep fun b hb=>qK _ _ _ _ _ (by have:=(dP.out.ow.1.lt b hb).1;omega);have ot:OwI (((w7.setCell ⟨w.heap.size+1,0,none⟩ (.int .i64 (rn:Int))).setCell ⟨w.heap.size+1,1,none⟩ (.int .i64 nk)).setCell ⟨w.heap.size+1,2,none⟩ (.slice A2 ek.length c2)) (w.heap.size+2) (.slice At t.length ct) t:=kP.out.keepB fun b hb=>qK _ _ _ _ _ (by have:=(kP.out.1.lt b hb).1;omega);have i1:=dP.out.i1;have i2:=dP.out.i2;generalize (((w7.setCell ⟨w.heap.size+1,0,none⟩ (.int .i64 (rn:Int))).setCell ⟨w.heap.size+1,1,none⟩ (.int .i64 nk)).setCell ⟨w.heap.size+1,2,none⟩ (.slice A2 ek.length c2))=wf at*;rw[←wN.out];exact bodyPost_ret (v:= .tuple #[.agg #[.int .i64 (rn:Int), .int .i64 nk, .slice A2 ek.length c2], .slice At t.length ct]) (by simp[results,Tryz.results76,go_sem,e0,e1,e2]) rfl ⟨_,_,rfl,⟨.slice A2 ek.length c2,rfl,i1,i2,ow.mono tO⟩,ot.mono tO,bw⟩
   ·have jG:degL ek 0=1:=by simp at ed;omega
    have Qh:=qA jG;have jk:=qA (jk.out jG);have kW:=qA (kW.out jG);have ir:=qA (ir.out jG);have cK:=qA (fun f=>cK.out f ⟨jr,jG⟩);clear jG gJ;go_wp2_with fail;refine(qCA rn w7 tO).mono ?_
    rintro e w8 ⟨rl,rfl,ol,b8⟩;have vE:=b8.size;have B8:=qA (B7.out.trans (b8.mono (by have:=B7.out.size;omega)));have vX:=qA (dP.out.below b8);have vS:=qA (kP.out.below b8);have dT:=qy rn;have gZ:Hid (∀x∈qG rn,-3≤x∧x≤3):=qA fun x hx=>by have:=qX.1 hx;omega
    generalize qG rn=ls at*;obtain⟨Al,capl,rfl,cU,cV,_,dC⟩:=ol.form;obtain⟨bl,rfl,jR,dw⟩:=dC tO;unfold maxLen at cV;have OL:=qA ol.rd;clear ol b8 z0 z1 z2 dC;go_wp2;go_loopw [5,29] (fun tl j wr=> ∃m:Nat,tl= .slice At t.length ct∧m≤ls.length∧j= .int .i64 m∧(∀i (hi:i<ls.length),i<m→qF ek 0 ls[i]<0)∧Below w8.heap.size w8 wr) (fun _ j _=>ls.length-(intOf j).toNat)
    case atStart=>exact⟨0,rfl,zat _,rfl,fun i _ hi=>absurd hi (zax _),zao _ _⟩
    case round=>
     obtain⟨m,rfl,hm,rfl,dE,hb⟩:=hrel;have je:=qA dE;have iC:=hb.size;have B9:=qA (B8.out.trans (hb.mono (by have:=B8.out.size;omega)));have cH:=qA (vX.out.below hb);have wJ:=qA (vS.out.below hb);have Ag:=qA (OL.out.below hb);have eh:=qA hb;clear dE hb;by_cases ac:m<ls.length
     ·obtain⟨_,_,dp,_,dO⟩:=Ag.out.at tO;obtain⟨rfl,rfl⟩:bl=_∧0=_:=by simpa using dp
      have c0:=dO m ac;rw[zaD] at c0;have mI:=qA (fd.out m ac (fun j hj hjm=>je.out j hj hjm));have gQ:=qA (gZ.out ls[m] (zay ac));have cS:=qA (fun x W (h:ArgG W (.agg #[.int .i64 (rn:Int), .int .i64 nk, .slice A2 ek.length c2]) ((rn:Int),nk,ek))=>qU _ ((rn:Int),nk,ek) 0 x W h (ONE.out 0 x));have pr:Hid (qF ek 0 ls[m]<0→ ∀i (hi:i<ls.length),i<m+1→qF ek 0 ls[i]<0):=qA fun h i hi dj=>by
       by_cases eR:i<m
       ·exact je.out i hi eR
       ·obtain rfl:i=m:=tO
        exact h
      obtain⟨x,hx⟩: ∃x,ls[m]=x:=⟨_,rfl⟩;have jM:=qA hx;rw[hx] at c0 mI gQ pr;clear hx;obtain⟨z0,z1,z2⟩:=cH.out.cs;simp only at z0 z1 z2
      have lC:=cH.out.lt;clear dp dO;go_wp2_with fail;refine(qh _ ((rn:Int),nk,ek) 0 x wr cH.out.arg (ONE.out 0 x) LET.out).mono ?_
      rintro e wq ⟨rfl,bq⟩;clear z0 z1 z2 c0;have sq:=bq.size;have aV:=qA (cH.out.below bq);have nw:=qA (wJ.out.below bq);have Bq:=qA (B9.out.trans (bq.mono (by have:=B9.out.size;omega)));have rS:=qA (eh.out.trans (bq.mono tO));clear bq;have HR:=qA (nc.out 0 x);rcases ey:decide (0≤qF ek 0 x) with _ | _
      ·have hy: ¬0≤qF ek 0 x:=by simpa using ey
       have vh:=qA (pr.out tO);generalize qF ek 0 x=y at*;go_wp2;go_roundw
       case rel=>exact⟨m+1,rfl,tO,by go_num,vh.out,rS.out⟩
       case measure=>simp[intOf];omega
      ·have hy:0≤qF ek 0 x:=by simpa using ey
       have Bn:=qA (mI.out hy);rw[Bn.out] at cK ir kW jk;have lJ:qF ek 0 x<nk:=by
        have:=HR.out
        omega
       have vK:Hid (I64 x):=qA (by have:=gQ.out;unfold I64;omega);obtain⟨u,hu⟩: ∃u:Nat,qF ek 0 x=(u:Int):=⟨(qF ek 0 x).toNat,tO⟩;rw[hu] at cK ir lJ hy⊢;have tL:=qA (GI.out u lJ);have FW:=qA lJ;rw[zal] at cK ir;clear hu mI pr Bn HR ey;obtain⟨z0,z1,z2⟩:=aV.out.cs;have lC:=aV.out.lt;go_wp2_with fail;refine(qDG _ ((rn:Int),nk,ek) u wq aV.out.arg uo.out FW.out).mono ?_
       rintro e kN ⟨KR,rfl,EQ,iX⟩;have pZ:=iX.size;have bT:=qA (aV.out.below iX);have FR:=qA (nw.out.below iX);have ye:=qA (Bq.out.trans (iX.mono tO));generalize movG ((rn:Int),nk,ek) u=M at*;obtain⟨m1,m2,ms⟩:=M;obtain⟨Pd,rfl,bV,ce,gM⟩:=EQ;obtain⟨A9,c9,rfl,_⟩:=gM.form;simp only at bV ce gM
       have xS:Hid (∀b,(zah A9 ms.length c9).ownBlock=some b→wq.heap.size≤b∧b<kN.heap.size):=qA fun b hb=>gM.1.lt b hb;have rB:=qA (bT.out.set (m:=(m1,m2,ms)) gM (fun b hb=>by have:=(xS.out b hb).1;have:=aV.out.lt;omega) bV ce);clear z0 z1 z2;obtain⟨z0,z1,z2⟩:=bT.out.cs;simp only at z0 z1 z2
       have fA:=bT.out.fz 0;have fc:=bT.out.fz 1;have eJ:=bT.out.fz 2;have OK:=qA (FR.out.keepB (w':=(((kN.setCell ⟨p,0,none⟩ (.int .i64 m1)).setCell ⟨p,1,none⟩ (.int .i64 m2)).setCell ⟨p,2,none⟩ (.slice A9 ms.length c9))) fun b hb=>qK _ _ _ _ _ (d8.out b hb).1);have BN:Hid (Below (w.heap.size+2) W (((kN.setCell ⟨p,0,none⟩ (.int .i64 m1)).setCell ⟨p,1,none⟩ (.int .i64 m2)).setCell ⟨p,2,none⟩ (.slice A9 ms.length c9))):=qA (qL _ _ _ ye.out tO);have xW:Hid ((((kN.setCell ⟨p,0,none⟩ (.int .i64 m1)).setCell ⟨p,1,none⟩ (.int .i64 m2)).setCell ⟨p,2,none⟩ (.slice A9 ms.length c9)).heap.size=kN.heap.size):=qA (qQ _ _ _ _ _);have zn:Hid (∀b,(zah At t.length ct).ownBlock=some b→b≠p∧(zah A9 ms.length c9).ownBlock≠some b):=qA fun b hb=>⟨(d8.out b hb).1,fun e=>by have:=(xS.out b e).1;have:=(nw.out.1.lt b hb).2;omega⟩;have eA:Hid (qCB (40-(t++ [x]).length) (m1,m2,ms) (t++ [x])=RES):=qA (by
        rw[←cK.out,←rU.out,zav,zaw,show 40-t.length=(40-(t.length+1))+1 by omega])
       have cV:=ir.out;simp only at cV
       have dI:=qA (rB.out.below ((zao _ _).alloc (zag _) (.cells #[.int .i64 x] 3)));clear gM iX;go_wp2_with (at_builtin;refine qd rfl (.tmp 44) (.tmp 46) rfl _ _ _ (OwI.alloc OK.out _) rfl _ _ rfl (by simp[go_sem]) vK.out (by first | omega | (simp<;>omega)) (by first | omega | (simp<;>omega)) ?_;intro v9 wv9 o9 g9 p9)
       have kn:=g9.size;simp at kn
       have kD:Hid (Below (w.heap.size+2) W wv9):=qA (qe BN.out (by rw[xW.out];omega) OK.out.1 (zag _) g9);have By:=qA (dI.out.grown g9 (zn.out));have J3:=qA o9;have zc:Hid (∀b,v9.ownBlock=some b→b≠p∧(zah A9 ms.length c9).ownBlock≠some b):=qA fun b hb=>by
        rcases p9 with p9 | p9
        ·rw[p9] at hb;exact zn.out b hb
        ·rw[p9] at hb;have cA:b=kN.heap.size+1:=by simpa using hb.symm
         have:=aV.out.lt
         refine⟨tO,fun e=> ?_⟩;have:=(xS.out b e).2
         omega
       clear g9 p9 o9;obtain⟨QR,QL,rfl,_⟩:=J3.out.form;go_wp2;go_roundw
       case rel=>exact⟨(m1,m2,ms),t++ [x],A9,c9,by rw[zav,zaw];omega,tL.out,eA.out,by rw[zav,zaw];simp only;omega,By.out.mono tO,J3.out,zc.out,kD.out⟩
       case measure=>simp[sLen];omega
     ·exfalso
      obtain⟨k2,iL,eP⟩:=zam jk.out.1;have:=je.out k2 iL tO
      rw[eP] at this;have:=jk.out.2
      omega
def ImS (x y:GrD) (o im:List Int):Prop:=(im.length:Int)=x.2.1∧ ∀u∈o,∃h:u.toNat<im.length,im[u.toNat]=imgW x y u
theorem ImS.add {x y:GrD} {o im:List Int} (h:ImS x y o im) {z:Int} (h0:0≤z) (h1:z<x.2.1) (hp: ∀u∈o,0≤u):ImS x y (o++ [z]) (im.set z.toNat (imgW x y z)):=by
 refine⟨by rw[zaB];exact h.1,fun u hu=> ?_⟩;have hl:=h.1;rcases zaq.1 hu with hu | hu
 ·obtain⟨kc,nI⟩:=h.2 u hu;refine⟨by rw[zaB];exact kc,?_⟩;rw[zaF];split
  ·rename_i e
   have:=hp u hu
   have:z=u:=tO
   rw[this]
  ·exact nI
 ·rw[zap.1 hu];refine⟨by rw[zaB];omega,?_⟩;rw[zaF,if_pos rfl]
theorem qGZ {x y:GrD} (h:qAG x y=true) {u l:Int} (hu:u∈canO x) (hl: -3≤l∧l≤3) (h0:0≤qF x.2.2 u l):0≤qF y.2.2 (imgW x y u) l∧imgW x y (qF x.2.2 u l)=qF y.2.2 (imgW x y u) l:=by
 have aL:=qZ (qj h).1;unfold qAG at h;simp only[zan] at h;have hs:=zae.1 (zae.1 h.2 u hu) l (qBW aL hl h0);unfold stB at hs;rw[decide_eq_false (by omega: ¬qF x.2.2 u l<0),zaW,zan,decide_eq_true_eq,decide_eq_true_eq] at hs;exact hs
theorem qGP {x y:GrD} {u l:Int} (hu:u∈canO x) (hl:l∈qG x.1.toNat) (h1:qF x.2.2 u l<0) (h2:0≤qF y.2.2 (imgW x y u) l):covB x y=false:=by
 rw[zaQ];intro hc;have:=zae.1 (zae.1 hc u hu) l hl
 rw[decide_eq_true h1,decide_eq_true h2] at this;cases this
theorem qHp {x y:GrD} (h: ∀u∈canO x,∀l∈qG x.1.toNat,¬(qF x.2.2 u l<0∧0≤qF y.2.2 (imgW x y u) l)):covB x y=true:=by
 unfold covB;rw[zae];intro u hu;rw[zae];intro l hl;have:=h u hu l hl
 by_cases h1:qF x.2.2 u l<0
 ·have h2: ¬0≤qF y.2.2 (imgW x y u) l:=fun h2=>this ⟨h1,h2⟩;rw[decide_eq_false h2,Bool.and_false];rfl
 ·rw[decide_eq_false h1];rfl
theorem qER (es:List EdD) (ls:List Int): ∀(f i:Nat) (o:List Int) (j:Nat) (y:Int),o[j]? =some y→(canF es ls f i o)[j]? =some y
 | 0,_,_,_,_,h=>h
 | f+1,i,o,j,y,h=>by
   rw[canF];cases o[i]? with
   | none=>exact h
   | some u=>exact qER es ls f _ _ j y (qr es u ls o j y h)
theorem qNb {x y:GrD} (h:qAG x y=true) (hc:covB x y=true):idxC x y=x.2.1/y.2.1:=by
 unfold idxC;rw[if_pos hc,qDP h hc];have hy:=(qB (qZ (qj h).2.1)).2.1;rw[Int.mul_ediv_cancel_left _ tO]
theorem qBI {x y:GrD} (h:qAG x y=true) {u:Int} (hu:u∈canO x):0≤imgW x y u∧imgW x y u<y.2.1:=by
 have iB:=qZ (qj h).1;have nF:=qZ (qj h).2.1;have QI:=(qB nF).2.1;have hr:=qBF nF (wdO x u) 0 tO;have h0:0≤imgW x y u:=by
  have:=qCs h (wdO x u) 0 (qBx iB hu) (zac (qc iB).2.2) (by rw[qCG iB hu];exact((qc iB).2.1 u hu).1)
  rw[qCG iB hu,qBB iB] at this;have hI:=h;rw[qGl] at hI;unfold qJU at hI;simp only[zan,decide_eq_true_eq] at hI;exact qDp (qj h).1 (qj h).2.1 (fun e he=>by
   have:=zae.1 hI.2 (basW x e) (by unfold basF;rw[if_pos (qj h).1];exact zaG.2 ⟨e,he,rfl⟩)
   simpa using this) 40 hu tO
 unfold imgW at*;omega
theorem qBy (va vb:Value) (a b:GrD) (w:World) (ha:ArgG w va a) (hb:ArgG w vb b):
  Calls Tryz.prog 12 #[va,vb] w fun e w'=>e= .returned (.int .i64 (idxF a b))∧Below w.heap.size w w':=by
 have dI:=qA ha;have aI:=qA hb;obtain⟨sa,rfl,iR,iQ,dJ⟩:=ha;obtain⟨A,ca,rfl⟩:=dJ.form;obtain⟨sb,rfl,iI,iZ,cA⟩:=hb;obtain⟨B,cb,rfl⟩:=cA.form;have kV:=qA (fun h=>qFf (a:=a) (b:=b) h);have zh:=qA (fun h=>qj (a:=a) (b:=b) h);have nA:Hid (qAG a b=false→idxF a b= -1):=qA fun h=>by unfold idxF;rw[h];rfl
 have rF:Hid (qAG a b=true→qY a.2.2 0 (cycG b).2<0→idxF a b= -1):=qA fun h h2=>by unfold idxF;rw[if_pos h,if_neg tO]
 have dy:Hid (qAG a b=true→0≤qY a.2.2 0 (cycG b).2→idxF a b=idxC (movG a (qY a.2.2 0 (cycG b).2).toNat) (cycG b).1):=qA fun h h2=>by unfold idxF;rw[if_pos h,if_pos h2]
 generalize GD:idxF a b=RR at*;clear GD;obtain⟨a1,a2,as'⟩:=a;obtain⟨b1,b2,bs⟩:=b;simp only at*
 clear dJ cA;go_enter Tryz.func12,Tryz.ntmps12
 go_wp2_with fail;obtain⟨W1,an⟩: ∃W,W=w.alloc (.cells #[.int .i64 a1,.int .i64 a2, .slice A as'.length ca] 26):=⟨_,rfl⟩;rw[←an];obtain⟨x1,eS,s1⟩:=CBx.new an;obtain⟨W,hW⟩: ∃W,W=W1.alloc (.cells #[.int .i64 b1,.int .i64 b2, .slice B bs.length cb] 26):=⟨_,rfl⟩;rw[←hW];obtain⟨x2,cI,s2⟩:=CBx.new hW;have XA:=qA (x1.below cI);rw[s1] at x2;have XB:=qA x2;have BX:Hid (Below w.heap.size w W):=qA (eS.trans (cI.mono tO));have aW:W.heap.size=w.heap.size+2:=tO;clear hW an eS cI x1 x2 s1 s2;refine(qFb _ _ (a1,a2,as') (b1,b2,bs) W (dI.out.below BX.out) (aI.out.below BX.out)).mono ?_
 rintro e w1 ⟨rfl,dU⟩;have aw:=dU.size;have xm:=qA (XA.out.below dU);have xZ:=qA (XB.out.below dU);have B1:Hid (Below w.heap.size w w1):=qA (BX.out.trans (dU.mono tO));clear dU;rcases ei:qAG (a1,a2,as') (b1,b2,bs) with _ | _
 ·have F:=qA (nA.out ei);go_wp2;go_ret;rw[F.out];exact⟨by simp[go_sem],B1.out⟩
 ·have oC:=qA ei;obtain⟨lk,rC,vx⟩:=zh.out ei;clear vx;have jv:=qA rC;have fd:=qA (qP lk);have jm:=qA lk;have rF:=qA (rF.out ei);have dy:=qA (dy.out ei);have kV:=qA (kV.out ei);have DB:=(qB (qZ lk)).2.1;have ou:=qA (fun q=>qBF (qZ lk) q 0 tO);obtain⟨sC,qC,AE,Gb,_,_,tz,_⟩:=qDo 40 (b1,b2,bs) [] rC;change (cycG (b1,b2,bs)).2= []++qC at AE;change qR (cycG (b1,b2,bs)).1=true at tz;have rU:=qA tz;clear ei nA zh lk rC AE Gb tz;obtain⟨z0,z1,z2⟩:=xZ.out.cs;go_wp2_with fail;refine(qEM _ (b1,b2,bs) w1 (aI.out.below B1.out) jv.out).mono ?_
  rintro e w2 ⟨r2,q2,rfl,o2,CQ,da⟩;have cT:=da.size;have pG:=qA (xm.out.below da);have lM:=qA (xZ.out.below da);have B2:Hid (Below w.heap.size w w2):=qA (B1.out.trans (da.mono tO));clear da z0 z1 z2;generalize cycG (b1,b2,bs)=C at*;obtain⟨⟨y1,y2,ys⟩,q⟩:=C;obtain⟨sy,rfl,vG,uz,AO⟩:=o2;obtain⟨Ay,cy,rfl,_⟩:=AO.form;obtain⟨Aq,cq,rfl,_⟩:=CQ.form;simp only at*
  have GY:=qA (lM.out.set (m:=(y1,y2,ys)) AO (fun b hb=>by have:=(AO.1.lt b hb).1;omega) vG uz);have CM:Hid (∀b,(zah Ay ys.length cy).ownBlock=some b→w1.heap.size≤b∧b<w2.heap.size):=qA fun b hb=>AO.1.lt b hb;have su:=qA (pG.out.other (q:=w.heap.size+1) (a:= .int .i64 y1) (b:= .int .i64 y2) (c:= .slice Ay ys.length cy) tO);have B3:=qA (qL (p:=w.heap.size+1) (.int .i64 y1) (.int .i64 y2) (.slice Ay ys.length cy) B2.out tO);have JJ:=qA (CQ.keepB (w':=(((w2.setCell ⟨w.heap.size+1,0,none⟩ (.int .i64 y1)).setCell ⟨w.heap.size+1,1,none⟩ (.int .i64 y2)).setCell ⟨w.heap.size+1,2,none⟩ (.slice Ay ys.length cy))) fun b hb=>qK _ _ _ _ _ (by have:=(CQ.1.lt b hb).1;omega));have fS:=qQ w2 (w.heap.size+1) (.int .i64 y1) (.int .i64 y2) (.slice Ay ys.length cy);obtain⟨z0,z1,z2⟩:=lM.out.cs;have fA:=lM.out.fz 0;have fc:=lM.out.fz 1;have eJ:=lM.out.fz 2;obtain⟨u0,u1,u2⟩:=pG.out.cs;clear AO CQ;go_wp2_with fail;clear z0 z1 z2 fA fc eJ u0 u1 u2;obtain⟨w3,sX⟩: ∃W,W=(((w2.setCell ⟨w.heap.size+1,0,none⟩ (.int .i64 y1)).setCell ⟨w.heap.size+1,1,none⟩ (.int .i64 y2)).setCell ⟨w.heap.size+1,2,none⟩ (.slice Ay ys.length cy)):=⟨_,rfl⟩;rw[←sX] at GY su B3 JJ fS⊢;clear sX;with_reducible refine(qJE _ _ (a1,a2,as') 0 q w3 (dI.out.below B3.out) JJ.out.rd fd.out (by simp only;omega)).mono ?_
  rintro e w4 ⟨rfl,ci⟩;have lZ:=ci.size;have zb:=qA (GY.out.below ci);have sD:=qA (su.out.below ci);have B4:Hid (Below w.heap.size w w4):=qA (B3.out.trans (ci.mono tO));clear ci;have hZ:=ou.out q;rcases ew:decide (0≤qY as' 0 q) with _ | _
  ·have F:=qA (rF.out (by simpa using ew));go_wp2;go_ret;rw[F.out];exact⟨by simp[go_sem],B4.out⟩
  ·have Am:0≤qY as' 0 q:=by simpa using ew
   have dy:=qA (dy.out Am);have kV:=qA (kV.out Am);obtain⟨u,hu⟩: ∃u:Nat,qY as' 0 q=(u:Int):=⟨(qY as' 0 q).toNat,tO⟩;rw[hu] at dy kV hZ⊢;rw[zal] at dy kV;have uM:Hid ((u:Int)<a2):=qA tO;clear hu Am ew hZ ou rF;obtain⟨u0,u1,u2⟩:=sD.out.cs;go_wp2_with fail;refine(qDD _ (a1,a2,as') u w4 (dI.out.below B4.out) fd.out uM.out).mono ?_
   rintro e w5 ⟨r5,rfl,o5,gT⟩;have gW:=gT.size;have mw:=qA (sD.out.below gT);have zI:=qA (zb.out.below gT);have B5:Hid (Below w.heap.size w w5):=qA (B4.out.trans (gT.mono tO));clear gT u0 u1 u2;generalize movG (a1,a2,as') u=X at*;obtain⟨x1,x2,xs⟩:=X;obtain⟨sx,rfl,wF,vB,Da⟩:=o5;obtain⟨Ax,cx,rfl,_⟩:=Da.form;simp only at*
   have ud:Hid (∀b,(zah Ax xs.length cx).ownBlock=some b→w4.heap.size≤b∧b<w5.heap.size):=qA fun b hb=>Da.1.lt b hb;have GX:=qA (mw.out.set (m:=(x1,x2,xs)) Da (fun b hb=>by have:=(ud.out b hb).1;omega) wF vB);have xE:=qA (zI.out.keep (w':=(((w5.setCell ⟨w.heap.size,0,none⟩ (.int .i64 x1)).setCell ⟨w.heap.size,1,none⟩ (.int .i64 x2)).setCell ⟨w.heap.size,2,none⟩ (.slice Ax xs.length cx))) (by simp) fun b hb=>qK _ _ _ _ _ (by
    rcases hb with rfl | hb
    ·omega
    ·have:=(CM.out b hb).1;omega))
   have B6:=qA (qL (p:=w.heap.size) (.int .i64 x1) (.int .i64 x2) (.slice Ax xs.length cx) B5.out (zag _));have iD:=qQ w5 w.heap.size (.int .i64 x1) (.int .i64 x2) (.slice Ax xs.length cx);obtain⟨z0,z1,z2⟩:=mw.out.cs;have fA:=mw.out.fz 0;have fc:=mw.out.fz 1;have eJ:=mw.out.fz 2;have oV:=kV.out;obtain⟨rZ,kL,vx⟩:=qj oV;have iB:=qZ rZ;have nF:=qZ kL;obtain⟨AI,BI,tW,_⟩:=qB iB;obtain⟨D7,FU,vL,_⟩:=qB nF;have sM:=qA (qc iB);have cK:=qA (fun u l=>qGZ oV (u:=u) (l:=l));have jh:=qA (fun u l=>qGP (x:=(x1,x2,xs)) (y:=(y1,y2,ys)) (u:=u) (l:=l));have pF:=qA (qHp (x:=(x1,x2,xs)) (y:=(y1,y2,ys)));have Ld:=qA (fun h=>qNb oV h);have jt:Hid (covB (x1,x2,xs) (y1,y2,ys)=false→idxC (x1,x2,xs) (y1,y2,ys)= -1):=qA fun h=>by unfold idxC;rw[h];rfl
   have He:=qA (fun u=>qBI oV (u:=u));have rG:=qA (qO iB);have se:=qA (qO nF);have OX:=qA (qp (qE (qP rZ)).2);have OY:=qA (qp (qE (qP kL)).2);have Gy:=qA (fun u (x:Int) o=>qHs iB (u:=u) (o:=o) x);have pQ:Hid (imgW (x1,x2,xs) (y1,y2,ys) 0=0):=qA (qBB iB);obtain⟨n,rfl⟩: ∃n:Nat,x2=(n:Int):=⟨x2.toNat,by simp only at BI;omega⟩;obtain⟨rn,rfl⟩: ∃rn:Nat,x1=(rn:Int):=⟨x1.toNat,by simp only at AI;omega⟩;simp only at AI BI tW D7 FU vL
   clear Da oV rZ kL vx iB nF;obtain⟨i0,cE,ng,dj,fF⟩:=info_parts qCR;obtain⟨w6,td⟩: ∃W,W=(((w5.setCell ⟨w.heap.size,0,none⟩ (.int .i64 (rn:Int))).setCell ⟨w.heap.size,1,none⟩ (.int .i64 (n:Int))).setCell ⟨w.heap.size,2,none⟩ (.slice Ax xs.length cx)):=⟨_,rfl⟩;rw[←td] at GX xE B6 iD;go_wp2_with (at_make;rw[←td];refine wpList_make_full _ rfl _ _ 37 rfl w6.heap.size 3 i0 (.int .i64 0) 1 Tryz.underlying37 cE ng dj _ _ _ _ n rfl rfl rfl rfl (by rw[fF];omega) (by unfold maxLen;omega) (zag _) ?_)
   intro w7 hown7 hgrow7;rw[←td] at hgrow7;try rw[iD] at hown7
   have O7:=qA (qKb (w:=w5) (by simpa[toList_madeCells_one] using hown7));have lB:=hgrow7.size;have xT:Hid (Below w5.heap.size w6 w7):=qA ((zao w5.heap.size w6).grown hgrow7 tO (fun k h=>by cases h));have NZ:w5.heap.size<w7.heap.size:=(O7.out.1.lt w5.heap.size rfl).2;have GXL:Hid (∀w',Below w5.heap.size w6 w'→GBx w' w.heap.size (w.heap.size+1) Ax cx ((rn:Int),(n:Int),xs)∧GBx w' (w.heap.size+1) (w.heap.size+1) Ay cy (y1,y2,ys)):=qA fun w' hb=>
    ⟨(GX.out.belowAt hb tO (fun b hb=>by have:=(ud.out b hb).2;omega)).mono tO,(xE.out.belowAt hb tO (fun b hb=>by have:=(CM.out b hb).2;omega)).mono tO⟩
   have BW:Hid (∀w',Below w5.heap.size w6 w'→Below w.heap.size w w'):=qA fun w' hb=>B6.out.trans (hb.mono tO);clear td hown7 hgrow7 z0 z1 z2 fA fc eJ GX xE B6 zI mw sD zb B5 B4;obtain⟨z0,z1,z2⟩:=(GXL.out w7 xT.out).1.cs;simp only at z0 z1 z2
   have Rg:w.heap.size<w7.heap.size:=tO;go_wp2_with fail;refine(qAs rn w7 tO).mono ?_
   rintro e w8 ⟨rl,rfl,ol,b8⟩;have vE:=b8.size;have B8:=qA (xT.out.trans (b8.mono tO));have O8:=qA (O7.out.below b8);have dT:=qy rn;have gZ:Hid (∀x∈qG rn,-3≤x∧x≤3):=qA fun x hx=>by have:=qX.1 hx;omega
   have tq:Hid (∀u l,u∈canO ((rn:Int),(n:Int),xs)→l∈qG rn→qF xs u l<0→0≤qF ys (imgW ((rn:Int),(n:Int),xs) (y1,y2,ys) u) l→covB ((rn:Int),(n:Int),xs) (y1,y2,ys)=false):=qA fun u l a b c d=>jh.out u l a b c d;have vY:Hid ((∀u∈canO ((rn:Int),(n:Int),xs),∀l∈qG rn,¬(qF xs u l<0∧0≤qF ys (imgW ((rn:Int),(n:Int),xs) (y1,y2,ys) u) l))→covB ((rn:Int),(n:Int),xs) (y1,y2,ys)=true):=qA fun h=>pF.out h;have kS:Hid (canO ((rn:Int),(n:Int),xs)=canF xs (qG rn) (41-0) 0 [0]):=qA rfl;clear jh pF;generalize qG rn=ls at*;obtain⟨Al,capl,rfl,cU,cV,_,dC⟩:=ol.form;obtain⟨bl,rfl,jR,dw⟩:=dC tO;unfold maxLen at cV;have OL:=qA ol.rd;have io:=qA dT;clear ol b8 z0 z1 z2 dC dT;have O9:Hid (OwI (w8.alloc (.cells #[.int .i64 0] 3)) (w5.heap.size+1) (.slice (some ⟨w8.heap.size,0,none⟩) 1 1) [0]):=qA ((qAE w8 [0] (fun x hx=>by simp at hx;subst hx;exact⟨by decide,by decide⟩) (by simp) (zag _)).mono tO);have b9:Below w8.heap.size w8 (w8.alloc (.cells #[.int .i64 0] 3)):=(zao _ _).alloc (zag _) _;go_wp2;obtain⟨w9,rJ⟩: ∃W,W=w8.alloc (.cells #[.int .i64 0] 3):=⟨_,rfl⟩;have kn:w9.heap.size=w8.heap.size+1:=by rw[rJ];simp
   rw[←rJ] at O9 b9⊢;have B9:=qA (B8.out.trans (b9.mono tO));have Cs:=qA (O8.out.below b9);have Ag:=qA (OL.out.below b9);clear rJ b9;go_loopw [10,11] (fun out i wr=> ∃(k:Nat) (o im:List Int),k≤o.length∧i= .int .i64 k∧qAB (n:Int) o∧canO ((rn:Int),(n:Int),xs)=canF xs ls (41-k) k o∧ImS ((rn:Int),(n:Int),xs) (y1,y2,ys) o im∧OwI wr w5.heap.size (.slice (some ⟨w5.heap.size,0,none⟩) n n) im∧OwI wr (w5.heap.size+1) out o∧RdI wr (.slice (some ⟨bl,0,none⟩) ls.length capl) ls∧out.ownBlock≠some bl∧bl<wr.heap.size∧Below w5.heap.size w6 wr∧(∀(j:Nat) u,j<k→o[j]? =some u→ ∀l∈ls,¬(qF xs u l<0∧0≤qF ys (imgW ((rn:Int),(n:Int),xs) (y1,y2,ys) u) l))) (fun _ i _=>41-(intOf i).toNat)
   case atStart=>exact⟨0,[0],zai n 0,zat _,rfl,qAB.one tO,kS.out,⟨by simp,fun u hu=>by rw[zap.1 hu];exact⟨by simp;omega,by simp[pQ.out]⟩⟩,Cs.out,O9.out,Ag.out,by simp[zaj];omega,tO,B9.out,fun j u hj=>absurd hj (zax _)⟩
   case round=>
    obtain⟨k,o,im,hk,rfl,af,eT,gp,nQ,aa,aN,ai,tS,ab,eF⟩:=hrel;obtain⟨wo,rfl⟩: ∃wo:World,wo=wr:=⟨_,rfl⟩;have gV:=af.len tO tO;have dD:=qA af;have HC:=qA eT;have dq:=qA gp;have iy:=qA nQ;have HO:=qA aa;have jF:=qA aN;have iP:=qA ai;have ay:=qA ab;have yd:=qA eF;have aq:=ab.size;obtain⟨A1,ah,rfl,_⟩:=aa.form;clear af eT gp nQ aa aN ai ab eF;by_cases ac:k<o.length
    ·obtain⟨u,hu⟩: ∃u,o[k]? =some u:=⟨o[k],by simp⟩;have fV:o[k]=u:=by rw[zaa ac] at hu;injection hu
     have fl:=(dD.out.2.1 u (zac hu)).1;obtain⟨un,rfl⟩: ∃un:Nat,u=(un:Int):=⟨u.toNat,tO⟩;have rp:Hid (canO ((rn:Int),(n:Int),xs)=canF xs ls (41-(k+1)) (k+1) (ls.foldl (qW xs (un:Int)) o)):=qA (by
      rw[HC.out,show 41-k=(41-(k+1))+1 by omega,qBd _ _ _ _ _ ac,fV])
     have q9:Hid ((un:Int)∈canO ((rn:Int),(n:Int),xs)):=qA (by rw[HC.out];exact zac (qER _ _ _ _ _ _ _ hu));have dk:Hid (∀m:Nat,(((ls.take m).foldl (qW xs (un:Int)) o))[k]? =some (un:Int)):=qA fun m=>qr _ _ _ _ _ _ hu;have k7:Hid (∀(j:Nat) (v:Int),j<k→(ls.foldl (qW xs (un:Int)) o)[j]? =some v→o[j]? =some v):=qA fun j v hj hv=>by
      have h1:=qr xs (un:Int) ls o j _ (zaa (by omega:j<o.length));rw[hv] at h1;injection h1 with h1
      rw[h1];exact zaa _
     have gH:Hid (∀(m:Nat) (hm:m<ls.length),(ls.take (m+1)).foldl (qW xs (un:Int)) o=qW xs (un:Int) ((ls.take m).foldl (qW xs (un:Int)) o) ls[m]):=qA fun m hm=>qBm _ _ _ _ _ hm;have di:Hid (∀m:Nat,qAB (n:Int) ((ls.take m).foldl (qW xs (un:Int)) o)):=qA fun m=>by
      generalize ls.take m=l2;have: ∀(l2:List Int) (o:List Int),qAB (n:Int) o→qAB (n:Int) (l2.foldl (qW xs (un:Int)) o):=by
       intro l2;induction l2 with
       | nil=>intro o h;exact h
       | cons a l2 ih=>intro o h;exact ih _ (Gy.out _ a o h)
      exact this l2 o dD.out
     have jM:Hid (∀(m:Nat) (hm:m<ls.length),ls[m]∈ls):=qA fun m hm=>zay hm;have uW:=qA (He.out _ q9.out);have pE:=qA (fun l=>cK.out (un:Int) l q9.out);have rI:=qA (fun l=>tq.out (un:Int) l q9.out);clear hu fV;go_wp2;go_loopw [10,12] (fun out j wr=> ∃(m:Nat) (im:List Int),m≤ls.length∧j= .int .i64 m∧ImS ((rn:Int),(n:Int),xs) (y1,y2,ys) ((ls.take m).foldl (qW xs (un:Int)) o) im∧OwI wr w5.heap.size (.slice (some ⟨w5.heap.size,0,none⟩) n n) im∧OwI wr (w5.heap.size+1) out ((ls.take m).foldl (qW xs (un:Int)) o)∧RdI wr (.slice (some ⟨bl,0,none⟩) ls.length capl) ls∧out.ownBlock≠some bl∧bl<wr.heap.size∧Below w5.heap.size w6 wr∧(∀i (hi:i<ls.length),i<m→ ¬(qF xs (un:Int) ls[i]<0∧0≤qF ys (imgW ((rn:Int),(n:Int),xs) (y1,y2,ys) (un:Int)) ls[i]))) (fun _ j _=>ls.length-(intOf j).toNat)
     case atStart=>exact⟨0,im,zat _,rfl,dq.out,iy.out,HO.out,jF.out,iP.out,tS,ay.out,fun i _ hi=>absurd hi (zax _)⟩
     case round=>
      obtain⟨m,im,dj,rfl,gp,nQ,aa,aN,ai,bN,aG,eF⟩:=hrel;have si:=aG.size;have bK:=qA aG;have dq:=qA gp;have iy:=qA nQ;have kv:=qA aN;have dx:=qA ai;have jE:=qA eF;have iw:=qA (GXL.out wr aG).1;have iq:=qA (GXL.out wr aG).2;clear gp aG ai eF;by_cases al:m<ls.length
      ·have az:=di.out m;have ke:=az.len tO tO;have bZ:=dk.out m;have HS:=qA (gH.out m al);have gQ:=qA (gZ.out _ (jM.out m al));have tg:=qA (jM.out m al);have nV:Hid (¬(qF xs (un:Int) ls[m]<0∧0≤qF ys (imgW ((rn:Int),(n:Int),xs) (y1,y2,ys) (un:Int)) ls[m])→ ∀i (hi:i<ls.length),i<m+1→ ¬(qF xs (un:Int) ls[i]<0∧0≤qF ys (imgW ((rn:Int),(n:Int),xs) (y1,y2,ys) (un:Int)) ls[i])):=qA fun h i hi h1=>by
        by_cases h2:i<m
        ·exact jE.out i hi h2
        ·obtain rfl:i=m:=tO
         exact h
       obtain⟨_,_,dp,_,dO⟩:=aN.at tO;obtain⟨rfl,rfl⟩:bl=_∧0=_:=by simpa using dp
       have c0:=dO m al;rw[zaD] at c0;have IN:Hid (∀v∈(ls.take m).foldl (qW xs (un:Int)) o,0≤v):=qA fun v hv=>(az.2.1 v hv).1;obtain⟨x,hx⟩: ∃x,ls[m]=x:=⟨_,rfl⟩;rw[hx] at c0 HS gQ tg nV;clear hx dp dO;obtain⟨om,il⟩: ∃om,(ls.take m).foldl (qW xs (un:Int)) o=om:=⟨_,rfl⟩;rw[il] at az ke bZ HS dq aa IN;clear il;have ji:k<om.length:=(zad.1 bZ).1;have lh:om[k]=(un:Int):=by rw[zaa ji] at bZ;injection bZ
       have dQ:=qA aa;obtain⟨A2,ak,rfl,_,_,_,a7⟩:=aa.form;obtain⟨da,rfl,uY,gY⟩:=a7 tO;have d0:=aa.cellAt k ji;rw[lh] at d0;obtain⟨kK,fK⟩:=dq.out.2 (un:Int) (zac bZ);simp only[zal] at kK fK;have g0:=iy.out.cellAt un kK;rw[fK] at g0;have ko:w5.heap.size<wr.heap.size:=(iy.out.1.lt w5.heap.size rfl).2;have d4:un<n:=by have:=dq.out.1;simp only at this;omega
       have BR:(un:Int)<(n:Int):=tO;have ISt:=qA (uW.out);obtain⟨iu,lI⟩: ∃iu,imgW ((rn:Int),(n:Int),xs) (y1,y2,ys) (un:Int)=iu:=⟨_,rfl⟩;rw[lI] at g0;have ru:=qA lI;have fT:=nV;clear nV;have nV:Hid (¬(qF xs (un:Int) x<0∧0≤qF ys iu x)→ ∀i (hi:i<ls.length),i<m+1→ ¬(qF xs (un:Int) ls[i]<0∧0≤qF ys (imgW ((rn:Int),(n:Int),xs) (y1,y2,ys) (un:Int)) ls[i])):=qA fun h=>fT.out (by rw[lI];exact h);clear fT;have eA:=qA (pE.out x gQ.out);have gC:=qA (rI.out x tg.out);rw[lI] at eA gC;have N0:=qA (qCo (es:=xs) (u:=(un:Int)) (x:=x) (o:=om));have N1:=qA (qCz (es:=xs) (u:=(un:Int)) (x:=x) (o:=om));have N2:=qA (qCF (es:=xs) (u:=(un:Int)) (x:=x) (o:=om));have cS:=qA (fun W (h:ArgG W (.agg #[.int .i64 (rn:Int), .int .i64 (n:Int), .slice Ax xs.length cx]) ((rn:Int),(n:Int),xs))=>qU _ ((rn:Int),(n:Int),xs) (un:Int) x W h (OX.out (un:Int) x));have yG:=qA (fun W (h:ArgG W (.agg #[.int .i64 y1, .int .i64 y2, .slice Ay ys.length cy]) (y1,y2,ys))=>qU _ (y1,y2,ys) iu x W h (OY.out iu x));obtain⟨p0,p1,p2⟩:=iw.out.cs;obtain⟨r0,r1,r2⟩:=iq.out.cs;simp only at p0 p1 p2 r0 r1 r2
       have bm:=iw.out.lt;have fD:=iq.out.lt;have jb:=qA (rG.out (un:Int) x);have fO:=qA (se.out iu x);clear lI aa aN a7 bZ lh kK fK;go_wp2_with fail;have f0:=BelW.cell p0 bm;have f1:=BelW.cell p1 bm;have f2:=BelW.cell p2 bm;have f3:=BelW.cell c0 bN;have f4:=BelW.cell d0 gY;(refine qH tK tK ?_;(repeat(go_big_quiet_step (first | (go_at_call 86;exact Calls.bel_of (cS.out _ (iw.out.below (BelW.h _)).arg)))));refine wpQuiet_nil ?_;intro wq aA;obtain⟨pq,ae⟩:=aA;have bq:=pq.h;rw[←ae] at bq;clear ae pq)
       clear f0 f1 f2 f3 f4 p0 p1 p2;have sq:=bq.size;have c1:=(bq.cell (p:=⟨bl,m,none⟩) bN).trans c0;have d1:=(bq.cell (p:=⟨da,k,none⟩) gY).trans d0;have g1:=(bq.cell (p:=⟨w5.heap.size,un,none⟩) ko).trans g0;have t0:=(bq.cell (p:=⟨w.heap.size+1,0,none⟩) fD).trans r0;have t1:=(bq.cell (p:=⟨w.heap.size+1,1,none⟩) fD).trans r1;have t2:=(bq.cell (p:=⟨w.heap.size+1,2,none⟩) fD).trans r2;have ej:=qA bq;have Eo:=qA (iq.out.below bq);clear c0 d0 g0 r0 r1 r2;go_wp2_with fail;have f0:=BelW.cell t0 (show w.heap.size+1<wq.heap.size by omega);have f1:=BelW.cell t1 (show w.heap.size+1<wq.heap.size by omega);have f2:=BelW.cell t2 (show w.heap.size+1<wq.heap.size by omega);have f3:=BelW.cell c1 (show bl<wq.heap.size by omega);have f4:=BelW.cell d1 (show da<wq.heap.size by omega);have f5:=BelW.cell g1 (show w5.heap.size<wq.heap.size by omega);(refine qH tK tK ?_;(repeat(go_big_quiet_step (first | (go_at_call 86;exact Calls.bel_of (yG.out _ (Eo.out.below (BelW.h _)).arg)))));refine wpQuiet_nil ?_;intro wz aA;obtain⟨pq,ae⟩:=aA;have bz:=pq.h;rw[←ae] at bz;clear ae pq)
       clear f0 f1 f2 f3 f4 f5 t0 t1 t2 c1 d1 g1;have sz:=bz.size;have Df:=qA (ej.out.trans (bz.mono sq));have fP:=qA (bK.out.trans (Df.out.mono tO));have iz:=qA (dQ.out.below Df.out);have eW:=qA (iy.out.below Df.out);have km:=qA (kv.out.below Df.out);clear bq bz;rcases es:decide (qF xs (un:Int) x<0) with _ | _
       ·have aP:0≤qF xs (un:Int) x:=by simpa using es
        have jr: ¬qF xs (un:Int) x<0:=tO;have fp:=qA (nV.out fun q=>jr q.1);have iC:qF xs (un:Int) x<(n:Int):=by have:=jb.out;omega
        have i8:=qA (eA.out aP);obtain⟨sn,jK⟩: ∃sn:Nat,qF xs (un:Int) x=(sn:Int):=⟨(qF xs (un:Int) x).toNat,tO⟩;rw[jK] at i8 N1 N2 aP jr iC⊢;generalize qF ys iu x=tt at*;clear jK es nV N0 eA gC;go_wp2_with fail;refine(qBt _ om (sn:Int) _ iz.out.rd.arg tO).mono ?_
        rintro e' w' ⟨rfl,rfl⟩;rcases h1:hasB om (sn:Int) with _ | _
        ·have F:=qA (N2.out aP h1);have HY:Hid (I64 (sn:Int)):=qA ⟨tO,tO⟩;have xP:Hid (da≠w5.heap.size∧bl≠w5.heap.size∧bl≠da):=qA ⟨tO,tO,fun e=>dx.out (by rw[e];rfl)⟩;have fE:sn<im.length:=by have:=dq.out.1;simp only at this;omega
         have Mc:=qA fE;have yQ:Hid (I64 tt):=qA (by have:=fO.out;unfold I64;omega);have Ny:(sn:Int)<(n:Int):=iC;go_wp2_with ((at_builtin;refine qd rfl (.tmp 94) (.tmp 96) rfl _ _ _ (OwI.alloc iz.out _) rfl _ _ rfl (qa _ _ _) HY.out (by first | omega | (simp<;>omega)) (by first | omega | (simp<;>omega)) ?_;intro v9 wv9 o9 g9 p9);have vD:=qA ((eW.out.alloc (.cells #[.int .i64 (sn:Int)] 3)).kept g9 (.inr (by simp[zaj];exact fun e=>xP.out.1 e.symm)));have cc:=vD.out.cellAt sn Mc.out;have ff:=vD.out.free sn;generalize im[sn]'Mc.out=old at cc;have O9:=qA o9;have G9:=qA g9;have P9:=qA p9;clear o9 g9 p9)
         have ml:=G9.out.size;simp at ml
         have bG:=qA (vD.out.set sn tt yQ.out);have Cc:Hid (Below w5.heap.size w6 wv9):=qA (qe fP.out tO iz.out.1 (zaS _) G9.out);have vZ:Hid (RdI wv9 (.slice (some ⟨bl,0,none⟩) ls.length capl) ls):=qA ((km.out.alloc _).grown G9.out (fun b hb aJ=>by simp[zaj] at hb aJ;have:=xP.out.2.2;omega));have xH:Hid (∀b,v9.ownBlock=some b→b≠w5.heap.size∧b≠bl):=qA fun b hb=>by
          have h1:=(O9.out.1.lt b hb).1;refine⟨tO,fun e=> ?_⟩;rcases P9.out with p9 | p9
          ·rw[p9] at hb;have:=xP.out.2.2
           simp[zaj] at hb
           omega
          ·rw[p9] at hb;simp at hb;omega
         go_roundw
         case rel=>
          refine⟨m+1,im.set sn tt,tO,by go_num,?_,bG.out.1,?_,vZ.out.grown bG.out.2 (fun b hb aJ=> ?_),fun e=>(xH.out bl e).2 rfl,?_,Cc.out.grown bG.out.2 tO (fun j hj=>by cases hj;exact zag _),fp.out⟩
          ·rw[HS.out,F.out];have:=dq.out.add (z:=(sn:Int)) tO iC IN.out
           rw[zal,i8.out.2] at this;exact this
          ·rw[HS.out,F.out];exact O9.out.keepB fun b hb=>zaf _ _ _ b (xH.out b hb).1
          ·simp[zaj] at hb aJ;have:=xP.out.2.1;omega
          ·simp;omega
         case measure=>simp[intOf];omega
        ·have F:=qA (N1.out aP h1);go_wp2;go_roundw
         case rel=>exact⟨m+1,im,tO,by go_num,by rw[HS.out,F.out];exact dq.out,eW.out,by rw[HS.out,F.out];exact iz.out,km.out,dx.out,tO,fP.out,fp.out⟩
         case measure=>simp[intOf];omega
       ·have aP:qF xs (un:Int) x<0:=by simpa using es
        have iC: ¬0≤qF xs (un:Int) x:=tO;rcases et:decide (0≤qF ys iu x) with _ | _
        ·have oU: ¬0≤qF ys iu x:=by simpa using et
         have fp:=qA (nV.out fun q=>oU q.2);have F:=qA (N0.out aP);generalize qF xs (un:Int) x=ss at*;generalize qF ys iu x=tt at*;go_wp2;go_roundw
         case rel=>exact⟨m+1,im,tO,by go_num,by rw[HS.out,F.out];exact dq.out,eW.out,by rw[HS.out,F.out];exact iz.out,km.out,dx.out,tO,fP.out,fp.out⟩
         case measure=>simp[intOf];omega
        ·have oU:0≤qF ys iu x:=by simpa using et
         have F:=qA ((dy.out).trans (jt.out (gC.out aP oU)));generalize qF xs (un:Int) x=ss at*;generalize qF ys iu x=tt at*;go_wp2;go_ret;rw[F.out];exact⟨by simp[go_sem],BW.out _ fP.out⟩
      ·obtain rfl:m=ls.length:=tO
       rw[zak] at aa dq;have az:=di.out ls.length;rw[zak] at az;have gu:=qA az;have dQ:=qA aa;have au:k+1≤(ls.foldl (qW xs (un:Int)) o).length:=by
        have:=dk.out ls.length
        rw[zak] at this;have:=(zad.1 this).1
        omega
       have oK:Hid (∀(j:Nat) v,j<k+1→(ls.foldl (qW xs (un:Int)) o)[j]? =some v→ ∀l∈ls,¬(qF xs v l<0∧0≤qF ys (imgW ((rn:Int),(n:Int),xs) (y1,y2,ys) v) l)):=qA fun j v hj hv l hl=>by
        by_cases ge:j<k
        ·exact yd.out j v ge (k7.out j v ge hv) l hl
        ·obtain rfl:j=k:=tO
         have h1:=dk.out ls.length;rw[zak,hv] at h1;injection h1 with h1
         subst h1;obtain⟨i,hi,rfl⟩:=zam hl;exact jE.out i hi hi
       obtain⟨A2,ak,rfl,_⟩:=aa.form;clear aa aN az;go_wp2;go_roundw
       case rel=>exact⟨k+1,_,im,au,by go_num,gu.out,rp.out,dq.out,iy.out,dQ.out,kv.out,dx.out,bN,bK.out,oK.out⟩
       case measure=>simp[intOf];omega
    ·obtain rfl:k=o.length:=tO
     have jz:covB ((rn:Int),(n:Int),xs) (y1,y2,ys)=true:=vY.out fun u hu l hl=>by
      rw[HC.out,qCx] at hu;obtain⟨j,hj,rfl⟩:=zam hu;exact yd.out j _ hj (zaa hj) l hl
     have F:=qA (dy.out.trans (Ld.out jz));have y6:(0:Int)≤(n:Int)/y2:=Int.ediv_nonneg tO tO;have AB:(n:Int)/y2≤(n:Int):=Int.ediv_le_self _ tO;have zO:(n:Int)≤9223372036854775807:=tO;have Cp:Hid (wrap64 ((n:Int)/y2)=(n:Int)/y2):=qA (IntWalk.wrap64_in _ ⟨Int.le_trans (by decide) y6,Int.le_trans AB zO⟩);clear y6 AB zO;have iw:=qA (GXL.out wo ay.out).1;have iq:=qA (GXL.out wo ay.out).2;have p1:=iw.out.c1;have r1:=iq.out.c1;simp only at p1 r1
     have bm:=iw.out.lt;have fD:=iq.out.lt;clear jz;go_wp2;go_ret;rw[F.out];exact⟨by simp[go_sem,Cp.out],BW.out _ ay.out⟩
theorem qCY (v:Value) (g:GrD) (w:World) (h:ArgG w v g):
  Calls Tryz.prog 75 #[v] w fun e w'=>e= .returned (.bool (qR g&&((g.2.1==1)&&((g.2.2.length:Int)==0))))∧Below w.heap.size w w':=by
 have HG:=qA h;obtain⟨s,rfl,aT,aS,ha⟩:=h;obtain⟨A,cap,rfl⟩:=ha.form;obtain⟨g1,N,es⟩:=g;simp only at*
 clear ha;go_enter Tryz.func75,Tryz.ntmps75
 go_wp2_with fail;obtain⟨W,hW⟩: ∃W,W=w.alloc (.cells #[.int .i64 g1,.int .i64 N, .slice A es.length cap] 26):=⟨_,rfl⟩;obtain⟨x1,b1,aW⟩:=CBx.new hW;rw[←hW];have XA:=qA x1;have BX:=qA b1;clear hW b1 x1;refine(qAR _ (g1,N,es) W (HG.out.below BX.out)).mono ?_
 rintro e w2 ⟨rfl,b2⟩;have cT:=b2.size;have pG:=qA (XA.out.below b2);have aj:Hid (Below w.heap.size w w2):=qA (BX.out.trans (b2.mono tO));clear b2;have q1:=pG.out.c1;have q2:=pG.out.c2;rcases ec:qR (g1,N,es) with _ | _
 ·have F:Hid ((qR (g1,N,es)&&((N==1)&&((es.length:Int)==0)))=false):=qA (by rw[ec];rfl);clear ec;go_wp2;go_ret;exact⟨qM F.out.symm,aj.out⟩
 ·rcases e1:(N==1) with _ | _
  ·have F:Hid ((qR (g1,N,es)&&((N==1)&&((es.length:Int)==0)))=false):=qA (by rw[ec,e1];rfl);clear ec;go_wp2;go_ret;exact⟨qM F.out.symm,aj.out⟩
  ·rcases e2:((es.length:Int)==0) with _ | _
   ·have F:Hid ((qR (g1,N,es)&&((N==1)&&((es.length:Int)==0)))=false):=qA (by rw[ec,e1,e2];rfl);clear ec;go_wp2;go_ret;exact⟨qM F.out.symm,aj.out⟩
   ·have F:Hid ((qR (g1,N,es)&&((N==1)&&((es.length:Int)==0)))=true):=qA (by rw[ec,e1,e2];rfl);clear ec;go_wp2;go_ret;exact⟨qM F.out.symm,aj.out⟩
def ImI (x y:GrD) (o im:List Int):Prop:=(im.length:Int)=x.2.1∧ ∀(u:Nat) (h:u<im.length),im[u]=if(u:Int)∈o then imgW x y u else-1
theorem ImI.add {x y:GrD} {o im:List Int} (h:ImI x y o im) {z:Nat}:ImI x y (o++ [(z:Int)]) (im.set z (imgW x y z)):=by
 refine⟨by rw[zaB];exact h.1,fun u hu=> ?_⟩;rw[zaB] at hu;rw[zaF];split
 ·rename_i e
  subst e;rw[if_pos (by simp)]
 ·rename_i e
  rw[h.2 u hu];by_cases hm:(u:Int)∈o
  ·rw[if_pos hm,if_pos (zaq.2 (.inl hm))]
  ·rw[if_neg hm,if_neg];intro fF;rcases zaq.1 fF with fF | fF
   ·exact hm fF
   ·have:=zap.1 fF;omega
theorem ImI.one {x y:GrD} {n:Nat} (hn:x.2.1=(n:Int)) (h0:imgW x y 0=0):ImI x y [0] ((zai n (-1)).set 0 0):=by
 refine⟨by simp[hn],fun u hu=> ?_⟩;rw[zaF];split
 ·rename_i e
  subst e;simp[h0]
 ·rename_i e
  rw[if_neg (by simp;omega)];simp
def ovN (x y:GrD) (o:List Int) (k:Nat):Nat:=((o.take k).filter fun u=>decide (imgW x y u=0)).length
theorem qNn {x y:GrD} {o:List Int} {k:Nat} {u:Int} (h:o[k]? =some u):ovN x y o (k+1)=if imgW x y u=0 then ovN x y o k+1 else ovN x y o k:=by
 unfold ovN;obtain⟨hk,rfl⟩:=zad.1 h;rw[List.take_succ_eq_append_getElem hk,List.filter_append,zav];by_cases e:imgW x y o[k]=0
 ·rw[if_pos e];simp[e]
 ·rw[if_neg e];simp[e]
theorem qOT {x y:GrD} {o o':List Int} {k:Nat} (hk:k≤o.length) (h: ∀(j:Nat) (u:Int),o[j]? =some u→o'[j]? =some u):ovN x y o' k=ovN x y o k:=by
 have:o'.take k=o.take k:=by
  apply List.ext_getElem?
  intro j;rw[zaP,zaP];by_cases hj:j<k
  ·rw[if_pos hj,if_pos hj,zaa (by omega:j<o.length)];exact h j _ (zaa _)
  ·rw[if_neg hj,if_neg hj]
 unfold ovN;rw[this]
theorem qPA {x y:GrD} {o:List Int} {k:Nat}:ovN x y o k≤k:=by
 unfold ovN;refine Nat.le_trans (List.length_filter_le _ _) ?_;rw[List.length_take];omega
theorem qCD (va vb:Value) (a b:GrD) (w:World) (ha:ArgG w va a) (hb:ArgG w vb b):
  Calls Tryz.prog 9 #[va,vb] w fun e w'=>e= .returned (.int .i64 (idxF a b))∧Below w.heap.size w w':=by
 have dI:=qA ha;have aI:=qA hb;obtain⟨sa,rfl,iR,iQ,dJ⟩:=ha;obtain⟨A,ca,rfl⟩:=dJ.form;obtain⟨sb,rfl,iI,iZ,cA⟩:=hb;obtain⟨B,cb,rfl⟩:=cA.form;have kV:=qA (fun h=>qFf (a:=a) (b:=b) h);have pT:=qA (fun h=>qNq (a:=a) (b:=b) h);have zh:=qA (fun h=>qj (a:=a) (b:=b) h);have nV:=qA (fun h=>qFy (a:=a) h);have wE:=qA (fun h=>qFy (a:=b) h);have xq:=qA (fun h=>qMz (a:=a) (b:=b) h);have nA:Hid (qAG a b=false→idxF a b= -1):=qA fun h=>by unfold idxF;rw[h];rfl
 have dy:Hid (qAG a b=true→0≤qY a.2.2 0 (cycG b).2→idxF a b=idxC (movG a (qY a.2.2 0 (cycG b).2).toNat) (cycG b).1):=qA fun h h2=>by unfold idxF;rw[if_pos h,if_pos h2]
 generalize GD:idxF a b=RR at*;clear GD;obtain⟨a1,a2,as'⟩:=a;obtain⟨b1,b2,bs⟩:=b;simp only at*
 clear dJ cA;go_enter Tryz.func9,Tryz.ntmps9
 go_wp2_with fail;obtain⟨W1,an⟩: ∃W,W=w.alloc (.cells #[.int .i64 a1,.int .i64 a2, .slice A as'.length ca] 26):=⟨_,rfl⟩;rw[←an];obtain⟨x1,eS,s1⟩:=CBx.new an;obtain⟨W,hW⟩: ∃W,W=W1.alloc (.cells #[.int .i64 b1,.int .i64 b2, .slice B bs.length cb] 26):=⟨_,rfl⟩;rw[←hW];obtain⟨x2,cI,s2⟩:=CBx.new hW;have XA:=qA (x1.below cI);rw[s1] at x2;have XB:=qA x2;have BX:Hid (Below w.heap.size w W):=qA (eS.trans (cI.mono tO));have aW:W.heap.size=w.heap.size+2:=tO;clear hW an eS cI x1 x2 s1 s2;refine(qFX _ _ (a1,a2,as') (b1,b2,bs) W (dI.out.below BX.out) (aI.out.below BX.out)).mono ?_
 rintro e w1 ⟨rfl,dU⟩;have aw:=dU.size;have xm:=qA (XA.out.below dU);have xZ:=qA (XB.out.below dU);have B1:Hid (Below w.heap.size w w1):=qA (BX.out.trans (dU.mono tO));clear dU;rcases ei:qAG (a1,a2,as') (b1,b2,bs) with _ | _
 ·have F:=qA (nA.out ei);go_wp2;go_ret;rw[F.out];exact⟨by simp[go_sem],B1.out⟩
 ·have oC:=qA ei;obtain⟨lk,rC,vx⟩:=zh.out ei;clear vx;have jv:=qA rC;have fd:=qA (qP lk);have jm:=qA lk;have dy:=qA (dy.out ei);have kV:=qA (kV.out ei);have pT:=qA (pT.out ei);have xq:=qA (xq.out ei);have nV:=qA (nV.out lk);have wE:=qA (wE.out rC);have DB:=(qB (qZ lk)).2.1;have ou:=qA (fun q=>qBF (qZ lk) q 0 tO);obtain⟨sC,qC,AE,Gb,_,_,tz,_⟩:=qDo 40 (b1,b2,bs) [] rC;change (cycG (b1,b2,bs)).2= []++qC at AE;change qR (cycG (b1,b2,bs)).1=true at tz;have rU:=qA tz;clear ei nA zh lk rC AE Gb tz;obtain⟨z0,z1,z2⟩:=xm.out.cs;go_wp2_with fail;refine(qCY _ (a1,a2,as') w1 (dI.out.below B1.out)).mono ?_
  rintro e w2 ⟨rfl,da⟩;have cT:=da.size;have pG:=qA (xm.out.below da);have lM:=qA (xZ.out.below da);have B2:Hid (Below w.heap.size w w2):=qA (B1.out.trans (da.mono tO));clear da z0 z1 z2;rw[jm.out];by_cases hta:as'= []
  ·have yO:a2=1:=nV.out hta;have xq:=qA (xq.out hta);have kd:(true&&((a2==1)&&((as'.length:Int)==0)))=true:=by rw[hta,yO];rfl
   rw[kd];obtain⟨z0,z1,z2⟩:=lM.out.cs;clear kd hta yO;go_wp2_with fail;refine(qCY _ (b1,b2,bs) w2 (aI.out.below B2.out)).mono ?_
   rintro e w3 ⟨rfl,cX⟩;have B3:Hid (Below w.heap.size w w3):=qA (B2.out.trans (cX.mono tO));clear cX z0 z1 z2;rw[jv.out];by_cases htb:bs= []
   ·have vk:b2=1:=wE.out htb;have kd:(true&&((b2==1)&&((bs.length:Int)==0)))=true:=by rw[htb,vk];rfl
    have F:Hid (RR=1):=qA (by rw[xq.out,if_pos htb]);rw[kd];clear kd htb vk;go_wp2;go_ret;rw[F.out];exact⟨by simp[go_sem],B3.out⟩
   ·have kd:(true&&((b2==1)&&((bs.length:Int)==0)))=false:=by
     cases bs with
     | nil=>exact absurd rfl htb
     | cons z zs=>simp;intro _;omega
    have F:Hid (RR= -1):=qA (by rw[xq.out,if_neg htb]);rw[kd];clear kd htb;go_wp2;go_ret;rw[F.out];exact⟨by simp[go_sem],B3.out⟩
  ·have kd:(true&&((a2==1)&&((as'.length:Int)==0)))=false:=by
    cases as' with
    | nil=>exact absurd rfl hta
    | cons z zs=>simp;intro _;omega
   rw[kd];have rN:=pT.out hta;have dy:=qA (dy.out rN);have kV:=qA (kV.out rN);have Jv:=qA rN;obtain⟨z0,z1,z2⟩:=lM.out.cs;clear kd hta rN;go_wp2_with fail;refine(qEP _ (b1,b2,bs) w2 (aI.out.below B2.out) jv.out).mono ?_
   rintro e w3 ⟨r3,q3,rfl,o3,F9,cX⟩;have fS:=cX.size;have su:=qA (pG.out.below cX);have B3:Hid (Below w.heap.size w w3):=qA (B2.out.trans (cX.mono tO));clear cX z0 z1 z2;generalize cycG (b1,b2,bs)=C at*;obtain⟨⟨y1,y2,ys⟩,q⟩:=C;obtain⟨sy,rfl,vG,uz,Cr⟩:=o3;obtain⟨Ay,cy,rfl,_⟩:=Cr.form;obtain⟨Aq,cq,rfl,_⟩:=F9.form;simp only at*
   obtain⟨u0,u1,u2⟩:=su.out.cs;have jY:w.heap.size<w3.heap.size:=tO;go_wp2_with fail;clear u0 u1 u2;obtain⟨w4,d9⟩: ∃W,W=w3.alloc (.cells #[.int .i64 y1,.int .i64 y2, .slice Ay ys.length cy] 26):=⟨_,rfl⟩;have zb:=qA (GBx.new (m:=(y1,y2,ys)) Cr vG uz d9);obtain⟨_,ci,lZ⟩:=CBx.new d9;rw[←d9];have CM:Hid (∀b,(zah Ay ys.length cy).ownBlock=some b→w2.heap.size≤b∧b<w3.heap.size):=qA fun b hb=>Cr.1.lt b hb;have sD:=qA (su.out.below ci);have Pl:=qA (F9.below ci);have B4:Hid (Below w.heap.size w w4):=qA (B3.out.trans (ci.mono tO));clear d9 ci Cr F9;refine(qJm _ _ (a1,a2,as') 0 q w4 (dI.out.below B4.out) Pl.out.rd fd.out (by simp only;omega)).mono ?_
   rintro e w5 ⟨rfl,gT⟩;have gW:=gT.size;have mw:=qA (sD.out.below gT);have zI:=qA (zb.out.below gT);have B5:Hid (Below w.heap.size w w5):=qA (B4.out.trans (gT.mono tO));clear gT;have hZ:=ou.out q;have Am:=Jv.out;have aN:qBG as' 0 q=(qY as' 0 q,q.length):=by
    rcases qGN as' q 0 (zaE _) with ⟨h1,_⟩ | ⟨h1,h2,h3⟩
    ·omega
    ·exact Prod.ext h3 h2
   obtain⟨u,hu⟩: ∃u:Nat,qY as' 0 q=(u:Int):=⟨(qY as' 0 q).toNat,tO⟩;rw[aN];rw[hu] at dy kV hZ⊢;rw[zal] at dy kV;have uM:Hid ((u:Int)<a2):=qA tO;clear hu Am hZ ou aN Jv;obtain⟨u0,u1,u2⟩:=mw.out.cs;go_wp2_with fail;refine(qDG _ (a1,a2,as') u w5 (dI.out.below B5.out) fd.out uM.out).mono ?_
   rintro e w6 ⟨r6,rfl,o6,pj⟩;have iD:=pj.size;have xE:=qA (zI.out.below pj);have B6:Hid (Below w.heap.size w w6):=qA (B5.out.trans (pj.mono tO));clear pj u0 u1 u2;generalize movG (a1,a2,as') u=X at*;obtain⟨x1,x2,xs⟩:=X;obtain⟨sx,rfl,wF,vB,Dj⟩:=o6;obtain⟨Ax,cx,rfl,_⟩:=Dj.form;simp only at*
   have oV:=kV.out;obtain⟨rZ,kL,vx⟩:=qj oV;have iB:=qZ rZ;have nF:=qZ kL;obtain⟨AI,BI,tW,_⟩:=qB iB;obtain⟨D7,FU,vL,_⟩:=qB nF;have cK:=qA (fun u l=>qGZ oV (u:=u) (l:=l));have jh:=qA (fun u l=>qGP (x:=(x1,x2,xs)) (y:=(y1,y2,ys)) (u:=u) (l:=l));have pF:=qA (qHp (x:=(x1,x2,xs)) (y:=(y1,y2,ys)));have jt:Hid (covB (x1,x2,xs) (y1,y2,ys)=false→idxC (x1,x2,xs) (y1,y2,ys)= -1):=qA fun h=>by unfold idxC;rw[h];rfl
   have FM:Hid (covB (x1,x2,xs) (y1,y2,ys)=true→idxC (x1,x2,xs) (y1,y2,ys)=((fibL (x1,x2,xs) (y1,y2,ys) 0).length:Int)):=qA fun h=>by unfold idxC;rw[h];rfl
   have He:=qA (fun u=>qBI oV (u:=u));have rG:=qA (qO iB);have se:=qA (qO nF);have OX:=qA (qp (qE (qP rZ)).2);have OY:=qA (qp (qE (qP kL)).2);have LX:=qA (qAn iB);have LY:=qA (qAn nF);have Gy:=qA (fun u (x:Int) o=>qHs iB (u:=u) (o:=o) x);have pQ:Hid (imgW (x1,x2,xs) (y1,y2,ys) 0=0):=qA (qBB iB);obtain⟨n,rfl⟩: ∃n:Nat,x2=(n:Int):=⟨x2.toNat,by simp only at BI;omega⟩;obtain⟨rn,rfl⟩: ∃rn:Nat,x1=(rn:Int):=⟨x1.toNat,by simp only at AI;omega⟩;simp only at AI BI tW D7 FU vL
   clear oV rZ kL vx iB nF;obtain⟨i0,cE,ng,dj,fF⟩:=info_parts qCR;obtain⟨w7,xY⟩: ∃W,W=w6.alloc (.cells #[.int .i64 (rn:Int),.int .i64 (n:Int), .slice Ax xs.length cx] 26):=⟨_,rfl⟩;have Kl:=qA (GBx.new (m:=((rn:Int),(n:Int),xs)) Dj wF vB xY);obtain⟨_,FE,lB⟩:=CBx.new xY;have ud:Hid (∀b,(zah Ax xs.length cx).ownBlock=some b→b<w6.heap.size):=qA fun b hb=>(Dj.1.lt b hb).2;have Is:=qA (xE.out.below FE);have B7:Hid (Below w.heap.size w w7):=qA (B6.out.trans (FE.mono tO));clear FE Dj;go_wp2_with (at_make;rw[←xY];refine wpList_make_full _ rfl _ _ 37 rfl w7.heap.size 3 i0 (.int .i64 0) 1 Tryz.underlying37 cE ng dj _ _ _ _ n rfl rfl rfl rfl (by rw[fF];omega) (by unfold maxLen;omega) (zag _) ?_)
   intro w8 hown8 hgrow8;rw[←xY] at hgrow8;try rw[lB] at hown8
   have O8:Hid (OwI w8 (w6.heap.size+1) (.slice (some ⟨w6.heap.size+1,0,none⟩) n n) (zai 0 (-1)++zai (n-0) 0)):=qA (by
    have:=qKb (w:=w7) (w2:=w8) (n:=n) (by rw[lB];simpa[toList_madeCells_one] using hown8)
    rw[lB] at this;simpa using this)
   have mk:Hid (Below (w6.heap.size+1) w7 w8):=qA ((zao (w6.heap.size+1) w7).grown hgrow8 tO (fun k h=>by cases h));have Nh:w6.heap.size+1<w8.heap.size:=(O8.out.1.lt (w6.heap.size+1) rfl).2;have GXL:Hid (∀w',Below (w6.heap.size+1) w7 w'→GBx w' w6.heap.size w.heap.size Ax cx ((rn:Int),(n:Int),xs)∧GBx w' w3.heap.size w.heap.size Ay cy (y1,y2,ys)):=qA fun w' hb=>
    ⟨(Kl.out.belowAt hb tO (fun b hb=>by have:=ud.out b hb;omega)).mono tO,(Is.out.belowAt hb tO (fun b hb=>by have:=(CM.out b hb).2;omega)).mono tO⟩
   have BW:Hid (∀w',Below (w6.heap.size+1) w7 w'→Below w.heap.size w w'):=qA fun w' hb=>B7.out.trans (hb.mono tO);have Rk:w3.heap.size<w6.heap.size:=tO;clear xY hown8 hgrow8 Kl Is B7 xE zI zb mw sD su B6 B5 B4 B3;go_wp2;go_loopw [51] (fun i wr=> ∃k:Nat,k≤n∧i= .int .i64 k∧OwI wr (w6.heap.size+1) (.slice (some ⟨w6.heap.size+1,0,none⟩) n n) (zai k (-1)++zai (n-k) 0)∧Below (w6.heap.size+1) w7 wr) (fun i _=>n-(intOf i).toNat)
   case atStart=>exact⟨0,zat _,rfl,O8.out,mk.out⟩
   case round=>
    obtain⟨k,hk,rfl,aa,ab⟩:=hrel;have HB:=qA ab;have iC:=ab.size;have HO:=qA aa;have Nx:=(aa.1.lt (w6.heap.size+1) rfl).2;by_cases ac:k<n
    ·have aF:=aa.cellAt k (by simp;omega);have sr:=aa.free k;have HS:=qA (aa.set k (-1) ⟨by decide,by decide⟩);have bG:=qA (qIU n k ac);clear aa ab;generalize (zai k (-1:Int)++zai (n-k) 0)[k]'(by simp;omega)=z0 at aF;go_wp2;go_roundw
     case rel=>exact⟨k+1,tO,by go_num,by rw[←bG.out];exact HS.out.1,HB.out.grown HS.out.2 tO (fun j hj=>by cases hj;exact zag _)⟩
     case measure=>simp[intOf];omega
    ·obtain rfl:k=n:=tO
     have aX:OwI wr (w6.heap.size+1) (.slice (some ⟨w6.heap.size+1,0,none⟩) k k) (zai k (-1)):=by simpa using aa
     have aF:=aX.cellAt 0 (by simp;omega);have sr:=aX.free 0;have HS:=qA (aX.set 0 0 ⟨by decide,by decide⟩);have we:(0:Int)<(k:Int):=tO;clear aa ab aX;generalize (zai k (-1:Int))[0]'(by simp;omega)=z0 at aF;have BS:=qA (HB.out.grown HS.out.2 tO (fun j hj=>by cases hj;exact zag _));have Jh:(wr.setCell ⟨w6.heap.size+1,0,none⟩ (.int .i64 0)).heap.size=wr.heap.size:=by simp
     go_wp2;obtain⟨wS,Ib⟩: ∃W,W=wr.setCell ⟨w6.heap.size+1,0,none⟩ (.int .i64 0):=⟨_,rfl⟩;rw[←Ib] at HS BS Jh⊢;have O9:Hid (OwI (wS.alloc (.cells #[.int .i64 0] 3)) (w6.heap.size+2) (.slice (some ⟨wr.heap.size,0,none⟩) 1 1) [0]):=qA (by
      have:=(qAE wS [0] (fun x hx=>by simp at hx;subst hx;exact⟨by decide,by decide⟩) (by simp) (zag _)).mono (base':=w6.heap.size+2) tO
      rw[Jh] at this;exact this)
     have b9:Below wS.heap.size wS (wS.alloc (.cells #[.int .i64 0] 3)):=(zao _ _).alloc (zag _) _;obtain⟨w9,rJ⟩: ∃W,W=wS.alloc (.cells #[.int .i64 0] 3):=⟨_,rfl⟩;have kn:w9.heap.size=wS.heap.size+1:=by rw[rJ];simp
     rw[←rJ] at O9 b9⊢;have Cs:=qA (HS.out.1.below b9);have B9:=qA (BS.out.trans (b9.mono tO));clear rJ b9 Ib aF sr;obtain⟨n,rfl⟩: ∃n,n=k:=⟨_,rfl⟩;have cR:Hid (∀W:World,Calls Tryz.prog 79 #[.int .i64 (rn:Int)] W fun e w'=> ∃r,e= .returned r∧OwI w' W.heap.size r (qG rn)∧Below W.heap.size W w'):=qA fun W=>qCA rn W tO;have dT:=qy rn;have io:Hid ((qG rn).length=2*rn):=qA dT;have dR:1≤(qG rn).length:=tO;have OR:(qG rn).length≤6:=tO;have gZ:Hid (∀x∈qG rn,-3≤x∧x≤3):=qA fun x hx=>by have:=qX.1 hx;omega
     have tq:Hid (∀u l,u∈canO ((rn:Int),(n:Int),xs)→l∈qG rn→qF xs u l<0→0≤qF ys (imgW ((rn:Int),(n:Int),xs) (y1,y2,ys) u) l→covB ((rn:Int),(n:Int),xs) (y1,y2,ys)=false):=qA fun u l a b c d=>jh.out u l a b c d;have vY:Hid ((∀u∈canO ((rn:Int),(n:Int),xs),∀l∈qG rn,¬(qF xs u l<0∧0≤qF ys (imgW ((rn:Int),(n:Int),xs) (y1,y2,ys) u) l))→covB ((rn:Int),(n:Int),xs) (y1,y2,ys)=true):=qA fun h=>pF.out h;have kS:Hid (canO ((rn:Int),(n:Int),xs)=canF xs (qG rn) (41-0) 0 [0]):=qA rfl;have Bi:Hid (ImI ((rn:Int),(n:Int),xs) (y1,y2,ys) [0] ((zai n (-1)).set 0 0)):=qA (ImI.one rfl pQ.out);clear jh pF dT HS;generalize qG rn=ls at*;obtain⟨imS,Af⟩: ∃l,(zai n (-1:Int)).set 0 0=l:=⟨_,rfl⟩;rw[Af] at Bi Cs;clear Af;go_loopw [13,14,15] (fun out ov i wr=> ∃(k:Nat) (o im:List Int),k≤o.length∧i= .int .i64 k∧ov= .int .i64 (ovN ((rn:Int),(n:Int),xs) (y1,y2,ys) o k:Nat)∧qAB (n:Int) o∧canO ((rn:Int),(n:Int),xs)=canF xs ls (41-k) k o∧ImI ((rn:Int),(n:Int),xs) (y1,y2,ys) o im∧OwI wr (w6.heap.size+1) (.slice (some ⟨w6.heap.size+1,0,none⟩) n n) im∧OwI wr (w6.heap.size+2) out o∧Below (w6.heap.size+1) w7 wr∧(∀(j:Nat) u,j<k→o[j]? =some u→ ∀l∈ls,¬(qF xs u l<0∧0≤qF ys (imgW ((rn:Int),(n:Int),xs) (y1,y2,ys) u) l))) (fun _ _ i _=>41-(intOf i).toNat)
     case atStart=>exact⟨0,[0],imS,zat _,rfl,rfl,qAB.one tO,kS.out,Bi.out,Cs.out,O9.out,B9.out,fun j u hj=>absurd hj (zax _)⟩
     case round=>
      obtain⟨k,o,im,hk,rfl,rfl,af,eT,gp,nQ,aa,ab,eF⟩:=hrel;obtain⟨wo,rfl⟩: ∃wo:World,wo=wr:=⟨_,rfl⟩;have gV:=af.len tO tO;have dD:=qA af;have HC:=qA eT;have dq:=qA gp;have iy:=qA nQ;have HO:=qA aa;have ay:=qA ab;have yd:=qA eF;have aq:=ab.size;have ry:=qPA (x:=((rn:Int),(n:Int),xs)) (y:=(y1,y2,ys)) (o:=o) (k:=k);obtain⟨A1,ah,rfl,_,_,_,GS⟩:=aa.form;clear af eT gp nQ ab eF;by_cases ac:k<o.length
      ·obtain⟨u,hu⟩: ∃u,o[k]? =some u:=⟨o[k],by simp⟩;have fV:o[k]=u:=by rw[zaa ac] at hu;injection hu
       have fl:=dD.out.2.1 u (zac hu);obtain⟨un,rfl⟩: ∃un:Nat,u=(un:Int):=⟨u.toNat,tO⟩;have d4:un<n:=tO;have BR:(un:Int)<(n:Int):=tO;have Qc:Hid ((un:Int)∈o):=qA (zac hu);have rp:Hid (canO ((rn:Int),(n:Int),xs)=canF xs ls (41-(k+1)) (k+1) (ls.foldl (qW xs (un:Int)) o)):=qA (by
        rw[HC.out,show 41-k=(41-(k+1))+1 by omega,qBd _ _ _ _ _ ac,fV])
       have q9:Hid ((un:Int)∈canO ((rn:Int),(n:Int),xs)):=qA (by rw[HC.out];exact zac (qER _ _ _ _ _ _ _ hu));have dk:Hid (∀m:Nat,(((ls.take m).foldl (qW xs (un:Int)) o))[k]? =some (un:Int)):=qA fun m=>qr _ _ _ _ _ _ hu;have k7:Hid (∀(j:Nat) (v:Int),j<k→(ls.foldl (qW xs (un:Int)) o)[j]? =some v→o[j]? =some v):=qA fun j v hj hv=>by
        have h1:=qr xs (un:Int) ls o j _ (zaa (by omega:j<o.length));rw[hv] at h1;injection h1 with h1
        rw[h1];exact zaa _
       have kE:Hid (ovN ((rn:Int),(n:Int),xs) (y1,y2,ys) (ls.foldl (qW xs (un:Int)) o) (k+1)=ovN ((rn:Int),(n:Int),xs) (y1,y2,ys) o (k+1)):=qA (qOT tO fun j v hj=>qr _ _ _ _ _ _ hj);have gH:Hid (∀(m:Nat) (hm:m<ls.length),(ls.take (m+1)).foldl (qW xs (un:Int)) o=qW xs (un:Int) ((ls.take m).foldl (qW xs (un:Int)) o) ls[m]):=qA fun m hm=>qBm _ _ _ _ _ hm;have di:Hid (∀m:Nat,qAB (n:Int) ((ls.take m).foldl (qW xs (un:Int)) o)):=qA fun m=>by
        generalize ls.take m=l2;have: ∀(l2:List Int) (o:List Int),qAB (n:Int) o→qAB (n:Int) (l2.foldl (qW xs (un:Int)) o):=by
         intro l2;induction l2 with
         | nil=>intro o h;exact h
         | cons a l2 ih=>intro o h;exact ih _ (Gy.out _ a o h)
        exact this l2 o dD.out
       have jM:Hid (∀(m:Nat) (hm:m<ls.length),ls[m]∈ls):=qA fun m hm=>zay hm;have uW:=qA (He.out _ q9.out);have pE:=qA (fun l=>cK.out (un:Int) l q9.out);have rI:=qA (fun l=>tq.out (un:Int) l q9.out);have xj:=qA (qNn (x:=((rn:Int),(n:Int),xs)) (y:=(y1,y2,ys)) hu);obtain⟨dU,rfl,LG,LZ⟩:=GS tO;have d0:=aa.cellAt k ac;rw[fV] at d0;have kK:un<im.length:=by have:=dq.out.1;simp only at this;omega
       have fK:=dq.out.2 un kK;rw[if_pos Qc.out] at fK;have g0:=iy.out.cellAt un kK;rw[fK] at g0;obtain⟨p0,p1,p2⟩:=(GXL.out wo ay.out).1.cs;simp only at p0 p1 p2
       obtain⟨iu,lI⟩: ∃iu,imgW ((rn:Int),(n:Int),xs) (y1,y2,ys) (un:Int)=iu:=⟨_,rfl⟩;rw[lI] at g0 xj uW;have ru:=qA lI;obtain⟨ok,af⟩: ∃ok,ovN ((rn:Int),(n:Int),xs) (y1,y2,ys) o k=ok:=⟨_,rfl⟩;rw[af] at xj ry⊢;clear hu fV kK fK lI GS aa af;rcases e0:(iu==0) with _ | _
       ·have mW:Hid (ovN ((rn:Int),(n:Int),xs) (y1,y2,ys) o (k+1)=ok):=qA (by rw[xj.out,if_neg (by simpa using e0)]);have uc:ok≤100:=tO;obtain⟨xt,kM⟩: ∃xt,xt=ok:=⟨_,rfl⟩;have BD:=qA kM;clear kM;go_wp2_with fail;rw[←BD.out] at mW uc⊢;clear BD e0 ry xj;refine(cR.out wo).mono ?_
        rintro e wl ⟨rl,rfl,ol,bL⟩;have Cm:=bL.size;have tI:=qA (iy.out.below bL);have xX:=qA (HO.out.below bL);have BL:=qA (ay.out.trans (bL.mono tO));obtain⟨Al,capl,rfl,cU,cV,_,dC⟩:=ol.form;obtain⟨bl,rfl,jR,dw⟩:=dC tO;unfold maxLen at cV;have OL:=qA ol.rd;clear ol bL dC p0 p1 p2 d0 g0;go_wp2;go_loopw [13,82] (fun out j wr=> ∃(m:Nat) (im:List Int),m≤ls.length∧j= .int .i64 m∧ImI ((rn:Int),(n:Int),xs) (y1,y2,ys) ((ls.take m).foldl (qW xs (un:Int)) o) im∧OwI wr (w6.heap.size+1) (.slice (some ⟨w6.heap.size+1,0,none⟩) n n) im∧OwI wr (w6.heap.size+2) out ((ls.take m).foldl (qW xs (un:Int)) o)∧RdI wr (.slice (some ⟨bl,0,none⟩) ls.length capl) ls∧out.ownBlock≠some bl∧bl<wr.heap.size∧Below (w6.heap.size+1) w7 wr∧(∀i (hi:i<ls.length),i<m→ ¬(qF xs (un:Int) ls[i]<0∧0≤qF ys (imgW ((rn:Int),(n:Int),xs) (y1,y2,ys) (un:Int)) ls[i]))) (fun _ j _=>ls.length-(intOf j).toNat)
        case atStart=>exact⟨0,im,zat _,rfl,dq.out,tI.out,xX.out,OL.out,by simp[zaj];omega,dw,BL.out,fun i _ hi=>absurd hi (zax _)⟩
        case round=>
         obtain⟨m,im,dj,rfl,gp,nQ,aa,aN,ai,bN,aG,eF⟩:=hrel;have si:=aG.size;have bK:=qA aG;have dq:=qA gp;have iy:=qA nQ;have kv:=qA aN;have dx:=qA ai;have jE:=qA eF;have iw:=qA (GXL.out wr aG).1;have iq:=qA (GXL.out wr aG).2;clear gp aG ai eF;by_cases al:m<ls.length
         ·have az:=di.out m;have ke:=az.len tO tO;have bZ:=dk.out m;have HS:=qA (gH.out m al);have gQ:=qA (gZ.out _ (jM.out m al));have tg:=qA (jM.out m al);have fT:Hid (¬(qF xs (un:Int) ls[m]<0∧0≤qF ys iu ls[m])→ ∀i (hi:i<ls.length),i<m+1→ ¬(qF xs (un:Int) ls[i]<0∧0≤qF ys (imgW ((rn:Int),(n:Int),xs) (y1,y2,ys) (un:Int)) ls[i])):=qA fun h i hi h1=>by
           by_cases h2:i<m
           ·exact jE.out i hi h2
           ·obtain rfl:i=m:=tO
            rw[ru.out];exact h
          obtain⟨_,_,dp,_,dO⟩:=aN.at tO;obtain⟨rfl,rfl⟩:bl=_∧0=_:=by simpa using dp
          have c0:=dO m al;rw[zaD] at c0;obtain⟨x,hx⟩: ∃x,ls[m]=x:=⟨_,rfl⟩;rw[hx] at c0 HS gQ tg fT;clear hx dp dO;obtain⟨om,il⟩: ∃om,(ls.take m).foldl (qW xs (un:Int)) o=om:=⟨_,rfl⟩;rw[il] at az ke bZ HS dq aa;clear il;have ur:Hid ((un:Int)∈om):=qA (zac bZ);have dQ:=qA aa;have kK:un<im.length:=by have:=dq.out.1;simp only at this;omega
          have fK:=dq.out.2 un kK;rw[if_pos ur.out,ru.out] at fK;have g0:=iy.out.cellAt un kK;rw[fK] at g0;have ko:w6.heap.size+1<wr.heap.size:=(iy.out.1.lt (w6.heap.size+1) rfl).2;have eA:=qA (pE.out x gQ.out);have gC:=qA (rI.out x tg.out);rw[ru.out] at eA gC;have N0:=qA (qCo (es:=xs) (u:=(un:Int)) (x:=x) (o:=om));have N1:=qA (qCz (es:=xs) (u:=(un:Int)) (x:=x) (o:=om));have N2:=qA (qCF (es:=xs) (u:=(un:Int)) (x:=x) (o:=om));have cS:=qA (fun W (h:ArgG W (.agg #[.int .i64 (rn:Int), .int .i64 (n:Int), .slice Ax xs.length cx]) ((rn:Int),(n:Int),xs))=>qh _ ((rn:Int),(n:Int),xs) (un:Int) x W h (OX.out (un:Int) x) LX.out);have yG:=qA (fun W (h:ArgG W (.agg #[.int .i64 y1, .int .i64 y2, .slice Ay ys.length cy]) (y1,y2,ys))=>qh _ (y1,y2,ys) iu x W h (OY.out iu x) LY.out);obtain⟨p0,p1,p2⟩:=iw.out.cs;obtain⟨r0,r1,r2⟩:=iq.out.cs;simp only at p0 p1 p2 r0 r1 r2
          have bm:=iw.out.lt;have fD:=iq.out.lt;have jb:=qA (rG.out (un:Int) x);have fO:=qA (se.out iu x);obtain⟨A2,ak,rfl,_,_,_,a7⟩:=aa.form;clear aa aN bZ kK fK a7;go_wp2_with fail;have f0:=BelW.cell p0 bm;have f1:=BelW.cell p1 bm;have f2:=BelW.cell p2 bm;have f3:=BelW.cell r0 fD;have f4:=BelW.cell r1 fD;have f5:=BelW.cell r2 fD;have f6:=BelW.cell g0 ko;(refine qH tK tK ?_;(repeat(go_big_quiet_step (first | (go_at_call 80;with_reducible exact Calls.bel_of (cS.out _ (iw.out.below (BelW.h _)).arg)) | (go_at_call 80;with_reducible exact Calls.bel_of (yG.out _ (iq.out.below (BelW.h _)).arg)))));refine wpQuiet_nil ?_;intro wz aA;obtain⟨pq,ae⟩:=aA;have bz:=pq.h;rw[←ae] at bz;clear ae pq)
          clear f0 f1 f2 f3 f4 f5 f6 p0 p1 p2 r0 r1 r2 c0 g0;have sz:=bz.size;have fP:=qA (bK.out.trans (bz.mono tO));have iz:=qA (dQ.out.below bz);have eW:=qA (iy.out.below bz);have km:=qA (kv.out.below bz);clear bz;rcases es:decide (qF xs (un:Int) x<0) with _ | _
          ·have aP:0≤qF xs (un:Int) x:=by simpa using es
           have jr: ¬qF xs (un:Int) x<0:=tO;have fp:=qA (fT.out fun q=>jr q.1);have iC:qF xs (un:Int) x<(n:Int):=by have:=jb.out;omega
           have i8:=qA (eA.out aP);have oU:0≤qF ys iu x:=i8.out.1;have OT: ¬qF ys iu x<0:=tO;obtain⟨sn,jK⟩: ∃sn:Nat,qF xs (un:Int) x=(sn:Int):=⟨(qF xs (un:Int) x).toNat,tO⟩;rw[jK] at i8 N1 N2 aP jr iC⊢;generalize qF ys iu x=tt at*;clear jK es fT N0 eA gC;have fE:sn<im.length:=by have:=dq.out.1;simp only at this;omega
           have fk:=dq.out.2 sn fE;have cc:=eW.out.cellAt sn fE;have ff:=eW.out.free sn;rcases h1:hasB om (sn:Int) with _ | _
           ·rw[if_neg (qCJ h1)] at fk;rw[fk] at cc;have F:=qA (N2.out aP h1);have HY:Hid (I64 (sn:Int)):=qA ⟨tO,tO⟩;have yQ:Hid (I64 tt):=qA (by have:=fO.out;unfold I64;omega);have bG:=qA (eW.out.set sn tt yQ.out);have iF: ∀b,(zah A2 om.length ak).ownBlock=some b→w6.heap.size+2≤b:=fun b hb=>(iz.out.1.lt b hb).1;have rr:=qA iF;have lF:=qA (iz.out.keepB (w':=wz.setCell ⟨w6.heap.size+1,sn,none⟩ (.int .i64 tt)) fun b hb=>zaf _ _ _ b (by have:=iF b hb;show b≠w6.heap.size+1;omega));have Gs:=qA (fP.out.grown bG.out.2 tO (fun j hj=>by cases hj;exact zag _));have lD:Hid (RdI (wz.setCell ⟨w6.heap.size+1,sn,none⟩ (.int .i64 tt)) (.slice (some ⟨bl,0,none⟩) ls.length capl) ls):=qA (km.out.grown bG.out.2 (fun b hb aJ=>by simp[zaj] at hb aJ;omega));have n8:(wz.setCell ⟨w6.heap.size+1,sn,none⟩ (.int .i64 tt)).heap.size=wz.heap.size:=by simp
            have vt:=qA n8;clear fk fE iF n8;go_wp2_with (at_builtin;refine qd rfl (.tmp 115) (.tmp 117) rfl _ _ _ (OwI.alloc lF.out _) rfl _ _ rfl (by simp[go_sem]) HY.out (by first | omega | (simp<;>omega)) (by first | omega | (simp<;>omega)) ?_;intro v9 wv9 o9 g9 p9)
            have ml:=g9.size;simp at ml
            have vD:=qA ((bG.out.1.alloc (.cells #[.int .i64 (sn:Int)] 3)).kept g9 (.inr (fun e=>by have h:w6.heap.size+2≤w6.heap.size+1:=rr.out _ e.symm;omega)));have Cc:Hid (Below (w6.heap.size+1) w7 wv9):=qA (qe Gs.out (by rw[vt.out];omega) lF.out.1 (zaS _) g9);have vZ:Hid (RdI wv9 (.slice (some ⟨bl,0,none⟩) ls.length capl) ls):=qA ((lD.out.alloc _).grown g9 (fun b hb aJ=>dx.out (by simp[zaj] at hb;subst hb;exact aJ)));have xH:Hid (v9.ownBlock≠some bl):=qA fun e=>by
             rcases p9 with p9 | p9
             ·rw[p9] at e;exact dx.out e
             ·rw[p9] at e;simp at e;omega
            go_roundw
            case rel=>
             refine⟨m+1,im.set sn tt,tO,by go_num,?_,vD.out,by rw[HS.out,F.out];exact o9,vZ.out,xH.out,tO,Cc.out,fp.out⟩;rw[HS.out,F.out];have:=dq.out.add (z:=sn)
             rw[i8.out.2] at this;exact this
            case measure=>simp[intOf];omega
           ·rw[if_pos (qAS.1 h1),i8.out.2] at fk;rw[fk] at cc;have F:=qA (N1.out aP h1);clear fk fE;go_wp2;go_roundw
            case rel=>exact⟨m+1,im,tO,by go_num,by rw[HS.out,F.out];exact dq.out,eW.out,by rw[HS.out,F.out];exact iz.out,km.out,dx.out,tO,fP.out,fp.out⟩
            case measure=>simp[intOf];omega
          ·have aP:qF xs (un:Int) x<0:=by simpa using es
           have iC: ¬0≤qF xs (un:Int) x:=tO;rcases et:decide (qF ys iu x<0) with _ | _
           ·have oU: ¬qF ys iu x<0:=by simpa using et
            have F:=qA ((dy.out).trans (jt.out (gC.out aP tO)));generalize qF xs (un:Int) x=ss at*;generalize qF ys iu x=tt at*;go_wp2;go_ret;rw[F.out];exact⟨by simp[go_sem],BW.out _ fP.out⟩
           ·have oU:qF ys iu x<0:=by simpa using et
            have fp:=qA (fT.out fun q=>tO);have F:=qA (N0.out aP);generalize qF xs (un:Int) x=ss at*;generalize qF ys iu x=tt at*;go_wp2;go_roundw
            case rel=>exact⟨m+1,im,tO,by go_num,by rw[HS.out,F.out];exact dq.out,eW.out,by rw[HS.out,F.out];exact iz.out,km.out,dx.out,tO,fP.out,fp.out⟩
            case measure=>simp[intOf];omega
         ·obtain rfl:m=ls.length:=tO
          rw[zak] at aa dq;have az:=di.out ls.length;rw[zak] at az;have gu:=qA az;have dQ:=qA aa;have au:k+1≤(ls.foldl (qW xs (un:Int)) o).length:=by
           have:=dk.out ls.length
           rw[zak] at this;have:=(zad.1 this).1
           omega
          have oK:Hid (∀(j:Nat) v,j<k+1→(ls.foldl (qW xs (un:Int)) o)[j]? =some v→ ∀l∈ls,¬(qF xs v l<0∧0≤qF ys (imgW ((rn:Int),(n:Int),xs) (y1,y2,ys) v) l)):=qA fun j v hj hv l hl=>by
           by_cases ge:j<k
           ·exact yd.out j v ge (k7.out j v ge hv) l hl
           ·obtain rfl:j=k:=tO
            have h1:=dk.out ls.length;rw[zak,hv] at h1;injection h1 with h1
            subst h1;obtain⟨i,hi,rfl⟩:=zam hl;exact jE.out i hi hi
          obtain⟨A2,ak,rfl,_⟩:=aa.form;clear aa aN az;go_wp2;go_roundw
          case rel=>exact⟨k+1,_,im,au,by go_num,by rw[kE.out,mW.out],gu.out,rp.out,dq.out,iy.out,dQ.out,bK.out,oK.out⟩
          case measure=>simp[intOf];omega
       ·have mW:Hid (ovN ((rn:Int),(n:Int),xs) (y1,y2,ys) o (k+1)=ok+1):=qA (by rw[xj.out,if_pos (by simpa using e0)]);have uc:ok+1≤100:=tO;obtain⟨xt,kM⟩: ∃xt,xt=ok+1:=⟨_,rfl⟩;have IC:Hid ((ok:Int)+1=(xt:Int)):=qA tO;have BD:=qA kM;clear kM;go_wp2_with fail;rw[←BD.out] at mW uc;rw[IC.out];clear BD e0 ry xj IC;refine(cR.out wo).mono ?_
        rintro e wl ⟨rl,rfl,ol,bL⟩;have Cm:=bL.size;have tI:=qA (iy.out.below bL);have xX:=qA (HO.out.below bL);have BL:=qA (ay.out.trans (bL.mono tO));obtain⟨Al,capl,rfl,cU,cV,_,dC⟩:=ol.form;obtain⟨bl,rfl,jR,dw⟩:=dC tO;unfold maxLen at cV;have OL:=qA ol.rd;clear ol bL dC p0 p1 p2 d0 g0;go_wp2;go_loopw [13,82] (fun out j wr=> ∃(m:Nat) (im:List Int),m≤ls.length∧j= .int .i64 m∧ImI ((rn:Int),(n:Int),xs) (y1,y2,ys) ((ls.take m).foldl (qW xs (un:Int)) o) im∧OwI wr (w6.heap.size+1) (.slice (some ⟨w6.heap.size+1,0,none⟩) n n) im∧OwI wr (w6.heap.size+2) out ((ls.take m).foldl (qW xs (un:Int)) o)∧RdI wr (.slice (some ⟨bl,0,none⟩) ls.length capl) ls∧out.ownBlock≠some bl∧bl<wr.heap.size∧Below (w6.heap.size+1) w7 wr∧(∀i (hi:i<ls.length),i<m→ ¬(qF xs (un:Int) ls[i]<0∧0≤qF ys (imgW ((rn:Int),(n:Int),xs) (y1,y2,ys) (un:Int)) ls[i]))) (fun _ j _=>ls.length-(intOf j).toNat)
        case atStart=>exact⟨0,im,zat _,rfl,dq.out,tI.out,xX.out,OL.out,by simp[zaj];omega,dw,BL.out,fun i _ hi=>absurd hi (zax _)⟩
        case round=>
         obtain⟨m,im,dj,rfl,gp,nQ,aa,aN,ai,bN,aG,eF⟩:=hrel;have si:=aG.size;have bK:=qA aG;have dq:=qA gp;have iy:=qA nQ;have kv:=qA aN;have dx:=qA ai;have jE:=qA eF;have iw:=qA (GXL.out wr aG).1;have iq:=qA (GXL.out wr aG).2;clear gp aG ai eF;by_cases al:m<ls.length
         ·have az:=di.out m;have ke:=az.len tO tO;have bZ:=dk.out m;have HS:=qA (gH.out m al);have gQ:=qA (gZ.out _ (jM.out m al));have tg:=qA (jM.out m al);have fT:Hid (¬(qF xs (un:Int) ls[m]<0∧0≤qF ys iu ls[m])→ ∀i (hi:i<ls.length),i<m+1→ ¬(qF xs (un:Int) ls[i]<0∧0≤qF ys (imgW ((rn:Int),(n:Int),xs) (y1,y2,ys) (un:Int)) ls[i])):=qA fun h i hi h1=>by
           by_cases h2:i<m
           ·exact jE.out i hi h2
           ·obtain rfl:i=m:=tO
            rw[ru.out];exact h
          obtain⟨_,_,dp,_,dO⟩:=aN.at tO;obtain⟨rfl,rfl⟩:bl=_∧0=_:=by simpa using dp
          have c0:=dO m al;rw[zaD] at c0;obtain⟨x,hx⟩: ∃x,ls[m]=x:=⟨_,rfl⟩;rw[hx] at c0 HS gQ tg fT;clear hx dp dO;obtain⟨om,il⟩: ∃om,(ls.take m).foldl (qW xs (un:Int)) o=om:=⟨_,rfl⟩;rw[il] at az ke bZ HS dq aa;clear il;have ur:Hid ((un:Int)∈om):=qA (zac bZ);have dQ:=qA aa;have kK:un<im.length:=by have:=dq.out.1;simp only at this;omega
          have fK:=dq.out.2 un kK;rw[if_pos ur.out,ru.out] at fK;have g0:=iy.out.cellAt un kK;rw[fK] at g0;have ko:w6.heap.size+1<wr.heap.size:=(iy.out.1.lt (w6.heap.size+1) rfl).2;have eA:=qA (pE.out x gQ.out);have gC:=qA (rI.out x tg.out);rw[ru.out] at eA gC;have N0:=qA (qCo (es:=xs) (u:=(un:Int)) (x:=x) (o:=om));have N1:=qA (qCz (es:=xs) (u:=(un:Int)) (x:=x) (o:=om));have N2:=qA (qCF (es:=xs) (u:=(un:Int)) (x:=x) (o:=om));have cS:=qA (fun W (h:ArgG W (.agg #[.int .i64 (rn:Int), .int .i64 (n:Int), .slice Ax xs.length cx]) ((rn:Int),(n:Int),xs))=>qh _ ((rn:Int),(n:Int),xs) (un:Int) x W h (OX.out (un:Int) x) LX.out);have yG:=qA (fun W (h:ArgG W (.agg #[.int .i64 y1, .int .i64 y2, .slice Ay ys.length cy]) (y1,y2,ys))=>qh _ (y1,y2,ys) iu x W h (OY.out iu x) LY.out);obtain⟨p0,p1,p2⟩:=iw.out.cs;obtain⟨r0,r1,r2⟩:=iq.out.cs;simp only at p0 p1 p2 r0 r1 r2
          have bm:=iw.out.lt;have fD:=iq.out.lt;have jb:=qA (rG.out (un:Int) x);have fO:=qA (se.out iu x);obtain⟨A2,ak,rfl,_,_,_,a7⟩:=aa.form;clear aa aN bZ kK fK a7;go_wp2_with fail;have f0:=BelW.cell p0 bm;have f1:=BelW.cell p1 bm;have f2:=BelW.cell p2 bm;have f3:=BelW.cell r0 fD;have f4:=BelW.cell r1 fD;have f5:=BelW.cell r2 fD;have f6:=BelW.cell g0 ko;(refine qH tK tK ?_;(repeat(go_big_quiet_step (first | (go_at_call 80;with_reducible exact Calls.bel_of (cS.out _ (iw.out.below (BelW.h _)).arg)) | (go_at_call 80;with_reducible exact Calls.bel_of (yG.out _ (iq.out.below (BelW.h _)).arg)))));refine wpQuiet_nil ?_;intro wz aA;obtain⟨pq,ae⟩:=aA;have bz:=pq.h;rw[←ae] at bz;clear ae pq)
          clear f0 f1 f2 f3 f4 f5 f6 p0 p1 p2 r0 r1 r2 c0 g0;have sz:=bz.size;have fP:=qA (bK.out.trans (bz.mono tO));have iz:=qA (dQ.out.below bz);have eW:=qA (iy.out.below bz);have km:=qA (kv.out.below bz);clear bz;rcases es:decide (qF xs (un:Int) x<0) with _ | _
          ·have aP:0≤qF xs (un:Int) x:=by simpa using es
           have jr: ¬qF xs (un:Int) x<0:=tO;have fp:=qA (fT.out fun q=>jr q.1);have iC:qF xs (un:Int) x<(n:Int):=by have:=jb.out;omega
           have i8:=qA (eA.out aP);have oU:0≤qF ys iu x:=i8.out.1;have OT: ¬qF ys iu x<0:=tO;obtain⟨sn,jK⟩: ∃sn:Nat,qF xs (un:Int) x=(sn:Int):=⟨(qF xs (un:Int) x).toNat,tO⟩;rw[jK] at i8 N1 N2 aP jr iC⊢;generalize qF ys iu x=tt at*;clear jK es fT N0 eA gC;have fE:sn<im.length:=by have:=dq.out.1;simp only at this;omega
           have fk:=dq.out.2 sn fE;have cc:=eW.out.cellAt sn fE;have ff:=eW.out.free sn;rcases h1:hasB om (sn:Int) with _ | _
           ·rw[if_neg (qCJ h1)] at fk;rw[fk] at cc;have F:=qA (N2.out aP h1);have HY:Hid (I64 (sn:Int)):=qA ⟨tO,tO⟩;have yQ:Hid (I64 tt):=qA (by have:=fO.out;unfold I64;omega);have bG:=qA (eW.out.set sn tt yQ.out);have iF: ∀b,(zah A2 om.length ak).ownBlock=some b→w6.heap.size+2≤b:=fun b hb=>(iz.out.1.lt b hb).1;have rr:=qA iF;have lF:=qA (iz.out.keepB (w':=wz.setCell ⟨w6.heap.size+1,sn,none⟩ (.int .i64 tt)) fun b hb=>zaf _ _ _ b (by have:=iF b hb;show b≠w6.heap.size+1;omega));have Gs:=qA (fP.out.grown bG.out.2 tO (fun j hj=>by cases hj;exact zag _));have lD:Hid (RdI (wz.setCell ⟨w6.heap.size+1,sn,none⟩ (.int .i64 tt)) (.slice (some ⟨bl,0,none⟩) ls.length capl) ls):=qA (km.out.grown bG.out.2 (fun b hb aJ=>by simp[zaj] at hb aJ;omega));have n8:(wz.setCell ⟨w6.heap.size+1,sn,none⟩ (.int .i64 tt)).heap.size=wz.heap.size:=by simp
            have vt:=qA n8;clear fk fE iF n8;go_wp2_with (at_builtin;refine qd rfl (.tmp 115) (.tmp 117) rfl _ _ _ (OwI.alloc lF.out _) rfl _ _ rfl (by simp[go_sem]) HY.out (by first | omega | (simp<;>omega)) (by first | omega | (simp<;>omega)) ?_;intro v9 wv9 o9 g9 p9)
            have ml:=g9.size;simp at ml
            have vD:=qA ((bG.out.1.alloc (.cells #[.int .i64 (sn:Int)] 3)).kept g9 (.inr (fun e=>by have h:w6.heap.size+2≤w6.heap.size+1:=rr.out _ e.symm;omega)));have Cc:Hid (Below (w6.heap.size+1) w7 wv9):=qA (qe Gs.out (by rw[vt.out];omega) lF.out.1 (zaS _) g9);have vZ:Hid (RdI wv9 (.slice (some ⟨bl,0,none⟩) ls.length capl) ls):=qA ((lD.out.alloc _).grown g9 (fun b hb aJ=>dx.out (by simp[zaj] at hb;subst hb;exact aJ)));have xH:Hid (v9.ownBlock≠some bl):=qA fun e=>by
             rcases p9 with p9 | p9
             ·rw[p9] at e;exact dx.out e
             ·rw[p9] at e;simp at e;omega
            go_roundw
            case rel=>
             refine⟨m+1,im.set sn tt,tO,by go_num,?_,vD.out,by rw[HS.out,F.out];exact o9,vZ.out,xH.out,tO,Cc.out,fp.out⟩;rw[HS.out,F.out];have:=dq.out.add (z:=sn)
             rw[i8.out.2] at this;exact this
            case measure=>simp[intOf];omega
           ·rw[if_pos (qAS.1 h1),i8.out.2] at fk;rw[fk] at cc;have F:=qA (N1.out aP h1);clear fk fE;go_wp2;go_roundw
            case rel=>exact⟨m+1,im,tO,by go_num,by rw[HS.out,F.out];exact dq.out,eW.out,by rw[HS.out,F.out];exact iz.out,km.out,dx.out,tO,fP.out,fp.out⟩
            case measure=>simp[intOf];omega
          ·have aP:qF xs (un:Int) x<0:=by simpa using es
           have iC: ¬0≤qF xs (un:Int) x:=tO;rcases et:decide (qF ys iu x<0) with _ | _
           ·have oU: ¬qF ys iu x<0:=by simpa using et
            have F:=qA ((dy.out).trans (jt.out (gC.out aP tO)));generalize qF xs (un:Int) x=ss at*;generalize qF ys iu x=tt at*;go_wp2;go_ret;rw[F.out];exact⟨by simp[go_sem],BW.out _ fP.out⟩
           ·have oU:qF ys iu x<0:=by simpa using et
            have fp:=qA (fT.out fun q=>tO);have F:=qA (N0.out aP);generalize qF xs (un:Int) x=ss at*;generalize qF ys iu x=tt at*;go_wp2;go_roundw
            case rel=>exact⟨m+1,im,tO,by go_num,by rw[HS.out,F.out];exact dq.out,eW.out,by rw[HS.out,F.out];exact iz.out,km.out,dx.out,tO,fP.out,fp.out⟩
            case measure=>simp[intOf];omega
         ·obtain rfl:m=ls.length:=tO
          rw[zak] at aa dq;have az:=di.out ls.length;rw[zak] at az;have gu:=qA az;have dQ:=qA aa;have au:k+1≤(ls.foldl (qW xs (un:Int)) o).length:=by
           have:=dk.out ls.length
           rw[zak] at this;have:=(zad.1 this).1
           omega
          have oK:Hid (∀(j:Nat) v,j<k+1→(ls.foldl (qW xs (un:Int)) o)[j]? =some v→ ∀l∈ls,¬(qF xs v l<0∧0≤qF ys (imgW ((rn:Int),(n:Int),xs) (y1,y2,ys) v) l)):=qA fun j v hj hv l hl=>by
           by_cases ge:j<k
           ·exact yd.out j v ge (k7.out j v ge hv) l hl
           ·obtain rfl:j=k:=tO
            have h1:=dk.out ls.length;rw[zak,hv] at h1;injection h1 with h1
            subst h1;obtain⟨i,hi,rfl⟩:=zam hl;exact jE.out i hi hi
          obtain⟨A2,ak,rfl,_⟩:=aa.form;clear aa aN az;go_wp2;go_roundw
          case rel=>exact⟨k+1,_,im,au,by go_num,by rw[kE.out,mW.out],gu.out,rp.out,dq.out,iy.out,dQ.out,bK.out,oK.out⟩
          case measure=>simp[intOf];omega
      ·obtain rfl:k=o.length:=tO
       have jz:covB ((rn:Int),(n:Int),xs) (y1,y2,ys)=true:=vY.out fun u hu l hl=>by
        rw[HC.out,qCx] at hu;obtain⟨j,hj,rfl⟩:=zam hu;exact yd.out j _ hj (zaa hj) l hl
       have ln:ovN ((rn:Int),(n:Int),xs) (y1,y2,ys) o o.length=(fibL ((rn:Int),(n:Int),xs) (y1,y2,ys) 0).length:=by
        unfold ovN fibL;rw[zak,HC.out,qCx]
       have F:Hid (RR=((ovN ((rn:Int),(n:Int),xs) (y1,y2,ys) o o.length:Nat):Int)):=qA (by rw[dy.out,FM.out jz,ln]);obtain⟨ok,af⟩: ∃ok,ovN ((rn:Int),(n:Int),xs) (y1,y2,ys) o o.length=ok:=⟨_,rfl⟩;rw[af] at F ry⊢;clear jz ln af aa GS;go_wp2;go_ret;rw[F.out];exact⟨by simp[go_sem],BW.out _ ay.out⟩
end Go.Proofs.YtnjpoljbagfdnaaGreat
