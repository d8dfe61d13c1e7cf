/- Parts of the proof: Int. -/
import Derived.Test.YtnjpoljbagfdnaaGreatP03
import Derived.Test.YtnjpoljbagfdnaaGreatP04
import Derived.Test.YtnjpoljbagfdnaaGreatP02
import Derived.Test.YtnjpoljbagfdnaaGreatP07
import Derived.Maps.OwnSet
import Derived.Maps.OwnOps
import Derived.WideKeyPair
set_option maxRecDepth 100000
set_option maxHeartbeats 16000000
set_option linter.unusedVariables false
set_option linter.unusedSimpArgs false
namespace Go.Proofs.YtnjpoljbagfdnaaGreat
open Go.RowKit
open _root_.List renaming setIfInBounds_toArray→zaa,length_append→zae,set_cons_zero→zaf,set_cons_succ→zag,getElem?_eq_some_iff→zai,idxOf_lt_length_of_mem→zaj,getElem?_eq_getElem→zak,take_succ_eq_append_getElem→zao,take_length→zap,mem_singleton→zaq,getElem_mem→zas,getElem_idxOf→zau,length_singleton→zaC,mem_of_getElem?→zaD,range→zaE,foldl_append→zaH,filterMap_append→zaJ,mem_range→zaM,map_cons→zaN,append_assoc→zaO,flatten_cons→zaP,idxOf_append→zaQ,getElem?_append_left→zaR,length_filterMap_le→zaS,range_succ→zaU,replicate→zaV,getElem?_eq_none→zaW,filterMap_cons→zaY,ext_getElem→za1,length_cons→za2,length_take→za3,mem_append→za6
open Go.RowKit.Below renaming refl→zab,heap_setCell→zav
open Go.Value renaming slice→zac,ownBlock→zad
open _root_.Nat renaming le_refl→zah,mul_le_mul→zar,le_trans→zax,zero_le→zay,mul_comm→zaF,div_eq_of_lt→zaI,mul_add_div→zaK,zero_add→zaL,div_le_self→zaT,mul_le_mul_right→zaX,le_of_lt→zaZ,mod_eq_of_lt→za0,mul_add_mod→za5
open Go.World renaming cell?_of_block→zal,cell?_setCell_other→zam,ownsRow→zan,frozen?_of_block→zaz,frozen?_setCell→zaB,cell?_setCell_same→zaG
open _root_.Int renaming natCast_nonneg→zat,toNat_natCast→zaA,natCast_mul→za7,natCast_add→za8,mul_nonneg→za9
open Go.Act renaming put→zaw
open _root_.Bool renaming and_eq_true→za4,and_false→zba
def pnx (ea eb:List EdD) (B:Nat) (p:Nat) (x:Int):Option Nat:=
 if 0≤qF ea ((p/B:Nat):Int) x∧0≤qF eb ((p%B:Nat):Int) x then some ((qF ea ((p/B:Nat):Int) x).toNat*B+(qF eb ((p%B:Nat):Int) x).toNat) else none
def pst (ea eb:List EdD) (B:Nat) (p:Nat) (o:List Nat) (x:Int):List Nat:=
 match pnx ea eb B p x with
 | some q=>if q∈o then o else o++ [q]
 | none=>o
def bfsF (ea eb:List EdD) (B:Nat) (ls:List Int):Nat→Nat→List Nat→List Nat
 | 0,_,o=>o
 | f+1,i,o=>match o[i]? with
   | some p=>bfsF ea eb B ls f (i+1) (ls.foldl (pst ea eb B p) o)
   | none=>o
structure Two (a b:GrD) (A B:Nat):Prop where
 ga:grB a=true
 gb:grB b=true
 fa:Fol a.2.2
 fb:Fol b.2.2
 sa:a.2.1=(A:Int)
 sb:b.2.1=(B:Int)
section
variable {a b:GrD} {A B:Nat} {p q:Nat} {x:Int} {o:List Nat} {ls:List Int}
theorem Two.bd (h:Two a b A B):(1≤A∧A≤40)∧(1≤B∧B≤40):=by
 have h1:=(qB h.ga).2.1;have h2:=(qB h.gb).2.1;have h3:=h.sa;have h4:=h.sb;omega
theorem qIl (h:Two a b A B) (hq:pnx a.2.2 b.2.2 B p x=some q):q<A*B:=by
 unfold pnx at hq;split at hq
 ·rename_i hc
  injection hq with hq
  rcases qO h.ga ((p/B:Nat):Int) x with h1 | h1
  ·omega
  rcases qO h.gb ((p%B:Nat):Int) x with h2 | h2
  ·omega
  have h3:=h.sa;have h4:=h.sb;have e1:(qF a.2.2 ((p/B:Nat):Int) x).toNat+1≤A:=tO;have e2:(qF b.2.2 ((p%B:Nat):Int) x).toNat<B:=tO;have:=zaX B e1
  rw[Nat.add_mul,Nat.one_mul] at this;omega
 ·cases hq
theorem qIh (h:Two a b A B) (hq:pnx a.2.2 b.2.2 B p x=some q):((q/B:Nat):Int)=qF a.2.2 ((p/B:Nat):Int) x∧((q%B:Nat):Int)=qF b.2.2 ((p%B:Nat):Int) x:=by
 unfold pnx at hq;split at hq
 ·rename_i hc
  injection hq with hq
  rcases qO h.gb ((p%B:Nat):Int) x with h2 | h2
  ·omega
  have h4:=h.sb;obtain⟨_,hB⟩:=h.bd;have e2:(qF b.2.2 ((p%B:Nat):Int) x).toNat<B:=tO;rw[←hq];constructor
  ·rw[zaF,zaK tO,zaI e2];omega
  ·rw[zaF,za5,za0 e2];omega
 ·cases hq
theorem qEu (h:Two a b A B) (hx: -3≤x∧x≤3) (hq:pnx a.2.2 b.2.2 B p x=some q):pnx a.2.2 b.2.2 B q (-x)=some p:=by
 have hp:=qIh h hq;have hc:0≤qF a.2.2 ((p/B:Nat):Int) x∧0≤qF b.2.2 ((p%B:Nat):Int) x:=by
  unfold pnx at hq;split at hq
  ·assumption
  ·cases hq
 unfold pnx;rw[hp.1,hp.2,qAA h.ga h.fa hx hc.1,qAA h.gb h.fb hx hc.2,if_pos ⟨zat _,zat _⟩,zaA,zaA];have:=Nat.div_add_mod p B
 rw[zaF] at this;rw[this]
theorem qOw (hy:p∈o) (q:Nat) (x:Int):p∈pst a.2.2 b.2.2 B q o x:=by
 unfold pst;cases pnx a.2.2 b.2.2 B q x with
 | none=>exact hy
 | some z=>
   simp only
   split
   ·exact hy
   ·exact List.mem_append_left _ hy
theorem qGR (ls:List Int) (q:Nat): ∀(o:List Nat),p∈o→p∈ls.foldl (pst a.2.2 b.2.2 B q) o:=by
 induction ls with
 | nil=>intro o h;exact h
 | cons x ls ih=>intro o h;exact ih _ (qOw h q x)
theorem qKu {i y:Nat} (hi:o[i]? =some y) (q:Nat) (x:Int):(pst a.2.2 b.2.2 B q o x)[i]? =some y:=by
 unfold pst;cases pnx a.2.2 b.2.2 B q x with
 | none=>exact hi
 | some z=>
   simp only
   split
   ·exact hi
   ·rw[zaR (zai.1 hi).1];exact hi
theorem qAU {i y:Nat} (ls:List Int) (q:Nat): ∀(o:List Nat),o[i]? =some y→(ls.foldl (pst a.2.2 b.2.2 B q) o)[i]? =some y:=by
 induction ls with
 | nil=>intro o h;exact h
 | cons x ls ih=>intro o h;exact ih _ (qKu h q x)
theorem qMH (ls:List Int) (q:Nat): ∀(o:List Nat) (x:Int) (z:Nat),x∈ls→pnx a.2.2 b.2.2 B q x=some z→z∈ls.foldl (pst a.2.2 b.2.2 B q) o:=by
 induction ls with
 | nil=>intro o x z hx;cases hx
 | cons y ls ih=>
   intro o x z hx hz;rcases List.mem_cons.1 hx with rfl | hx
   ·refine qGR ls q _ ?_;unfold pst;rw[hz];simp only
    split
    ·assumption
    ·simp
   ·exact ih _ x z hx hz
theorem qEd {S:Nat→Prop} (hs: ∀p x q,S p→x∈ls→pnx a.2.2 b.2.2 B p x=some q→S q) {q:Nat} (hq:S q): ∀(l2:List Int) (o:List Nat),(∀x∈l2,x∈ls)→(∀p∈o,S p)→ ∀p∈l2.foldl (pst a.2.2 b.2.2 B q) o,S p:=by
 intro l2;induction l2 with
 | nil=>intro o _ ho;exact ho
 | cons x l2 ih=>
   intro o hl ho;refine ih _ (fun y hy=>hl y (List.mem_cons_of_mem _ hy)) fun p hp=> ?_;unfold pst at hp;cases hz:pnx a.2.2 b.2.2 B q x with
   | none=>rw[hz] at hp;exact ho p hp
   | some z=>
     rw[hz] at hp;simp only at hp
     split at hp
     ·exact ho p hp
     ·rcases za6.1 hp with hp | hp
      ·exact ho p hp
      ·rw[zaq.1 hp];exact hs q x z hq (hl x (by simp)) hz
theorem qMG {S:Nat→Prop} (hs: ∀p x q,S p→x∈ls→pnx a.2.2 b.2.2 B p x=some q→S q): ∀(f i:Nat) (o:List Nat),(∀p∈o,S p)→ ∀p∈bfsF a.2.2 b.2.2 B ls f i o,S p:=by
 intro f;induction f with
 | zero=>intro i o ho;exact ho
 | succ f ih=>
   intro i o ho;unfold bfsF;cases hi:o[i]? with
   | none=>exact ho
   | some p=>exact ih _ _ (qEd hs (ho p (zaD hi)) ls o (fun _ h=>h) ho)
theorem qLV (h:o.Nodup) (q:Nat) (x:Int):(pst a.2.2 b.2.2 B q o x).Nodup:=by
 unfold pst;cases pnx a.2.2 b.2.2 B q x with
 | none=>exact h
 | some z=>
   simp only
   split
   ·exact h
   ·rename_i hz
    rw[List.nodup_append];exact⟨h,by simp,fun y hy z' hz' e=>by rw[zaq.1 hz'] at e;exact hz (e▸hy)⟩
theorem qCr (ls:List Int) (q:Nat): ∀(o:List Nat),o.Nodup→(ls.foldl (pst a.2.2 b.2.2 B q) o).Nodup:=by
 induction ls with
 | nil=>intro o h;exact h
 | cons x ls ih=>intro o h;exact ih _ (qLV h q x)
theorem qMh (ls:List Int): ∀(f i:Nat) (o:List Nat),o.Nodup→(bfsF a.2.2 b.2.2 B ls f i o).Nodup:=by
 intro f;induction f with
 | zero=>intro i o h;exact h
 | succ f ih=>
   intro i o h;unfold bfsF;cases hi:o[i]? with
   | none=>exact h
   | some p=>exact ih _ _ (qCr ls p o h)
theorem qDh {n:Nat} {o:List Nat} (h:o.Nodup) (hl: ∀p∈o,p<n):o.length≤n:=by
 have h1:(o.map fun v=>((v:Nat):Int)).Nodup:=by
  unfold List.Nodup at*;rw[List.pairwise_map];exact h.imp fun fI e=>fI tO
 have:=qAc n (o.map fun v=>((v:Nat):Int)) h1 fun y hy=>by
  obtain⟨v,hv,rfl⟩:=List.mem_map.1 hy;have:=hl v hv
  omega
 simpa using this
theorem qLC (h:Two a b A B) (hx: ∀x∈ls,-3≤x∧x≤3): ∀(f i:Nat) (o:List Nat),o.Nodup→(∀p∈o,p<A*B)→i+f=A*B+1→i≤o.length→
  (∀(j:Nat) (p:Nat),j<i→o[j]? =some p→ ∀x q,x∈ls→pnx a.2.2 b.2.2 B p x=some q→q∈o)→
  ∀p∈bfsF a.2.2 b.2.2 B ls f i o,∀x q,x∈ls→pnx a.2.2 b.2.2 B p x=some q→q∈bfsF a.2.2 b.2.2 B ls f i o:=by
 intro f;induction f with
 | zero=>
   intro i o hn hl hf hi _;have:=qDh hn hl
   omega
 | succ f ih=>
   intro i o hn hl hf hi hc;unfold bfsF;cases ho:o[i]? with
   | none=>
     simp only
     intro p hp x q hx hq;obtain⟨j,hj⟩:=List.mem_iff_getElem?.1 hp;refine hc j p ?_ hj x q hx hq;have h1:=(zai.1 hj).1;have h2:=List.getElem?_eq_none_iff.1 ho;omega
   | some p=>
     simp only
     have au:i<o.length:=(zai.1 ho).1;have yY: ∀y,y∈o→y∈ls.foldl (pst a.2.2 b.2.2 B p) o:=fun y hy=>qGR ls p o hy;have al:o.length≤(ls.foldl (pst a.2.2 b.2.2 B p) o).length:=by
      have hk:o[o.length-1]? =some (o[o.length-1]'tO):=zak tO;have:=(zai.1 (qAU (a:=a) (b:=b) (B:=B) ls p o hk)).1
      omega
     refine ih (i+1) _ (qCr ls p o hn) ?_ tO tO ?_
     ·exact qEd (S:=fun q=>q<A*B) (fun p x q _ _ hq=>qIl h hq) (hl p (zaD ho)) ls o (fun _ h=>h) hl
     ·intro j p' hj hp' x q gR hq;rcases Nat.lt_or_ge j i with h1 | h1
      ·have h2:o[j]? =some (o[j]'tO):=zak tO;have h3:=qAU (a:=a) (b:=b) (B:=B) ls p o h2;rw[hp'] at h3;injection h3 with h3
       exact yY q (hc j p' h1 (by rw[h2,←h3]) x q gR hq)
      ·obtain rfl:j=i:=tO
       have h3:=qAU (a:=a) (b:=b) (B:=B) ls p o ho;rw[hp'] at h3;injection h3 with h3
       subst h3;exact qMH ls p' o x q gR hq
def prsL (a b:GrD) (A B:Nat) (ls:List Int) (p:Nat):List Nat:=bfsF a.2.2 b.2.2 B ls (A*B+1) 0 [p]
theorem qDw (h:Two a b A B) (hx: ∀x∈ls,-3≤x∧x≤3) (hp:p<A*B): ∀q∈prsL a b A B ls p,∀x z,x∈ls→pnx a.2.2 b.2.2 B q x=some z→z∈prsL a b A B ls p:=
 qLC h hx (A*B+1) 0 [p] (by simp) (fun q hq=>by rw[zaq.1 hq];exact hp) tO tO (fun j _ hj=>tO)
theorem qPJ (h:Two a b A B) (hp:p<A*B): ∀q∈prsL a b A B ls p,q<A*B:=
 qMG (S:=fun q=>q<A*B) (fun _ _ _ _ _ hq=>qIl h hq) _ _ _ fun q hq=>by rw[zaq.1 hq];exact hp
theorem qGe (ls:List Int):(prsL a b A B ls p).Nodup:=qMh ls _ _ _ (by simp)
theorem qNF (h:Two a b A B):p∈prsL a b A B ls p:=by
 have: ∀(f i:Nat) (o:List Nat),p∈o→p∈bfsF a.2.2 b.2.2 B ls f i o:=by
  intro f;induction f with
  | zero=>intro i o ho;exact ho
  | succ f ih=>
    intro i o ho;unfold bfsF;cases o[i]? with
    | none=>exact ho
    | some q=>exact ih _ _ (qGR ls q o ho)
 exact this _ _ _ (by simp)
def edgN (ea eb:List EdD) (B r:Nat) (p:Nat):Nat:=((zaE r).filter fun (i:Nat)=>(pnx ea eb B p ((i:Int)+1)).isSome).length
def edgL (ea eb:List EdD) (B r:Nat) (o:List Nat):Nat:=(o.map (edgN ea eb B r)).sum
theorem qDk {r:Nat} (hr:r≤3): ∀x∈qG r,(-3≤x∧x≤3)∧ -x∈qG r:=fun x hx=>by
 rw[qX] at*;omega
end
def ns (o:List Nat):List Int:=o.map fun v=>((v:Nat):Int)
theorem qDc (o:List Nat):(ns o).length=o.length:=by simp[ns]
theorem qLm (o:List Nat) (k:Nat) (h:k<o.length):(ns o)[k]'(by rw[qDc];exact h)=((o[k]:Nat):Int):=by simp[ns]
theorem qOy (o:List Nat) (q:Nat):ns (o++ [q])=ns o++ [(q:Int)]:=by simp[ns]
def qEH (n:Nat) (o:List Nat):List Bool:=(zaE n).map fun q=>decide (q∈o)
theorem qEb (n:Nat) (o:List Nat):(qEH n o).length=n:=by simp[qEH]
theorem qGA (n:Nat) (o:List Nat) (q:Nat) (h:q<n):(qEH n o)[q]'(by rw[qEb];exact h)=decide (q∈o):=by simp[qEH]
theorem qLM (n:Nat):qEH n []=zaV n false:=by
 refine za1 (by simp[qEH]) fun i h1 h2=> ?_;rw[List.getElem_replicate];simp[qEH]
theorem qIS (n:Nat) (o:List Nat) (q:Nat):(qEH n o).set q true=qEH n (o++ [q]):=by
 refine za1 (by simp[qEH]) fun i h1 h2=> ?_;rw[List.getElem_set];have hi:i<n:=by simpa[qEH] using h2
 have e1:=qGA n o i hi;have e2:=qGA n (o++ [q]) i hi;rw[e2];by_cases h:q=i
 ·subst h;simp
 ·rw[if_neg h,e1];simp[Ne.symm h]
theorem qIP (va vb:Value) (a b:GrD) (A B r p0 u0 v0:Nat) (w:World) (ha:ArgG w va a) (hb:ArgG w vb b) (h2:Two a b A B) (xO:a.1=(r:Int)) (kH:b.1=(r:Int)) (lz:p0<A*B) (huv:p0=u0*B+v0):
  Calls Tryz.prog 106 #[va,vb, .int .i64 u0, .int .i64 v0] w fun e w'=> ∃s,e= .returned s∧OwI w' w.heap.size s (ns (prsL a b A B (qG r) p0))∧Below w.heap.size w w':=by
 have H2:=qA h2;have dI:=qA ha;have aI:=qA hb;have ONEA:=qA (qp h2.fa);have ONEB:=qA (qp h2.fb);obtain⟨⟨pu,fh⟩,LU,Ef⟩:=h2.bd;have dX:r≤3∧1≤r:=by have:=(qB h2.ga).1;omega
 obtain⟨n,hn⟩: ∃n,n=A*B:=⟨_,rfl⟩;have mS:n≤1600:=by rw[hn];exact zar fh Ef
 have J5:Hid (prsL a b A B (qG r) p0=bfsF a.2.2 b.2.2 B (qG r) (n+1) 0 [p0]):=qA (by rw[hn];rfl);have fd:Hid (∀(ls:List Int) (p:Nat) (o:List Nat),p<n→(∀q∈o,q<n)→ ∀q∈ls.foldl (pst a.2.2 b.2.2 B p) o,q<n):=qA fun ls p o hp ho=>by
  rw[hn] at*;exact qEd (S:=fun q=>q<A*B) (fun p x q _ _ hq=>qIl h2 hq) hp ls o (fun _ h=>h) ho
 have mq:Hid (∀p x q,pnx a.2.2 b.2.2 B p x=some q→q<n):=qA fun p x q hq=>by rw[hn];exact qIl h2 hq
 have NVA:Hid (∀u x,qF a.2.2 u x= -1∨(0≤qF a.2.2 u x∧qF a.2.2 u x<40)):=qA fun u x=>by
  rcases qO h2.ga u x with e | e
  ·exact .inl e
  ·have:=h2.sa;exact .inr ⟨e.1,tO⟩
 have NVB:Hid (∀u x,qF b.2.2 u x= -1∨(0≤qF b.2.2 u x∧qF b.2.2 u x<40)):=qA fun u x=>by
  rcases qO h2.gb u x with e | e
  ·exact .inl e
  ·have:=h2.sb;exact .inr ⟨e.1,tO⟩
 have vj:p0<n:=tO;have dT:=qy r;have cR:Hid (∀W:World,Calls Tryz.prog 85 #[.int .i64 r] W fun e w'=> ∃s,e= .returned s∧OwI w' W.heap.size s (qG r)∧Below W.heap.size W w'):=qA fun W=>qAs r W tO;generalize prsL a b A B (qG r) p0=PR at*;generalize qG r=ls at*;have sa:=h2.sa;have sb:=h2.sb;obtain⟨Aa,capa,rfl⟩: ∃A' cap,va= .agg #[.int .i64 r, .int .i64 A, .slice A' a.2.2.length cap]:=by
  obtain⟨s,hv,_,_,ha⟩:=dI.out;obtain⟨A',cap,rfl⟩:=ha.form;exact⟨A',cap,by rw[hv,xO,sa]⟩
 obtain⟨Ab,capb,rfl⟩: ∃A' cap,vb= .agg #[.int .i64 r, .int .i64 B, .slice A' b.2.2.length cap]:=by
  obtain⟨s,hv,_,_,ha⟩:=aI.out;obtain⟨A',cap,rfl⟩:=ha.form;exact⟨A',cap,by rw[hv,kH,sb]⟩
 have LC:IntKind.i64.wrap ((A:Int)*(B:Int))=(n:Int):=by
  have e:(A:Int)*(B:Int)=(n:Int):=by rw[hn];simp
  rw[e,IntKind.wrap_i64];omega
 have HN:=qA hn;have KB:(u0:Int)*(B:Int)+(v0:Int)=(p0:Int):=by rw[huv];simp
 have Nj:IntKind.i64.wrap ((u0:Int)*(B:Int))=(u0:Int)*(B:Int):=by
  have:(0:Int)≤(u0:Int)*(B:Int):=za9 (zat _) (zat _)
  rw[IntKind.wrap_i64];omega
 have Nu:IntKind.i64.wrap ((u0:Int)*(B:Int)+(v0:Int))=(p0:Int):=by rw[KB,IntKind.wrap_i64];omega
 clear huv KB;have io:=qA dT;clear ha hb h2 xO kH lz sa sb hn dT;go_enter Tryz.func106,Tryz.ntmps106
 obtain⟨i0,cE,cD,bI,cj⟩:=info_parts qIG;go_wp2_with (at_make;refine wpList_make_full _ rfl _ _ 64 rfl (w.heap.size+1+1) 4 i0 (.bool false) 1 Tryz.underlying64 cE cD bI _ _ _ _ n rfl rfl rfl rfl (by rw[cj];omega) (by unfold maxLen;omega) (by simp) ?_)
 have bx:Below w.heap.size w ((w.alloc (.cells #[.int .i64 r,.int .i64 A, .slice Aa a.2.2.length capa] 26)).alloc (.cells #[.int .i64 r,.int .i64 B, .slice Ab b.2.2.length capb] 26)):=(by repeat(first | exact .refl _ _ | (refine BxS ?_ _) | (refine qD ?_ _) | (refine Below.drew ?_) | (refine BxA ?_ _)));obtain⟨W0,am⟩: ∃W,W=(w.alloc (.cells #[.int .i64 r,.int .i64 A, .slice Aa a.2.2.length capa] 26)).alloc (.cells #[.int .i64 r,.int .i64 B, .slice Ab b.2.2.length capb] 26):=⟨_,rfl⟩;rw[←am] at bx⊢;have aW:W0.heap.size=w.heap.size+1+1:=by rw[am];simp
 have A0:Hid (W0.cell? ⟨w.heap.size,0,none⟩=some (.int .i64 r)):=qA (by rw[am];simp[go_sem]);have A1:Hid (W0.cell? ⟨w.heap.size,1,none⟩=some (.int .i64 A)):=qA (by rw[am];simp[go_sem]);have A2:Hid (W0.cell? ⟨w.heap.size,2,none⟩=some (.slice Aa a.2.2.length capa)):=qA (by rw[am];simp[go_sem]);have B0:Hid (W0.cell? ⟨w.heap.size+1,0,none⟩=some (.int .i64 r)):=qA (by rw[am];simp[go_sem]);have B1:Hid (W0.cell? ⟨w.heap.size+1,1,none⟩=some (.int .i64 B)):=qA (by rw[am];simp[go_sem]);have B2:Hid (W0.cell? ⟨w.heap.size+1,2,none⟩=some (.slice Ab b.2.2.length capb)):=qA (by rw[am];simp[go_sem]);clear am;rw[←aW];have dM:w.heap.size<W0.heap.size:=tO;have dR:w.heap.size+1<W0.heap.size:=tO;have BX:=qA bx;have C5:=qA aW;clear bx aW;intro w2 hown0 hgrow0;have dB:OwB w2 W0.heap.size (.slice (some ⟨W0.heap.size,0,none⟩) n n) (qEH n []):=by
  unfold OwB;rw[qEb,qLM];have:qJJ (zaV n false)=zaV n (Value.bool false):=by simp[qJJ]
  rw[this];simpa[toList_madeCells_one] using hown0
 have AA:W0.heap.size<w2.heap.size:=(dB.lt W0.heap.size rfl).2;have Bp:Below W0.heap.size W0 w2:=(zab W0.heap.size W0).grown hgrow0 (zah _) (fun k h=>by cases h);have q1:=(Bp.cell (p:=⟨w.heap.size+1,1,none⟩) dR).trans B1.out;have MI:=qA dB;have AY:=qA Bp;have q0:=(Bp.cell (p:=⟨w.heap.size,0,none⟩) dM).trans A0.out;have Mz:=(Bp.cell (p:=⟨w.heap.size+1,0,none⟩) dR).trans B0.out;have mh:=dB.cellAt p0 (by rw[qEb];exact vj);have xi:=dB.free p0;have MC:(p0:Int)<(n:Int):=tO;have Io:=qA (dB.set p0 true);have n0: ¬W0.heap.size=w.heap.size:=tO;have n1: ¬W0.heap.size=w.heap.size+1:=tO;have Ow:w.heap.size<w2.heap.size:=tO;have Qe:w.heap.size+1<w2.heap.size:=tO;clear hown0 dB hgrow0 Bp;go_wp2_with fail;have oO:OwI ((w2.setCell ⟨W0.heap.size,p0,none⟩ (.bool true)).alloc (.cells #[.int .i64 p0] 3)) (W0.heap.size+1) (.slice (some ⟨w2.heap.size,0,none⟩) 1 1) (ns [p0]):=qCH _ [(p0:Int)] w2.heap.size (by simp) (fun x hx=>by simp at hx;subst hx;exact⟨tO,tO⟩) (by simp) tO;have oB:OwB ((w2.setCell ⟨W0.heap.size,p0,none⟩ (.bool true)).alloc (.cells #[.int .i64 p0] 3)) W0.heap.size (.slice (some ⟨W0.heap.size,0,none⟩) n n) (qEH n [p0]):=by
  have h1:=Io.out.1;rw[qIS] at h1;exact h1.below ((zab _ _).alloc (zah _) _)
 have bS:Below W0.heap.size W0 ((w2.setCell ⟨W0.heap.size,p0,none⟩ (.bool true)).alloc (.cells #[.int .i64 p0] 3)):=(AY.out.setCell (p:=⟨W0.heap.size,p0,none⟩) (by show W0.heap.size≤_;exact zah _) _).alloc (by simp;omega) _;have sS:((w2.setCell ⟨W0.heap.size,p0,none⟩ (.bool true)).alloc (.cells #[.int .i64 p0] 3)).heap.size=w2.heap.size+1:=by simp
 generalize (w2.setCell ⟨W0.heap.size,p0,none⟩ (.bool true)).alloc (.cells #[.int .i64 p0] 3)=wS at oO oB bS sS⊢;refine(cR.out wS).mono ?_
 rintro e w3 ⟨rl,rfl,ol,bl⟩;have s3:=bl.size;obtain⟨Al,capl,rfl,cU,cV,_,dC⟩:=ol.form;obtain⟨gl,rfl,wG,mE⟩:=dC (by have:=io.out;omega);unfold maxLen at cV;have OL:=qA ol.rd;have OO:=qA (oO.below bl);have OB:=qA (oB.below bl);have aC:=qA (bS.trans (bl.mono tO));have Ma:=qA J5.out;clear dC ol bl oO oB bS q0 Mz q1 mh xi Io MI AY;go_wp2;go_loopw [10,12] (fun out i wo=> ∃(k:Nat) (o:List Nat),k≤o.length∧i= .int .i64 k∧o.Nodup∧(∀q∈o,q<n)∧PR=bfsF a.2.2 b.2.2 B ls (n+1-k) k o∧OwI wo (W0.heap.size+1) out (ns o)∧OwB wo W0.heap.size (.slice (some ⟨W0.heap.size,0,none⟩) n n) (qEH n o)∧RdI wo (.slice (some ⟨gl,0,none⟩) ls.length capl) ls∧out.ownBlock≠some gl∧gl<wo.heap.size∧Below W0.heap.size W0 wo) (fun _ i _=>n+1-(intOf i).toNat)
 case atStart=>exact⟨0,[p0],by simp,rfl,by simp,fun q hq=>by rw[zaq.1 hq];exact vj,J5.out,OO.out,OB.out,OL.out,by simp[zad];omega,mE,aC.out⟩
 case round=>
  obtain⟨k,o,hk,rfl,eL,kj,BK,aa,l7,aN,ai,M9,ab⟩:=hrel;obtain⟨wo,rfl⟩: ∃wo:World,wo=wr:=⟨_,rfl⟩;have gV:=qDh eL kj;have lE:=qA eL;have tH:=qA kj;have HP:=qA BK;have up:=qA l7;have jF:=qA aN;have ay:=qA ab;have aq:=ab.size;obtain⟨Lf,ah,rfl,_,_,_,a7⟩:=aa.form;rw[qDc] at a7 aa ai⊢;have HO:=qA aa;have iP:=qA ai;have QV:gl≠W0.heap.size:=tO;clear eL kj BK l7 aN ai ab;by_cases ac:k<o.length
  ·obtain⟨p,hp⟩: ∃p,o[k]? =some p:=⟨o[k],by simp⟩;have oZ:o[k]=p:=by rw[zak ac] at hp;injection hp
   have pm:p<n:=tH.out p (zaD hp);have jh:Hid (PR=bfsF a.2.2 b.2.2 B ls (n+1-(k+1)) (k+1) (ls.foldl (pst a.2.2 b.2.2 B p) o)):=qA (by
    rw[HP.out,show n+1-k=(n+1-(k+1))+1 by omega];conv=>lhs;unfold bfsF
    rw[hp])
   have dk:Hid (∀m:Nat,((ls.take m).foldl (pst a.2.2 b.2.2 B p) o)[k]? =some p):=qA fun m=>qAU (a:=a) (b:=b) (B:=B) _ p o hp;have gH:Hid (∀(m:Nat) (hm:m<ls.length),(ls.take (m+1)).foldl (pst a.2.2 b.2.2 B p) o=pst a.2.2 b.2.2 B p ((ls.take m).foldl (pst a.2.2 b.2.2 B p) o) ls[m]):=qA fun m hm=>by rw[zao hm,zaH];rfl
   have mr:Hid (∀m:Nat,((ls.take m).foldl (pst a.2.2 b.2.2 B p) o).Nodup):=qA fun m=>qCr (a:=a) (b:=b) (B:=B) _ p o lE.out;have yj:Hid (∀m:Nat,∀q∈(ls.take m).foldl (pst a.2.2 b.2.2 B p) o,q<n):=qA fun m=>fd.out _ p o pm tH.out;obtain⟨un,d4⟩: ∃un,un=p/B:=⟨_,rfl⟩;obtain⟨vn,kz⟩: ∃vn,vn=p%B:=⟨_,rfl⟩;have ip:=qA d4;have pH:=qA kz;have yF:un≤1600:=by rw[d4];exact zax (zaT _ _) tO
   have P4:vn≤1600:=by rw[kz];exact zax (Nat.mod_le _ _) tO
   have jU:wrap64 ((p:Int)/(B:Int))=(un:Int):=by
    have:(p:Int)/(B:Int)=(un:Int):=by rw[d4];rfl
    rw[this];exact IntWalk.wrap64_in _ ⟨tO,tO⟩
   have jX:(p:Int)%(B:Int)=(vn:Int):=by rw[kz];rfl
   have lT:Hid (∀W,Below W0.heap.size W0 W→ArgG W (.agg #[.int .i64 r, .int .i64 A, .slice Aa a.2.2.length capa]) a):=qA fun W hb=>dI.out.below (BX.out.trans (hb.mono tO));have mD:Hid (∀W,Below W0.heap.size W0 W→ArgG W (.agg #[.int .i64 r, .int .i64 B, .slice Ab b.2.2.length capb]) b):=qA fun W hb=>aI.out.below (BX.out.trans (hb.mono tO));have mP:Hid (∀x W,ArgG W (.agg #[.int .i64 r, .int .i64 A, .slice Aa a.2.2.length capa]) a→_):=qA fun x W h=>qU _ a (un:Int) x W h (ONEA.out (un:Int) x);have fp:Hid (∀x W,ArgG W (.agg #[.int .i64 r, .int .i64 B, .slice Ab b.2.2.length capb]) b→_):=qA fun x W h=>qU _ b (vn:Int) x W h (ONEB.out (vn:Int) x);clear hp oZ a7 aa d4 kz;go_wp2;go_loopw [10,13] (fun out j wr=> ∃m:Nat,m≤ls.length∧j= .int .i64 m∧OwI wr (W0.heap.size+1) out (ns ((ls.take m).foldl (pst a.2.2 b.2.2 B p) o))∧OwB wr W0.heap.size (.slice (some ⟨W0.heap.size,0,none⟩) n n) (qEH n ((ls.take m).foldl (pst a.2.2 b.2.2 B p) o))∧RdI wr (.slice (some ⟨gl,0,none⟩) ls.length capl) ls∧out.ownBlock≠some gl∧gl<wr.heap.size∧Below W0.heap.size W0 wr) (fun _ j _=>ls.length-(intOf j).toNat)
   case atStart=>
    exact⟨0,zay _,rfl,HO.out,up.out,jF.out,iP.out,M9,ay.out⟩
   case round=>
    obtain⟨m,dj,rfl,aa,l7,aN,ai,bN,aG⟩:=hrel;have si:=aG.size;have bK:=qA aG;have jN:=(aG.cell (p:=⟨w.heap.size,0,none⟩) dM).trans A0.out;have jV:=(aG.cell (p:=⟨w.heap.size,1,none⟩) dM).trans A1.out;have js:=(aG.cell (p:=⟨w.heap.size,2,none⟩) dM).trans A2.out;have jl:=(aG.cell (p:=⟨w.heap.size+1,0,none⟩) dR).trans B0.out;have jf:=(aG.cell (p:=⟨w.heap.size+1,1,none⟩) dR).trans B1.out;have jn:=(aG.cell (p:=⟨w.heap.size+1,2,none⟩) dR).trans B2.out;have kv:=qA aN;have dx:=qA ai;have tA:=qA l7;have dQ:=qA aa;have hP:=l7.lt W0.heap.size rfl;clear aG l7;by_cases al:m<ls.length
    ·have ke:=qDh (mr.out m) (yj.out m);have bZ:=dk.out m;have HS:=qA (gH.out m al);obtain⟨_,_,dp,_,jB⟩:=aN.at tO;obtain⟨rfl,rfl⟩:gl=_∧0=_:=by simpa using dp
     have c0:=jB m al;rw[zaL] at c0;generalize ls[m]=x at c0 HS;generalize (ls.take m).foldl (pst a.2.2 b.2.2 B p) o=om at*;have ji:k<om.length:=(zai.1 bZ).1;have lh:om[k]=p:=by rw[zak ji] at bZ;injection bZ
     obtain⟨Qw,ak,rfl,_,_,_,a7⟩:=aa.form;obtain⟨b2,rfl,uY,gY⟩:=a7 (by rw[qDc];omega);have d0:=aa.cellAt k (by rw[qDc];exact ji);rw[qLm om k ji,lh] at d0;rw[qDc] at dQ⊢;clear jB dp aa aN a7 bZ lh;go_wp2_with fail;have f0:=BelW.cell jN (show w.heap.size<wr.heap.size by omega);have f1:=BelW.cell jV (show w.heap.size<wr.heap.size by omega);have f2:=BelW.cell js (show w.heap.size<wr.heap.size by omega);have f3:=BelW.cell jl (show w.heap.size+1<wr.heap.size by omega);have f4:=BelW.cell jf (show w.heap.size+1<wr.heap.size by omega);have f5:=BelW.cell jn (show w.heap.size+1<wr.heap.size by omega);have f6:=BelW.cell c0 bN;have f7:=BelW.cell d0 gY;(refine qH tK tK ?_;(repeat(go_big_quiet_step (first | (go_at_call 86;exact Calls.bel_of (mP.out x _ (lT.out _ (bK.out.trans ((BelW.h _).mono tO))))))));refine wpQuiet_nil ?_;intro wq aA;obtain⟨pq,ae⟩:=aA;have bq:=pq.h;rw[←ae] at bq;clear ae pq)
     clear f0 f1 f2 f3 f4 f5 f6 f7;have sq:=bq.size;have HQ:=qA (bK.out.trans (bq.mono tO));have gq:=qA (dQ.out.below bq);have iM:=qA (kv.out.below bq);have ej:=qA (tA.out.below bq);have k0:=(bq.cell (p:=⟨w.heap.size,0,none⟩) (show w.heap.size<wr.heap.size by omega)).trans jN;have k1:=(bq.cell (p:=⟨w.heap.size,1,none⟩) (show w.heap.size<wr.heap.size by omega)).trans jV;have k2:=(bq.cell (p:=⟨w.heap.size,2,none⟩) (show w.heap.size<wr.heap.size by omega)).trans js;have k3:=(bq.cell (p:=⟨w.heap.size+1,0,none⟩) (show w.heap.size+1<wr.heap.size by omega)).trans jl;have k4:=(bq.cell (p:=⟨w.heap.size+1,1,none⟩) (show w.heap.size+1<wr.heap.size by omega)).trans jf;have k5:=(bq.cell (p:=⟨w.heap.size+1,2,none⟩) (show w.heap.size+1<wr.heap.size by omega)).trans jn;have c1:=(bq.cell (p:=⟨gl,m,none⟩) bN).trans c0;have d1:=(bq.cell (p:=⟨b2,k,none⟩) gY).trans d0;clear bq jN jV js jl jf jn c0 d0;go_wp2_with fail;have f0:=BelW.cell k0 (show w.heap.size<wq.heap.size by omega);have f1:=BelW.cell k1 (show w.heap.size<wq.heap.size by omega);have f2:=BelW.cell k2 (show w.heap.size<wq.heap.size by omega);have f3:=BelW.cell k3 (show w.heap.size+1<wq.heap.size by omega);have f4:=BelW.cell k4 (show w.heap.size+1<wq.heap.size by omega);have f5:=BelW.cell k5 (show w.heap.size+1<wq.heap.size by omega);have f6:=BelW.cell c1 (show gl<wq.heap.size by omega);have f7:=BelW.cell d1 (show b2<wq.heap.size by omega);(refine qH tK tK ?_;(repeat(go_big_quiet_step (first | (go_at_call 86;exact Calls.bel_of (fp.out x _ (mD.out _ (HQ.out.trans ((BelW.h _).mono tO))))))));refine wpQuiet_nil ?_;intro wz aA;obtain⟨pq,ae⟩:=aA;have bz:=pq.h;rw[←ae] at bz;clear ae pq)
     clear f0 f1 f2 f3 f4 f5 f6 f7;have sz:=bz.size;have HZ:=qA (HQ.out.trans (bz.mono tO));have iz:=qA (gq.out.below bz);have km:=qA (iM.out.below bz);have fP:=qA (ej.out.below bz);have j4:=(bz.cell (p:=⟨w.heap.size+1,1,none⟩) (show w.heap.size+1<wq.heap.size by omega)).trans k4;clear bz k0 k1 k2 k3 k4 k5 c1 d1;have NA:=qA (NVA.out un x);have NB:=qA (NVB.out vn x);have PX:Hid (pst a.2.2 b.2.2 B p om x=if 0≤qF a.2.2 un x∧0≤qF b.2.2 vn x then(if(qF a.2.2 un x).toNat*B+(qF b.2.2 vn x).toNat∈om then om else om++ [(qF a.2.2 un x).toNat*B+(qF b.2.2 vn x).toNat]) else om):=qA (by
      unfold pst pnx;rw[←ip.out,←pH.out];split
      ·rename_i z hz
       split at hz
       ·rename_i hc
        rw[if_pos hc];injection hz with hz
        rw[hz]
       ·cases hz
      ·rename_i hz
       split at hz
       ·cases hz
       ·rename_i hc
        rw[if_neg hc])
     have PN:Hid (0≤qF a.2.2 un x∧0≤qF b.2.2 vn x→(qF a.2.2 un x).toNat*B+(qF b.2.2 vn x).toNat<n):=qA fun hc=>by
      refine mq.out p x _ ?_;unfold pnx;rw[←ip.out,←pH.out,if_pos hc]
     generalize qF a.2.2 un x=y1 at*;generalize qF b.2.2 vn x=y2 at*;rcases NA.out with hy | hy
     ·subst hy;have F:Hid (pst a.2.2 b.2.2 B p om x=om):=qA (by rw[PX.out,if_neg tO]);go_wp2;go_roundw
      case rel=>exact⟨m+1,tO,by go_num,by rw[HS.out,F.out];exact iz.out,by rw[HS.out,F.out];exact fP.out,km.out,dx.out,tO,HZ.out⟩
      case measure=>simp[intOf];omega
     rcases NB.out with hz | hz
     ·subst hz;have ic:(0:Int)≤y1:=hy.1;have F:Hid (pst a.2.2 b.2.2 B p om x=om):=qA (by rw[PX.out,if_neg tO]);go_wp2;go_roundw
      case rel=>exact⟨m+1,tO,by go_num,by rw[HS.out,F.out];exact iz.out,by rw[HS.out,F.out];exact fP.out,km.out,dx.out,tO,HZ.out⟩
      case measure=>simp[intOf];omega
     obtain⟨s1,rfl⟩: ∃s1:Nat,y1=(s1:Int):=⟨y1.toNat,tO⟩;obtain⟨t1,rfl⟩: ∃t1:Nat,y2=(t1:Int):=⟨y2.toNat,tO⟩;simp only[zaA] at PX PN;have mY:=PN.out ⟨hy.1,hz.1⟩;have PY:Hid (pst a.2.2 b.2.2 B p om x=if s1*B+t1∈om then om else om++ [s1*B+t1]):=qA (by rw[PX.out,if_pos ⟨hy.1,hz.1⟩]);obtain⟨q,hq⟩: ∃q,q=s1*B+t1:=⟨_,rfl⟩;rw[←hq] at PY mY;have KF:(s1:Int)*(B:Int)+(t1:Int)=(q:Int):=by rw[hq];simp
     have fL:IntKind.i64.wrap ((s1:Int)*(B:Int))=(s1:Int)*(B:Int):=by
      have:(0:Int)≤(s1:Int)*(B:Int):=za9 (zat _) (zat _)
      rw[IntKind.wrap_i64];omega
     have pD:IntKind.i64.wrap ((s1:Int)*(B:Int)+(t1:Int))=(q:Int):=by rw[KF,IntKind.wrap_i64];omega
     have aP:(0:Int)≤(s1:Int):=hy.1;have oU:(0:Int)≤(t1:Int):=hz.1;have Pr:(q:Int)<(n:Int):=tO;have cq:=fP.out.cellAt q (by rw[qEb];exact mY);rw[qGA n om q mY] at cq;have fq:=fP.out.free q;clear PX PN hq KF hy hz NA NB;by_cases bQ:q∈om
     ·have F:Hid (pst a.2.2 b.2.2 B p om x=om):=qA (by rw[PY.out,if_pos bQ]);have hd:decide (q∈om)=true:=by simp[bQ]
      rw[hd] at cq;clear bQ hd;go_wp2;go_roundw
      case rel=>exact⟨m+1,tO,by go_num,by rw[HS.out,F.out];exact iz.out,by rw[HS.out,F.out];exact fP.out,km.out,dx.out,tO,HZ.out⟩
      case measure=>simp[intOf];omega
     ·have F:Hid (pst a.2.2 b.2.2 B p om x=om++ [q]):=qA (by rw[PY.out,if_neg bQ]);have hd:decide (q∈om)=false:=by simp[bQ]
      rw[hd] at cq;clear bQ hd;have HY:Hid (I64 (q:Int)):=qA ⟨tO,tO⟩;have fW:=fP.out.set q true;rw[qIS] at fW;have lF:Hid (OwI (wz.setCell ⟨W0.heap.size,q,none⟩ (.bool true)) (W0.heap.size+1) (.slice (some ⟨b2,0,none⟩) om.length ak) (ns om)):=qA (iz.out.far (p:=⟨W0.heap.size,q,none⟩) (by show W0.heap.size<_;omega) _);have mF:=qA fW.1;have lD:Hid (RdI (wz.setCell ⟨W0.heap.size,q,none⟩ (.bool true)) (.slice (some ⟨gl,0,none⟩) ls.length capl) ls):=qA (km.out.grown fW.2 fun x hx hx'=>by simp[zad] at hx hx';omega);have Pu:Hid (Below W0.heap.size W0 (wz.setCell ⟨W0.heap.size,q,none⟩ (.bool true))):=qA (HZ.out.setCell (by show W0.heap.size≤W0.heap.size;omega) _);have hS:(wz.setCell ⟨W0.heap.size,q,none⟩ (.bool true)).heap.size=wz.heap.size:=by simp
      have yi:=qDc om;clear fW;go_wp2_with (at_builtin;refine qd rfl (.tmp 104) (.tmp 111) rfl _ _ _ (OwI.alloc lF.out _) rfl _ _ rfl (by simp[go_sem]) HY.out (by first | omega | (simp<;>omega)) (by first | omega | (simp<;>omega)) ?_;intro v9 wv9 o9 g9 p9)
      have ml:=g9.size;simp at ml
      go_roundw
      case rel=>
       refine⟨m+1,tO,by go_num,by rw[HS.out,F.out,qOy];exact o9,by rw[HS.out,F.out];exact(mF.out.below ((zab _ _).alloc (zah _) _)).kept g9 (.inr (by simp[zad];omega)),(lD.out.alloc _).grown g9 (fun x hx hx'=> ?_),fun e=> ?_,tO,qe Pu.out tO lF.out.1 tO g9⟩
       ·have:=dx.out
        simp[zad] at hx hx' this
        omega
       ·rcases p9 with p9 | p9
        ·rw[p9] at e;exact dx.out e
        ·rw[p9] at e;simp at e;omega
      case measure=>simp[intOf];omega
    ·obtain rfl:m=ls.length:=tO
     rw[zap] at aa tA;have rK:=mr.out ls.length;have rW:=yj.out ls.length;rw[zap] at rK rW;have n3:=qA rK;have jj:=qA rW;have Gx:=qA aa;have au:k+1≤(ls.foldl (pst a.2.2 b.2.2 B p) o).length:=by
      have:=dk.out ls.length
      rw[zap] at this;have:=(zai.1 this).1
      omega
     have KZ:=qDh rK rW;clear aa aN ai rK rW jN jV js jl jf jn dQ;go_wp2;go_roundw
     case rel=>exact⟨k+1,_,au,by go_num,n3.out,jj.out,jh.out,Gx.out,tA.out,kv.out,dx.out,bN,bK.out⟩
     case measure=>simp[intOf];omega
  ·obtain rfl:k=o.length:=tO
   have F:Hid (PR=o):=qA (by
    rw[HP.out];cases n+1-o.length with
    | zero=>rfl
    | succ f=>unfold bfsF;rw[zaW (zah _)])
   clear a7 aa;have cJ:Hid (Below w.heap.size w wo):=qA (BX.out.trans (ay.out.mono tO));have ao:w.heap.size≤W0.heap.size+1:=tO;go_wp2;exact bodyPost_ret (v:= .slice Lf o.length ah) (by simp[results,Tryz.results106]) rfl ⟨_,rfl,by rw[F.out];exact HO.out.mono ao,cJ.out⟩
def cntE (ea eb:List EdD) (B p m:Nat):Nat:=((zaE m).filter fun (i:Nat)=>(pnx ea eb B p ((i:Int)+1)).isSome).length
theorem qHz (ea eb:List EdD) (B p m:Nat):cntE ea eb B p (m+1)=cntE ea eb B p m+if(pnx ea eb B p ((m:Int)+1)).isSome then 1 else 0:=by
 unfold cntE;rw[zaU,List.filter_append,zae];congr 1
 simp only[List.filter_cons,List.filter_nil];split<;>rfl
theorem qJc (ea eb:List EdD) (B p m:Nat):cntE ea eb B p m≤m:=by
 have:=List.length_filter_le (fun (i:Nat)=>(pnx ea eb B p ((i:Int)+1)).isSome) (zaE m)
 simpa[cntE] using this
theorem qIF (ea eb:List EdD) (B r:Nat) (o:List Nat) (k:Nat) (h:k<o.length):edgL ea eb B r (o.take (k+1))=edgL ea eb B r (o.take k)+cntE ea eb B o[k] r:=by
 unfold edgL;rw[zao h,List.map_append,List.sum_append];simp[edgN,cntE]
theorem qLz (ea eb:List EdD) (B r:Nat) (hr:r≤3) (o:List Nat):edgL ea eb B r o≤3*o.length:=by
 unfold edgL;induction o with
 | nil=>simp
 | cons p o ih=>
   have:=qJc ea eb B p r
   have e:edgN ea eb B r p=cntE ea eb B p r:=rfl;simp only[zaN,List.sum_cons,za2];omega
theorem qID (va vb vo:Value) (a b:GrD) (A B r:Nat) (o:List Nat) (w:World) (ha:ArgG w va a) (hb:ArgG w vb b) (ho:RdI w vo (ns o)) (h2:Two a b A B) (xO:a.1=(r:Int)) (kH:b.1=(r:Int)) (kj: ∀q∈o,q<A*B) (gV:o.length≤1600):
  Calls Tryz.prog 107 #[va,vb,vo] w fun e w'=>e= .returned (.int .i64 (edgL a.2.2 b.2.2 B r o:Nat))∧Below w.heap.size w w':=by
 have dI:=qA ha;have aI:=qA hb;have kq:=qA ho;have ONEA:=qA (qp h2.fa);have ONEB:=qA (qp h2.fb);obtain⟨⟨pu,fh⟩,LU,Ef⟩:=h2.bd;have dX:r≤3∧1≤r:=by have:=(qB h2.ga).1;omega
 have mS:A*B≤1600:=zar fh Ef;have tH:Hid (∀k (hk:k<o.length),o[k]<1600):=qA fun k hk=>Nat.lt_of_lt_of_le (kj o[k] (by simp)) mS;have Pn:Hid (∀k (h:k<o.length),edgL a.2.2 b.2.2 B r (o.take (k+1))=edgL a.2.2 b.2.2 B r (o.take k)+cntE a.2.2 b.2.2 B o[k] r):=qA fun k h=>qIF _ _ _ _ o k h;have xl:Hid (∀k,k≤o.length→edgL a.2.2 b.2.2 B r (o.take k)≤4800):=qA fun k hk=>by
  have:=qLz a.2.2 b.2.2 B r dX.1 (o.take k)
  rw[za3] at this;omega
 have LH:Hid (edgL a.2.2 b.2.2 B r (o.take 0)=0):=qA rfl;have PB:Hid (edgL a.2.2 b.2.2 B r o=edgL a.2.2 b.2.2 B r (o.take o.length)):=qA (by rw[zap]);generalize edgL a.2.2 b.2.2 B r o=EE at*;have sa:=h2.sa;have sb:=h2.sb;obtain⟨Aa,capa,rfl⟩: ∃A' cap,va= .agg #[.int .i64 r, .int .i64 A, .slice A' a.2.2.length cap]:=by
  obtain⟨s,hv,_,_,ha⟩:=dI.out;obtain⟨A',cap,rfl⟩:=ha.form;exact⟨A',cap,by rw[hv,xO,sa]⟩
 obtain⟨Ab,capb,rfl⟩: ∃A' cap,vb= .agg #[.int .i64 r, .int .i64 B, .slice A' b.2.2.length cap]:=by
  obtain⟨s,hv,_,_,ha⟩:=aI.out;obtain⟨A',cap,rfl⟩:=ha.form;exact⟨A',cap,by rw[hv,kH,sb]⟩
 obtain⟨Ao,capo,rfl,eT,lK,_⟩:=ho.arg;rw[qDc] at eT kq⊢;unfold maxLen at lK;clear ha hb h2 xO kH kj sa sb ho mS;go_enter Tryz.func107,Tryz.ntmps107
 go_wp2;have bx:Below w.heap.size w ((w.alloc (.cells #[.int .i64 r,.int .i64 A, .slice Aa a.2.2.length capa] 26)).alloc (.cells #[.int .i64 r,.int .i64 B, .slice Ab b.2.2.length capb] 26)):=(by repeat(first | exact .refl _ _ | (refine BxS ?_ _) | (refine qD ?_ _) | (refine Below.drew ?_) | (refine BxA ?_ _)));obtain⟨W0,am⟩: ∃W,W=(w.alloc (.cells #[.int .i64 r,.int .i64 A, .slice Aa a.2.2.length capa] 26)).alloc (.cells #[.int .i64 r,.int .i64 B, .slice Ab b.2.2.length capb] 26):=⟨_,rfl⟩;rw[←am] at bx⊢;have aW:W0.heap.size=w.heap.size+1+1:=by rw[am];simp
 have A0:Hid (W0.cell? ⟨w.heap.size,0,none⟩=some (.int .i64 r)):=qA (by rw[am];simp[go_sem]);have A1:Hid (W0.cell? ⟨w.heap.size,1,none⟩=some (.int .i64 A)):=qA (by rw[am];simp[go_sem]);have A2:Hid (W0.cell? ⟨w.heap.size,2,none⟩=some (.slice Aa a.2.2.length capa)):=qA (by rw[am];simp[go_sem]);have B0:Hid (W0.cell? ⟨w.heap.size+1,0,none⟩=some (.int .i64 r)):=qA (by rw[am];simp[go_sem]);have B1:Hid (W0.cell? ⟨w.heap.size+1,1,none⟩=some (.int .i64 B)):=qA (by rw[am];simp[go_sem]);have B2:Hid (W0.cell? ⟨w.heap.size+1,2,none⟩=some (.slice Ab b.2.2.length capb)):=qA (by rw[am];simp[go_sem]);clear am;have dM:w.heap.size<W0.heap.size:=tO;have dR:w.heap.size+1<W0.heap.size:=tO;have BX:=qA bx;have rV:Hid (∀(k:Nat) (hk:k<o.length) (wr:World),Below W0.heap.size W0 wr→ ∃bo offo,Ao=some ⟨bo,offo,none⟩∧bo<wr.heap.size∧wr.cell? ⟨bo,offo+k,none⟩=some (.int .i64 ((o[k]:Nat):Int))):=qA fun k hk wr hb=>by
  obtain⟨bo,offo,hA,iF,hc⟩:=(kq.out.below (BX.out.trans (hb.mono tO))).at (by rw[qDc];omega);have:=hc k (by rw[qDc];exact hk)
  rw[qLm o k hk] at this;exact⟨bo,offo,hA,iF,this⟩
 clear bx aW;go_loopw [7,8] (fun c i wo=> ∃k:Nat,k≤o.length∧i= .int .i64 k∧c= .int .i64 (edgL a.2.2 b.2.2 B r (o.take k):Nat)∧Below W0.heap.size W0 wo) (fun _ i _=>o.length-(intOf i).toNat)
 case atStart=>exact⟨0,zay _,rfl,by rw[LH.out];rfl,zab _ _⟩
 case round=>
  obtain⟨k,hk,rfl,rfl,ab⟩:=hrel;obtain⟨wo,rfl⟩: ∃wo:World,wo=wr:=⟨_,rfl⟩;have ay:=qA ab;by_cases ac:k<o.length
  ·have pm:=tH.out k ac;have HS:=qA (Pn.out k ac);have jg:=xl.out k hk;have zJ:=qA (rV.out k ac);obtain⟨bo,offo,rfl,_,_⟩:=zJ.out wo ab;generalize hp:o[k]=p at*;generalize edgL a.2.2 b.2.2 B r (o.take k)=E0 at*;obtain⟨un,d4⟩: ∃un,un=p/B:=⟨_,rfl⟩;obtain⟨vn,kz⟩: ∃vn,vn=p%B:=⟨_,rfl⟩;have ip:=qA d4;have pH:=qA kz;have yF:un≤1600:=by rw[d4];exact zax (zaT _ _) tO
   have jU:wrap64 ((p:Int)/(B:Int))=(un:Int):=by
    have:(p:Int)/(B:Int)=(un:Int):=by rw[d4];rfl
    rw[this];exact IntWalk.wrap64_in _ ⟨tO,tO⟩
   have jX:(p:Int)%(B:Int)=(vn:Int):=by rw[kz];rfl
   have lT:Hid (∀W,Below W0.heap.size W0 W→ArgG W (.agg #[.int .i64 r, .int .i64 A, .slice Aa a.2.2.length capa]) a):=qA fun W hb=>dI.out.below (BX.out.trans (hb.mono tO));have mD:Hid (∀W,Below W0.heap.size W0 W→ArgG W (.agg #[.int .i64 r, .int .i64 B, .slice Ab b.2.2.length capb]) b):=qA fun W hb=>aI.out.below (BX.out.trans (hb.mono tO));clear hp d4 kz ab rV;go_wp2;go_loopw [7,9] (fun c j wr=> ∃m:Nat,m≤r∧j= .int .i64 ((m:Int)+1)∧c= .int .i64 ((E0+cntE a.2.2 b.2.2 B p m:Nat):Int)∧Below W0.heap.size W0 wr) (fun _ j _=>r+1-(intOf j).toNat)
   case atStart=>exact⟨0,zay _,rfl,rfl,ay.out⟩
   case round=>
    obtain⟨m,dj,rfl,rfl,aG⟩:=hrel;have si:=aG.size;have bK:=qA aG;have jN:=(aG.cell (p:=⟨w.heap.size,0,none⟩) dM).trans A0.out;have jV:=(aG.cell (p:=⟨w.heap.size,1,none⟩) dM).trans A1.out;have js:=(aG.cell (p:=⟨w.heap.size,2,none⟩) dM).trans A2.out;have jl:=(aG.cell (p:=⟨w.heap.size+1,0,none⟩) dR).trans B0.out;have jf:=(aG.cell (p:=⟨w.heap.size+1,1,none⟩) dR).trans B1.out;have jn:=(aG.cell (p:=⟨w.heap.size+1,2,none⟩) dR).trans B2.out;by_cases al:m<r
    ·have no:(m:Int)+1≤(r:Int):=tO;obtain⟨bo',offo',zV,eX,iE⟩:=zJ.out wr aG;obtain⟨rfl,rfl⟩:bo=bo'∧offo=offo':=by simpa using zV
     have ST:=qA (qHz a.2.2 b.2.2 B p m);have CL:=qJc a.2.2 b.2.2 B p m;have PX:Hid ((pnx a.2.2 b.2.2 B p ((m:Int)+1)).isSome=(decide (0≤qF a.2.2 un ((m:Int)+1))&&decide (0≤qF b.2.2 vn ((m:Int)+1)))):=qA (by
      unfold pnx;rw[←ip.out,←pH.out];split
      ·rename_i hc
       simp[hc.1,hc.2]
      ·rename_i hc
       rcases Classical.em (0≤qF a.2.2 un ((m:Int)+1)) with h1 | h1
       ·have h2: ¬0≤qF b.2.2 vn ((m:Int)+1):=fun h=>hc ⟨h1,h⟩;simp[h2]
       ·simp[h1])
     have mP:=qA (fun W h=>qU (.agg #[.int .i64 r, .int .i64 A, .slice Aa a.2.2.length capa]) a (un:Int) ((m:Int)+1) W h (ONEA.out (un:Int) _));have fp:=qA (fun W h=>qU (.agg #[.int .i64 r, .int .i64 B, .slice Ab b.2.2.length capb]) b (vn:Int) ((m:Int)+1) W h (ONEB.out (vn:Int) _));generalize qF a.2.2 un ((m:Int)+1)=y1 at*;generalize qF b.2.2 vn ((m:Int)+1)=y2 at*;generalize cntE a.2.2 b.2.2 B p m=cm at*;clear zV aG;by_cases hy:0≤y1
     ·by_cases hz:0≤y2
      ·have F:Hid (cntE a.2.2 b.2.2 B p (m+1)=cm+1):=qA (by rw[ST.out,PX.out];simp[hy,hz]);go_wp2_with fail;have f0:=BelW.cell jN (show w.heap.size<wr.heap.size by omega);have f1:=BelW.cell jV (show w.heap.size<wr.heap.size by omega);have f2:=BelW.cell js (show w.heap.size<wr.heap.size by omega);have f3:=BelW.cell jl (show w.heap.size+1<wr.heap.size by omega);have f4:=BelW.cell jf (show w.heap.size+1<wr.heap.size by omega);have f5:=BelW.cell jn (show w.heap.size+1<wr.heap.size by omega);have f6:=BelW.cell iE eX;(refine qH tK tK ?_;(repeat(go_big_quiet_step (first | (go_at_call 86;with_reducible exact Calls.bel_of (mP.out _ (lT.out _ (bK.out.trans ((BelW.h _).mono tO))))) | (go_at_call 86;with_reducible exact Calls.bel_of (fp.out _ (mD.out _ (bK.out.trans ((BelW.h _).mono tO))))))));refine wpQuiet_nil ?_;intro wq aA;obtain⟨pq,ae⟩:=aA;have bq:=pq.h;rw[←ae] at bq;clear ae pq)
       have HQ:=qA (bK.out.trans (bq.mono tO));clear bq f0 f1 f2 f3 f4 f5 f6 jN jV js jl jf jn iE;go_wp2;go_roundw
       case rel=>exact⟨m+1,tO,by go_num,by rw[F.out];go_num,HQ.out⟩
       case measure=>simp[intOf];omega
      ·have F:Hid (cntE a.2.2 b.2.2 B p (m+1)=cm):=qA (by rw[ST.out,PX.out];simp[hy,hz]);go_wp2_with fail;have f0:=BelW.cell jN (show w.heap.size<wr.heap.size by omega);have f1:=BelW.cell jV (show w.heap.size<wr.heap.size by omega);have f2:=BelW.cell js (show w.heap.size<wr.heap.size by omega);have f3:=BelW.cell jl (show w.heap.size+1<wr.heap.size by omega);have f4:=BelW.cell jf (show w.heap.size+1<wr.heap.size by omega);have f5:=BelW.cell jn (show w.heap.size+1<wr.heap.size by omega);have f6:=BelW.cell iE eX;(refine qH tK tK ?_;(repeat(go_big_quiet_step (first | (go_at_call 86;with_reducible exact Calls.bel_of (mP.out _ (lT.out _ (bK.out.trans ((BelW.h _).mono tO))))) | (go_at_call 86;with_reducible exact Calls.bel_of (fp.out _ (mD.out _ (bK.out.trans ((BelW.h _).mono tO))))))));refine wpQuiet_nil ?_;intro wq aA;obtain⟨pq,ae⟩:=aA;have bq:=pq.h;rw[←ae] at bq;clear ae pq)
       have HQ:=qA (bK.out.trans (bq.mono tO));clear bq f0 f1 f2 f3 f4 f5 f6 jN jV js jl jf jn iE;go_wp2;go_roundw
       case rel=>exact⟨m+1,tO,by go_num,by rw[F.out];rfl,HQ.out⟩
       case measure=>simp[intOf];omega
     ·have F:Hid (cntE a.2.2 b.2.2 B p (m+1)=cm):=qA (by rw[ST.out,PX.out];simp[hy]);have Qk:decide (0≤y1)=false:=by simp;omega
      go_wp2_with fail;have f0:=BelW.cell jN (show w.heap.size<wr.heap.size by omega);have f1:=BelW.cell jV (show w.heap.size<wr.heap.size by omega);have f2:=BelW.cell js (show w.heap.size<wr.heap.size by omega);have f3:=BelW.cell jl (show w.heap.size+1<wr.heap.size by omega);have f4:=BelW.cell jf (show w.heap.size+1<wr.heap.size by omega);have f5:=BelW.cell jn (show w.heap.size+1<wr.heap.size by omega);have f6:=BelW.cell iE eX;(refine qH tK tK ?_;(repeat(go_big_quiet_step (first | (go_at_call 86;with_reducible exact Calls.bel_of (mP.out _ (lT.out _ (bK.out.trans ((BelW.h _).mono tO))))) | (go_at_call 86;with_reducible exact Calls.bel_of (fp.out _ (mD.out _ (bK.out.trans ((BelW.h _).mono tO))))))));refine wpQuiet_nil ?_;intro wq aA;obtain⟨pq,ae⟩:=aA;have bq:=pq.h;rw[←ae] at bq;clear ae pq)
      have HQ:=qA (bK.out.trans (bq.mono tO));clear bq f0 f1 f2 f3 f4 f5 f6 jN jV js jl jf jn iE;go_wp2;go_roundw
      case rel=>exact⟨m+1,tO,by go_num,by rw[F.out];rfl,HQ.out⟩
      case measure=>simp[intOf];omega
    ·obtain rfl:m=r:=tO
     have CL:=qJc a.2.2 b.2.2 B p m;have uv: ¬(m:Int)+1≤(m:Int):=tO;generalize mC:cntE a.2.2 b.2.2 B p m=cm at*;have Rs:=qA mC;clear mC aG;go_wp2;go_roundw
     case rel=>exact⟨k+1,tO,by go_num,by rw[HS.out],bK.out⟩
     case measure=>simp[intOf];omega
  ·obtain rfl:k=o.length:=tO
   have F:Hid (EE=edgL a.2.2 b.2.2 B r (o.take o.length)):=PB;clear ab;generalize edgL a.2.2 b.2.2 B r (o.take o.length)=E0 at*;go_wp2;exact bodyPost_ret (v:= .int .i64 (E0:Nat)) (by simp[results,Tryz.results107]) rfl ⟨by rw[F.out],BX.out.trans (ay.out.mono tO)⟩
def peE (ea eb:List EdD) (B:Nat) (P:List Nat) (i:Nat) (x:Int):Option EdD:=(pnx ea eb B (P.getD i 0) x).map fun q=>((i:Int),x,((P.idxOf q:Nat):Int))
def peR (ea eb:List EdD) (B:Nat) (P:List Nat) (i m:Nat):List EdD:=(zaE m).filterMap fun (j:Nat)=>peE ea eb B P i ((j:Int)+1)
def peL (ea eb:List EdD) (B r:Nat) (P:List Nat) (n:Nat):List EdD:=(zaE n).flatMap fun i=>peR ea eb B P i r
theorem qHe (ea eb:List EdD) (B:Nat) (P:List Nat) (i m:Nat):peR ea eb B P i (m+1)=peR ea eb B P i m++(peE ea eb B P i ((m:Int)+1)).toList:=by
 unfold peR;rw[zaU,zaJ];congr 1
theorem qFe (ea eb:List EdD) (B r:Nat) (P:List Nat) (n:Nat):peL ea eb B r P (n+1)=peL ea eb B r P n++peR ea eb B P n r:=by
 unfold peL;rw[zaU,List.flatMap_append];simp
theorem qNx {α:Type} (c:α→α→Int) (L:List α) (e:α):srt c (L++ [e])=insF c (srt c L) e:=by
 unfold srt;rw[zaH];rfl
theorem qON (ea eb:List EdD) (B:Nat) (P:List Nat) (i m:Nat) (hi:i<P.length):(peR ea eb B P i m).length=cntE ea eb B P[i] m:=by
 induction m with
 | zero=>rfl
 | succ m ih=>
   rw[qHe,zae,ih,qHz];unfold peE;rw[show P.getD i 0=P[i] by simp[hi]];cases pnx ea eb B P[i] ((m:Int)+1)<;>simp
theorem qML (ea eb:List EdD) (B r:Nat) (P:List Nat): ∀n,n≤P.length→(peL ea eb B r P n).length=edgL ea eb B r (P.take n)
 | 0,_=>by simp[peL,edgL]
 | n+1,h=>by
   rw[qFe,zae,qML ea eb B r P n tO,qIF _ _ _ _ _ _ tO,qON _ _ _ _ _ _ tO]
theorem qOC (ea eb:List EdD) (B:Nat) (P:List Nat) (i m:Nat):(peR ea eb B P i m).length≤m:=by
 unfold peR;refine zax (zaS _ _) ?_;simp
theorem qMI (ea eb:List EdD) (B r:Nat) (P:List Nat): ∀n,(peL ea eb B r P n).length≤n*r
 | 0=>by simp[peL]
 | n+1=>by
   rw[qFe,zae,Nat.succ_mul];have:=qMI ea eb B r P n
   have:=qOC ea eb B P n r
   omega
theorem qMD {ea eb:List EdD} {B:Nat} {P:List Nat} {i m:Nat} {e:EdD}:e∈peR ea eb B P i m↔ ∃j,j<m∧peE ea eb B P i ((j:Int)+1)=some e:=by
 unfold peR;rw[List.mem_filterMap];constructor
 ·rintro⟨j,hj,h⟩;exact⟨j,zaM.1 hj,h⟩
 ·rintro⟨j,hj,h⟩;exact⟨j,zaM.2 hj,h⟩
theorem qEy {ea eb:List EdD} {B r:Nat} {P:List Nat} {n:Nat} {e:EdD}:e∈peL ea eb B r P n↔ ∃i j,i<n∧j<r∧peE ea eb B P i ((j:Int)+1)=some e:=by
 unfold peL;rw[List.mem_flatMap];constructor
 ·rintro⟨i,hi,h⟩
  obtain⟨j,hj,h⟩:=qMD.1 h;exact⟨i,j,zaM.1 hi,hj,h⟩
 ·rintro⟨i,j,hi,hj,h⟩
  exact⟨i,zaM.2 hi,qMD.2 ⟨j,hj,h⟩⟩
theorem qEi {ea eb:List EdD} {B:Nat} {P:List Nat} {i:Nat} {x:Int} {e:EdD} (h:peE ea eb B P i x=some e): ∃q,pnx ea eb B (P.getD i 0) x=some q∧e=((i:Int),x,((P.idxOf q:Nat):Int)):=by
 unfold peE at h;rw[Option.map_eq_some_iff] at h;obtain⟨q,h1,h2⟩:=h;exact⟨q,h1,h2.symm⟩
def pbP (a b:GrD) (u v:Nat):List Nat:=prsL a b a.2.1.toNat b.2.1.toNat (qG a.1.toNat) (u*b.2.1.toNat+v)
def pbG (a b:GrD) (u v:Nat):GrD:=(a.1,((pbP a b u v).length:Int),srt cmpE (peL a.2.2 b.2.2 b.2.1.toNat a.1.toNat (pbP a b u v) (pbP a b u v).length))
def pbOk (a b:GrD) (u v:Nat):Bool:=decide ((pbP a b u v).length≤40)&&decide ((peL a.2.2 b.2.2 b.2.1.toNat a.1.toNat (pbP a b u v) (pbP a b u v).length).length≤120)
theorem qBk {a b:GrD} (h1:qb a=true) (h2:qb b=true):Two a b a.2.1.toNat b.2.1.toNat:=by
 obtain⟨ga,fa⟩:=qE h1;obtain⟨gb,fb⟩:=qE h2;have s1:=(qB ga).2.1;have s2:=(qB gb).2.1;exact⟨ga,gb,fa,fb,tO,tO⟩
theorem qEU {A B u v:Nat} (hu:u<A) (hv:v<B):u*B+v<A*B:=by
 have:(u+1)*B≤A*B:=zaX _ hu
 rw[Nat.succ_mul] at this;omega
theorem qCe {α:Type} {l:List α} (h:l.Nodup) {i j:Nat} (hi:i<l.length) (hj:j<l.length) (e:l[i]=l[j]):i=j:=by
 have hp:=List.pairwise_iff_getElem.1 h;rcases Nat.lt_trichotomy i j with q | q | q
 ·exact absurd e (hp i j hi hj q)
 ·exact q
 ·exact absurd e.symm (hp j i hj hi q)
section
variable {a b:GrD} {u v:Nat}
theorem qDW (h1:qb a=true) (h2:qb b=true) (hu:(u:Int)<a.2.1) (hv:(v:Int)<b.2.1):(pbP a b u v).Nodup∧(∀q∈pbP a b u v,q<a.2.1.toNat*b.2.1.toNat)∧1≤(pbP a b u v).length∧(pbP a b u v).length≤1600∧
  ∀q∈pbP a b u v,∀x z,x∈qG a.1.toNat→pnx a.2.2 b.2.2 b.2.1.toNat q x=some z→z∈pbP a b u v:=by
 have h:=qBk h1 h2;have hb:=h.bd;have hp:u*b.2.1.toNat+v<a.2.1.toNat*b.2.1.toNat:=qEU tO tO;have hr:=(qB h.ga).1;have ac: ∀q∈pbP a b u v,q<a.2.1.toNat*b.2.1.toNat:=qPJ h hp;have eL:(pbP a b u v).Nodup:=qGe _;refine⟨eL,ac,?_,?_,qDw h (fun x hx=>(qDk tO x hx).1) hp⟩
 ·have:u*b.2.1.toNat+v∈pbP a b u v:=qNF h
  exact List.length_pos_of_mem this
 ·have:=qDh eL ac
  have:=zar hb.1.2 hb.2.2
  omega
theorem qNc (h1:qb a=true) (h2:qb b=true) (hu:(u:Int)<a.2.1) (hv:(v:Int)<b.2.1) {e:EdD} (he:e∈peL a.2.2 b.2.2 b.2.1.toNat a.1.toNat (pbP a b u v) (pbP a b u v).length):
  (0≤e.1∧e.1<(pbP a b u v).length)∧(1≤e.2.1∧e.2.1≤a.1)∧(0≤e.2.2∧e.2.2<(pbP a b u v).length):=by
 obtain⟨f1,f2,f3,f4,f5⟩:=qDW h1 h2 hu hv;have hr:=(qB (qE h1).1).1;obtain⟨i,j,hi,hj,hp⟩:=qEy.1 he;obtain⟨q,hq,rfl⟩:=qEi hp;rw[show(pbP a b u v).getD i 0=(pbP a b u v)[i] by simp[hi]] at hq;have hm:=f5 _ (zas hi) _ q (qX.2 (.inl ⟨tO,tO⟩)) hq;have:=zaj hm
 simp only
 omega
theorem qFi (h1:qb a=true) (h2:qb b=true) (hu:(u:Int)<a.2.1) (hv:(v:Int)<b.2.1) (af:pbOk a b u v=true):qb (pbG a b u v)=true:=by
 obtain⟨f1,f2,f3,f4,f5⟩:=qDW h1 h2 hu hv;have hr:=(qB (qE h1).1).1;have cO:=qBk h1 h2;unfold pbOk at af;rw[za4,decide_eq_true_eq,decide_eq_true_eq] at af;have gF:=qAu qAD (peL a.2.2 b.2.2 b.2.1.toNat a.1.toNat (pbP a b u v) (pbP a b u v).length);have hg:grB (pbG a b u v)=true:=by
  refine qFP hr ⟨by show(1:Int)≤((pbP a b u v).length:Int);omega,by show((pbP a b u v).length:Int)≤40;omega⟩ ?_ gF.1 (fun e he=>qNc h1 h2 hu hv ((gF.2 e).1 he));refine zax (qCV _) af.2
 unfold qb;rw[hg,Bool.true_and,decide_eq_true_eq];unfold Fol;refine gF.1.imp_of_mem fun {x y} hx hy hxy=> ?_;have ai:x≠y:=fun e=>by
  rw[e,qBe.2 rfl] at hxy;omega
 obtain⟨i,j,hi,hj,hp⟩:=qEy.1 ((gF.2 x).1 hx);obtain⟨i2,j2,aS,ce,vM⟩:=qEy.1 ((gF.2 y).1 hy);have pe:=hp;have sL:=vM;obtain⟨q,hq,rfl⟩:=qEi hp;obtain⟨q2,pA,rfl⟩:=qEi vM;rw[show(pbP a b u v).getD i 0=(pbP a b u v)[i] by simp[hi]] at hq;rw[show(pbP a b u v).getD i2 0=(pbP a b u v)[i2] by simp[aS]] at pA;rw[Bool.eq_false_iff];intro hc;unfold qBN at hc;simp only[za4,Bool.or_eq_true,beq_iff_eq] at hc;obtain⟨hl,pt⟩:=hc;have Oj:j=j2:=tO;subst Oj;rcases pt with pt | pt
 ·have:i=i2:=tO
  subst this;rw[pe] at sL;injection sL with sL
  exact ai sL
 ·have hm:=f5 _ (zas hi) _ q (qX.2 (.inl ⟨tO,tO⟩)) hq;have fF:=f5 _ (zas aS) _ q2 (qX.2 (.inl ⟨tO,tO⟩)) pA;have Lj:q=q2:=by
   have e1:=zau (zaj hm);have e2:=zau (zaj fF);have e3:(pbP a b u v).idxOf q=(pbP a b u v).idxOf q2:=tO;rw[←e1,←e2];simp only[e3]
  subst Lj;have b1:=qEu cO tO hq;have b2:=qEu cO tO pA;rw[b1] at b2;injection b2 with b2
  have:=qCe f1 hi aS b2
  subst this;rw[pe] at sL;injection sL with sL
  exact ai sL
theorem qOS (h1:qb a=true) (h2:qb b=true):(peL a.2.2 b.2.2 b.2.1.toNat a.1.toNat (pbP a b u v) (pbP a b u v).length).length=edgL a.2.2 b.2.2 b.2.1.toNat a.1.toNat (pbP a b u v):=by
 rw[qML _ _ _ _ _ _ (zah _),zap]
end
def qAw (a b:GrD) (u v:Nat):GrD×Bool:=if a.1=b.1∧pbOk a b u v=true then(pbG a b u v,true) else((0,0,[]),false)
theorem GBx.put {w:World} {p base base':Nat} {A A':Option Addr} {c c':Nat} {g:GrD} {ms:List EdD} (h:GBx w p base A c g) (o:OwE w base' (.slice A' ms.length c') ms) (hn: ∀b,(zac A' ms.length c').ownBlock=some b→b≠p):
  GBx (w.setCell ⟨p,2,none⟩ (.slice A' ms.length c')) p base' A' c' (g.1,g.2.1,ms):=by
 refine⟨(zam _ _ _ _ (by simp)).trans h.c0,(zam _ _ _ _ (by simp)).trans h.c1,zaG _ _ _ h.c2,fun j=>by rw[zaB];exact h.fz j,?_,hn,h.i1,h.i2,by simpa using h.lt⟩;exact o.keep fun b hb=>zav _ _ _ b (hn b hb)
def pkL (base:List EdD) (e:Option EdD) (j K:Nat):List EdD:=match e with
 | some e=>if j<K then srt cmpE (base++ [e]) else srt cmpE base
 | none=>srt cmpE base
theorem qOX (base:List EdD) (e:Option EdD) (j K:Nat):(pkL base e j K).length≤base.length+1:=by
 unfold pkL;have h1:=qCV (c:=cmpE) base;cases e with
 | none=>simp only;omega
 | some e=>
   simp only
   split
   ·have:=qCV (c:=cmpE) (base++ [e]);simp at this;omega
   ·omega
theorem qEh (va vb:Value) (a b:GrD) (u v:Nat) (w:World) (ha:ArgG w va a) (hb:ArgG w vb b) (cY:qb a=true) (d6:qb b=true) (hu:(u:Int)<a.2.1) (hv:(v:Int)<b.2.1):
  Calls Tryz.prog 89 #[va,vb, .int .i64 (u:Int), .int .i64 (v:Int)] w fun e w'=> ∃r,e= .returned (.tuple #[r, .bool (qAw a b u v).2])∧OwG w' w.heap.size r (qAw a b u v).1∧Below w.heap.size w w':=by
 have dI:=qA ha;have aI:=qA hb;have fd:=qA cY;have rO:=qA d6;have cO:=qBk cY d6;have rH:=cO.bd;have bn:=(qB cO.ga).1;obtain⟨pn,pl,p1,lw,pcl⟩:=qDW cY d6 hu hv;have uy:Hid (a.1≠b.1→qAw a b u v=((0,0,[]),false)):=qA fun h=>by unfold qAw;rw[if_neg fun q=>h q.1]
 have jb:Hid (pbOk a b u v=false→qAw a b u v=((0,0,[]),false)):=qA fun h=>by unfold qAw;rw[if_neg fun q=>by rw[h] at q;exact absurd q.2 (by decide)]
 have fO:Hid (a.1=b.1→pbOk a b u v=true→qAw a b u v=(pbG a b u v,true)):=qA fun h1 h2=>by unfold qAw;rw[if_pos ⟨h1,h2⟩]
 have xk:Hid (pbG a b u v=(a.1,((pbP a b u v).length:Int),srt cmpE (peL a.2.2 b.2.2 b.2.1.toNat a.1.toNat (pbP a b u v) (pbP a b u v).length))):=qA rfl;have k7:Hid (pbOk a b u v=(decide ((pbP a b u v).length≤40)&&decide (edgL a.2.2 b.2.2 b.2.1.toNat a.1.toNat (pbP a b u v)≤120))):=qA (by unfold pbOk;rw[qOS cY d6]);have Gi:Hid (pbP a b u v=prsL a b a.2.1.toNat b.2.1.toNat (qG a.1.toNat) (u*b.2.1.toNat+v)):=qA rfl;have xl:Hid (∀n,(peL a.2.2 b.2.2 b.2.1.toNat a.1.toNat (pbP a b u v) n).length≤n*a.1.toNat):=qA fun n=>qMI _ _ _ _ _ n;have nJ:inB (u:Int) 0 (a.2.1-1)=true:=qAC.2 ⟨tO,tO⟩;have oy:inB (v:Int) 0 (b.2.1-1)=true:=qAC.2 ⟨tO,tO⟩;have oX:=qA nJ;have dL:=qA oy;generalize qAw a b u v=RES at*;generalize pbG a b u v=PG at*;generalize pbOk a b u v=PO at*;generalize pbP a b u v=P at*;have mm:=qA cO;have rD:=qA pl;have EB:=qA pn;have KV:=qA pcl;have OA:=qA (qp cO.fa);have OB:=qA (qp cO.fb);have mP:=qA (qO cO.ga);have fp:=qA (qO cO.gb);obtain⟨sa,rfl,iR,iQ,dJ⟩:=ha;obtain⟨A,ca,rfl⟩:=dJ.form;obtain⟨sb,rfl,iI,iZ,cA⟩:=hb;obtain⟨B,cb,rfl⟩:=cA.form;obtain⟨a1,a2,as'⟩:=a;obtain⟨b1,b2,bs⟩:=b;obtain⟨rn,rfl⟩: ∃rn:Nat,a1=(rn:Int):=⟨a1.toNat,by simp only at bn;omega⟩;obtain⟨na,rfl⟩: ∃n:Nat,a2=(n:Int):=⟨a2.toNat,by have:=cO.sa;simp only at this;omega⟩;obtain⟨nb,rfl⟩: ∃n:Nat,b2=(n:Int):=⟨b2.toNat,by have:=cO.sb;simp only at this;omega⟩;simp only[zaA] at*;clear dJ cA cY d6 cO pl pn pcl nJ oy;have MR:wrap64 ((na:Int)-1)=(na:Int)-1:=IntWalk.wrap64_in _ ⟨tO,tO⟩;have Rv:wrap64 ((nb:Int)-1)=(nb:Int)-1:=IntWalk.wrap64_in _ ⟨tO,tO⟩;go_enter Tryz.func89,Tryz.ntmps89
 go_wp2_with fail;obtain⟨W1,an⟩: ∃W,W=w.alloc (.cells #[.int .i64 (rn:Int),.int .i64 (na:Int), .slice A as'.length ca] 26):=⟨_,rfl⟩;rw[←an];obtain⟨x1,eS,s1⟩:=CBx.new an;obtain⟨W2,aD⟩: ∃W,W=W1.alloc (.cells #[.int .i64 b1,.int .i64 (nb:Int), .slice B bs.length cb] 26):=⟨_,rfl⟩;rw[←aD];obtain⟨x2,cI,s2⟩:=CBx.new aD;obtain⟨W,hW⟩: ∃W,W=W2.alloc (.cells #[.int .i64 0,.int .i64 0, .slice none 0 0] 26):=⟨_,rfl⟩;rw[←hW];obtain⟨x3,iW,s3⟩:=CBx.new hW;have XA:=qA ((x1.below cI).below iW);have XB:=qA (x2.below iW);have XR:=qA x3;rw[s1] at XB;rw[s2,s1] at XR;have BX:Hid (Below w.heap.size w W):=qA (eS.trans ((cI.trans (iW.mono tO)).mono tO));have aW:W.heap.size=w.heap.size+3:=tO;clear hW an aD eS cI iW x1 x2 x3 s1 s2 s3;have HA:Hid (∀w',Below W.heap.size W w'→ArgG w' (.agg #[.int .i64 (rn:Int), .int .i64 (na:Int), .slice A as'.length ca]) ((rn:Int),(na:Int),as')):=qA fun w' hb=>dI.out.below (BX.out.trans (hb.mono tO));have HB:Hid (∀w',Below W.heap.size W w'→ArgG w' (.agg #[.int .i64 b1, .int .i64 (nb:Int), .slice B bs.length cb]) (b1,(nb:Int),bs)):=qA fun w' hb=>aI.out.below (BX.out.trans (hb.mono tO));have h1:=qAI _ ((rn:Int),(na:Int),as') W (HA.out W (zab _ _));rw[fd.out] at h1;refine h1.mono ?_;clear h1;rintro e w1 ⟨rfl,dU⟩;have B1:=qA dU;obtain⟨u0,u1,u2⟩:=(XB.out.below dU).cs;have fL:=dU.size;have dR:w.heap.size+1<w1.heap.size:=tO;clear dU;go_wp2_with fail;have h1:=qAI _ (b1,(nb:Int),bs) w1 (HB.out w1 B1.out);rw[rO.out] at h1;refine h1.mono ?_;clear h1 u0 u1 u2;rintro e w2 ⟨rfl,da⟩;have B2:=qA (B1.out.trans (da.mono B1.out.size));have pD:=da.size;clear da;obtain⟨u0,u1,u2⟩:=(XA.out.below B2.out).cs;obtain⟨v0,v1,v2⟩:=(XB.out.below B2.out).cs;obtain⟨z0,z1,z2⟩:=(XR.out.below B2.out).cs;have fA:=(XR.out.below B2.out).fz 0;have fc:=(XR.out.below B2.out).fz 1;have eJ:=(XR.out.below B2.out).fz 2;have pO:w.heap.size<w2.heap.size:=tO;have mn:w.heap.size+1<w2.heap.size:=tO;have lR:w.heap.size+1+1<w2.heap.size:=tO;rcases er:((rn:Int) != b1) with _ | _
 rotate_left
 ·have kH:(rn:Int)≠b1:=by simpa using er
  have F:=qA (uy.out kH);have aj:=qA (BX.out.trans (B2.out.mono tO));go_wp2;obtain⟨e0,e1,e2⟩:=qi (.int .i64 0) (.int .i64 0) (.slice none 0 0) z0 z1 z2;have bw:Below w.heap.size w (((w2.setCell ⟨w.heap.size+1+1,0,none⟩ (.int .i64 0)).setCell ⟨w.heap.size+1+1,1,none⟩ (.int .i64 0)).setCell ⟨w.heap.size+1+1,2,none⟩ (.slice none 0 0)):=qL _ _ _ aj.out tO;generalize (((w2.setCell ⟨w.heap.size+1+1,0,none⟩ (.int .i64 0)).setCell ⟨w.heap.size+1+1,1,none⟩ (.int .i64 0)).setCell ⟨w.heap.size+1+1,2,none⟩ (.slice none 0 0))=wf at*;rw[F.out];exact bodyPost_ret (v:= .tuple #[.agg #[.int .i64 0, .int .i64 0, .slice none 0 0], .bool false]) (by simp[results,Tryz.results89,go_sem,e0,e1,e2]) rfl ⟨_,rfl,⟨.slice none 0 0,rfl,⟨by decide,by decide⟩,⟨by decide,by decide⟩,OwE.nil⟩,bw⟩
 have kH:(rn:Int)=b1:=by simpa using er
 subst kH;have Nn:IntKind.i64.wrap ((na:Int)-1)=(na:Int)-1:=by rw[IntKind.wrap_i64];omega
 have Mk:IntKind.i64.wrap ((nb:Int)-1)=(nb:Int)-1:=by rw[IntKind.wrap_i64];omega
 have tX:Hid (PO=true→RES=(PG,true)):=qA fun h=>fO.out rfl h;clear er uy fO z0 z1 z2 fA fc eJ;go_wp2_with (go_at_call 138;refine(ql _ _ _ _).mono ?_;rintro e w' ⟨rfl,rfl⟩;first | rw[oX.out] | rw[dL.out])
 have lz:u*nb+v<na*nb:=qEU tO tO;have lC:=qIP _ _ _ _ na nb rn (u*nb+v) u v w2 (HA.out w2 B2.out) (HB.out w2 B2.out) mm.out rfl rfl lz rfl;rw[←Gi.out] at lC;refine lC.mono ?_;clear lC lz u0 u1 u2 v0 v1 v2;rintro e w3 ⟨sP,rfl,oP,cX⟩;have B3:=qA (B2.out.trans (cX.mono B2.out.size));have sX:=cX.size;obtain⟨AP,cP,rfl,H8,Ro,_,Jf⟩:=oP.form;obtain⟨bP,rfl,Nd,MS⟩:=Jf (by rw[qDc];omega);have OP:=qA oP;clear cX oP Jf;obtain⟨u0,u1,u2⟩:=(XA.out.below B3.out).cs;obtain⟨v0,v1,v2⟩:=(XB.out.below B3.out).cs;have Oi:w.heap.size<w3.heap.size:=tO;have Fv:w.heap.size+1<w3.heap.size:=tO;go_wp2_with fail;refine(qID _ _ _ _ _ na nb rn P w3 (HA.out w3 B3.out) (HB.out w3 B3.out) OP.out.rd mm.out rfl rfl rD.out lw).mono ?_
 rintro e w4 ⟨rfl,ci⟩;have B4:=qA (B3.out.trans (ci.mono B3.out.size));have d9:=ci.size;have FY:=qA (OP.out.below ci);clear ci u0 u1 u2 v0 v1 v2;have hE:=qLz as' bs nb rn tO P;obtain⟨np,Cn⟩: ∃np,np=P.length:=⟨_,rfl⟩;have xB:=qA Cn;have nK:(ns P).length=np:=by rw[qDc,Cn]
 have Lx:np≤cP:=by rw[←nK];exact H8
 obtain⟨NS,Gq⟩: ∃NS,NS=ns P:=⟨_,rfl⟩;rw[←Gq] at nK OP FY⊢;have pr:Hid (∀(k:Nat) (hk:k<P.length),∃iL:k<NS.length,NS[k]=((P[k]:Nat):Int)):=qA fun k hk=>⟨tO,by simp only[Gq];exact qLm P k hk⟩;have GT:Hid (∀i,(peL as' bs nb rn P i).length≤i*rn):=xl;rw[←Cn] at k7 xk p1 lw hE;obtain⟨EL,CO⟩: ∃EL,edgL as' bs nb rn P=EL:=⟨_,rfl⟩;have AG:edgL ((rn:Int),(na:Int),as').2.2 ((rn:Int),(nb:Int),bs).2.2 nb rn P=EL:=CO;rw[AG];have l6:Hid (PO=(decide (np≤40)&&decide (EL≤120))):=qA (by rw[←CO];exact k7.out);clear k7;have k7:=l6;rw[CO] at hE;clear CO AG l6;rw[nK];clear H8;obtain⟨u0,u1,u2⟩:=(XA.out.below B4.out).cs;obtain⟨v0,v1,v2⟩:=(XB.out.below B4.out).cs;obtain⟨z0,z1,z2⟩:=(XR.out.below B4.out).cs;have fA:=(XR.out.below B4.out).fz 0;have fc:=(XR.out.below B4.out).fz 1;have eJ:=(XR.out.below B4.out).fz 2;have DA:w.heap.size<w4.heap.size:=tO;have LP:w.heap.size+1<w4.heap.size:=tO;have OI:w.heap.size+1+1<w4.heap.size:=tO;have uZ:Hid (NS.length=np):=qA nK;clear Gq Cn nK;rcases el:decide (40<np) with _ | _
 rotate_left
 ·have fG:40<np:=by simpa using el
  have kQ:(40:Int)<(np:Int):=tO;have F:=qA (jb.out (by rw[k7.out,decide_eq_false (by omega: ¬np≤40)];rfl));have aj:=qA (BX.out.trans (B4.out.mono tO));go_wp2;obtain⟨e0,e1,e2⟩:=qi (.int .i64 0) (.int .i64 0) (.slice none 0 0) z0 z1 z2;have bw:Below w.heap.size w (((w4.setCell ⟨w.heap.size+1+1,0,none⟩ (.int .i64 0)).setCell ⟨w.heap.size+1+1,1,none⟩ (.int .i64 0)).setCell ⟨w.heap.size+1+1,2,none⟩ (.slice none 0 0)):=qL _ _ _ aj.out tO;generalize (((w4.setCell ⟨w.heap.size+1+1,0,none⟩ (.int .i64 0)).setCell ⟨w.heap.size+1+1,1,none⟩ (.int .i64 0)).setCell ⟨w.heap.size+1+1,2,none⟩ (.slice none 0 0))=wf at*;rw[F.out];exact bodyPost_ret (v:= .tuple #[.agg #[.int .i64 0, .int .i64 0, .slice none 0 0], .bool false]) (by simp[results,Tryz.results89,go_sem,e0,e1,e2]) rfl ⟨_,rfl,⟨.slice none 0 0,rfl,⟨by decide,by decide⟩,⟨by decide,by decide⟩,OwE.nil⟩,bw⟩
 have fG:np≤40:=by simp at el;omega
 have kQ: ¬(40:Int)<(np:Int):=tO;rcases ee:decide (120<EL) with _ | _
 rotate_left
 ·have aQ:120<EL:=by simpa using ee
  have oq:(120:Int)<(EL:Int):=tO;have F:=qA (jb.out (by rw[k7.out,decide_eq_false (by omega: ¬EL≤120),zba]));clear el ee fG aQ hE lw;have aj:=qA (BX.out.trans (B4.out.mono tO));go_wp2;obtain⟨e0,e1,e2⟩:=qi (.int .i64 0) (.int .i64 0) (.slice none 0 0) z0 z1 z2;have bw:Below w.heap.size w (((w4.setCell ⟨w.heap.size+1+1,0,none⟩ (.int .i64 0)).setCell ⟨w.heap.size+1+1,1,none⟩ (.int .i64 0)).setCell ⟨w.heap.size+1+1,2,none⟩ (.slice none 0 0)):=qL _ _ _ aj.out tO;generalize (((w4.setCell ⟨w.heap.size+1+1,0,none⟩ (.int .i64 0)).setCell ⟨w.heap.size+1+1,1,none⟩ (.int .i64 0)).setCell ⟨w.heap.size+1+1,2,none⟩ (.slice none 0 0))=wf at*;rw[F.out];exact bodyPost_ret (v:= .tuple #[.agg #[.int .i64 0, .int .i64 0, .slice none 0 0], .bool false]) (by simp[results,Tryz.results89,go_sem,e0,e1,e2]) rfl ⟨_,rfl,⟨.slice none 0 0,rfl,⟨by decide,by decide⟩,⟨by decide,by decide⟩,OwE.nil⟩,bw⟩
 have aQ:EL≤120:=by simp at ee;omega
 have oq: ¬(120:Int)<(EL:Int):=tO;have lD:=qA (tX.out (by rw[k7.out,decide_eq_true fG,decide_eq_true aQ];rfl));clear el ee z0 z1 z2 fA fc eJ;have mS:1≤np:=p1;go_wp2;obtain⟨w5,gd⟩: ∃W,W=w4.alloc (.cells #[.int .i64 (rn:Int),.int .i64 (np:Int), .slice none 0 0] 26):=⟨_,rfl⟩;have JG:=qA (GBx.new (m:=((rn:Int),(np:Int),[])) (base:=w.heap.size+3) (A:=none) (c:=0) OwE.nil (by unfold I64;simp only;omega) (by unfold I64;simp only;omega) gd);obtain⟨_,gT,Nz⟩:=CBx.new gd;rw[←gd];obtain⟨p,hp⟩: ∃p,p=w4.heap.size:=⟨_,rfl⟩;rw[←hp] at JG⊢;have B5:Hid (Below p w4 w5):=qA (by rw[hp];exact gT);have Rl:W.heap.size≤p:=by have:=B4.out.size;omega
 have Rz:w.heap.size+3≤p:=tO;have lA:Hid (∀w',Below p w4 w'→Below W.heap.size W w'):=qA fun w' hb=>B4.out.trans (hb.mono tO);have gw:Hid (∀w',Below p w4 w'→CBx w' w.heap.size (.int .i64 (rn:Int)) (.int .i64 (na:Int)) (.slice A as'.length ca)∧CBx w' (w.heap.size+1) (.int .i64 (rn:Int)) (.int .i64 (nb:Int)) (.slice B bs.length cb)):=qA fun w' hb=>⟨XA.out.below (lA.out w' hb),XB.out.below (lA.out w' hb)⟩;have EP:Hid (∀w',Below p w4 w'→OwI w' w2.heap.size (.slice (some ⟨bP,0,none⟩) NS.length cP) NS):=qA fun w' hb=>FY.out.keepB fun b aJ=>hb.block b (by have:=(FY.out.1.lt b aJ).2;omega);have Mi:bP<p:=tO;clear gd hp gT u0 u1 u2 v0 v1 v2;go_loopw [13] (fun i wr=> ∃(k:Nat) (A2:Option Addr) (c2:Nat),k≤np∧i= .int .i64 k∧GBx wr p (w.heap.size+3) A2 c2 ((rn:Int),(np:Int),srt cmpE (peL as' bs nb rn P k))∧Below p w4 wr) (fun i _=>np-(intOf i).toNat)
 case atStart=>exact⟨0,none,0,zay _,rfl,JG.out,B5.out⟩
 case round=>
  obtain⟨k,A2,c2,hk,rfl,a8,aZ⟩:=hrel;obtain⟨wk,rfl⟩: ∃wk:World,wk=wr:=⟨_,rfl⟩;have ik:=qA a8;have dV:=qA aZ;clear a8 aZ;by_cases ac:k<np
  ·have pm:=rD.out _ (zas (by have:=xB.out;omega:k<P.length));obtain⟨pk,oH⟩: ∃pk,P[k]'(by have:=xB.out;omega)=pk:=⟨_,rfl⟩;have nm:=qA oH;have nT:Hid (P.getD k 0=pk):=qA (by rw[←oH];simp[show k<P.length by have:=xB.out;omega]);have H5:Hid (∃iL:k<NS.length,NS[k]=(pk:Int)):=qA (by
    obtain⟨h1,h2⟩:=pr.out k (by have:=xB.out;omega);exact⟨h1,by rw[h2,oH]⟩)
   rw[oH] at pm;have Cq:na*nb≤1600:=zar rH.1.2 rH.2.2;obtain⟨un,d4⟩: ∃un,un=pk/nb:=⟨_,rfl⟩;obtain⟨vn,kz⟩: ∃vn,vn=pk%nb:=⟨_,rfl⟩;have ip:=qA d4;have pH:=qA kz;have yF:un≤1600:=by rw[d4];exact zax (zaT _ _) tO
   have jU:wrap64 ((pk:Int)/(nb:Int))=(un:Int):=by
    have:(pk:Int)/(nb:Int)=(un:Int):=by rw[d4];rfl
    rw[this];exact IntWalk.wrap64_in _ ⟨tO,tO⟩
   have jX:(pk:Int)%(nb:Int)=(vn:Int):=by rw[kz];rfl
   have Cp:=qA jU;have Hw:=qA jX;clear jU jX;have sZ:Hid ((peL as' bs nb rn P k).length≤4800):=qA (by
    have h1:=GT.out k;have h2:=zar (show k≤1600 by omega) (show rn≤3 by omega);omega)
   have xC:=qA (qFe as' bs nb rn P k);obtain⟨BL,yC⟩: ∃L,peL as' bs nb rn P k=L:=⟨_,rfl⟩;rw[yC] at sZ xC ik;clear yC d4 kz oH;go_wp2;go_loopw [14] (fun x wr=> ∃(m:Nat) (A2:Option Addr) (c2:Nat),m≤rn∧x= .int .i64 ((m:Int)+1)∧GBx wr p (w.heap.size+3) A2 c2 ((rn:Int),(np:Int),srt cmpE (BL++peR as' bs nb P k m))∧Below p w4 wr) (fun x _=>rn+1-(intOf x).toNat)
   case atStart=>exact⟨0,A2,c2,zay _,rfl,by simpa[peR] using ik.out,dV.out⟩
   case round=>
    obtain⟨m,A2,c2,hm,rfl,a8,aZ⟩:=hrel;obtain⟨wm,rfl⟩: ∃wm:World,wm=wr:=⟨_,rfl⟩;have za:=qA a8;have Ep:=qA aZ;have RQ:=aZ.size;obtain⟨jN,jV,js⟩:=(gw.out wm aZ).1.cs;obtain⟨jl,jf,jn⟩:=(gw.out wm aZ).2.cs;obtain⟨iL,CE⟩:=H5.out;have iE:=(EP.out wm aZ).cellAt k iL;rw[CE] at iE;have lC:=a8.lt;clear a8 aZ CE;by_cases al:m<rn
    ·have no:(m:Int)+1≤(rn:Int):=tO;have Ae:=qA (qHe as' bs nb P k m);have zv:=qOC as' bs nb P k m;have mu:Hid (peE as' bs nb P k ((m:Int)+1)=(pnx as' bs nb pk ((m:Int)+1)).map fun q=>((k:Int),(m:Int)+1,((P.idxOf q:Nat):Int))):=qA (by unfold peE;rw[nT.out]);have mq:Hid (pnx as' bs nb pk ((m:Int)+1)=if 0≤qF as' (un:Int) ((m:Int)+1)∧0≤qF bs (vn:Int) ((m:Int)+1) then some ((qF as' (un:Int) ((m:Int)+1)).toNat*nb+(qF bs (vn:Int) ((m:Int)+1)).toNat) else none):=qA (by unfold pnx;rw[←ip.out,←pH.out]);have FQ:Hid (∀q,pnx as' bs nb pk ((m:Int)+1)=some q→q∈P):=qA fun q hq=>KV.out pk (by rw[←nm.out];exact zas _) _ q (qX.2 (.inl ⟨tO,tO⟩)) hq;have kC:=qA (fun W h=>qU (.agg #[.int .i64 (rn:Int), .int .i64 (na:Int), .slice A as'.length ca]) ((rn:Int),(na:Int),as') (un:Int) ((m:Int)+1) W h (OA.out (un:Int) _));have kX:=qA (fun W h=>qU (.agg #[.int .i64 (rn:Int), .int .i64 (nb:Int), .slice B bs.length cb]) ((rn:Int),(nb:Int),bs) (vn:Int) ((m:Int)+1) W h (OB.out (vn:Int) _));have zA:=qA (mP.out (un:Int) ((m:Int)+1));have zm:=qA (fp.out (vn:Int) ((m:Int)+1));have g0:w.heap.size<wm.heap.size:=tO;have g1:w.heap.size+1<wm.heap.size:=tO;have g2:bP<wm.heap.size:=tO;have jU:=Cp.out;have jX:=Hw.out;go_wp2_with fail;have f0:=BelW.cell jN g0;have f1:=BelW.cell jV g0;have f2:=BelW.cell js g0;have f3:=BelW.cell jl g1;have f4:=BelW.cell jf g1;have f5:=BelW.cell jn g1;have f6:=BelW.cell iE g2;(refine qH tK tK ?_;(repeat(go_big_quiet_step (first | (go_at_call 86;with_reducible exact Calls.bel_of (kC.out _ (HA.out _ (lA.out _ (Ep.out.trans ((BelW.h _).mono (zaZ lC))))))))));refine wpQuiet_nil ?_;intro wq aA;obtain⟨pq,ae⟩:=aA;have bq:=pq.h;rw[←ae] at bq;clear ae pq)
     clear f0 f1 f2 f3 f4 f5 f6 jU jX;have sq:=bq.size;have Gv:p<wq.heap.size:=tO;have ej:=qA (Ep.out.trans (bq.mono tO));have BQ:=qA bq;clear bq jN jV js jl jf jn iE;obtain⟨jN,jV,js⟩:=(gw.out wq ej.out).1.cs;obtain⟨jl,jf,jn⟩:=(gw.out wq ej.out).2.cs;have iE:wq.cell? ⟨bP,k,none⟩=some (.int .i64 (pk:Int)):=by
      obtain⟨iL,CE⟩:=H5.out;have:=(EP.out wq ej.out).cellAt k iL
      rwa [CE] at this
     clear g0 g1 g2;have g0:w.heap.size<wq.heap.size:=tO;have g1:w.heap.size+1<wq.heap.size:=tO;have g2:bP<wq.heap.size:=tO;have jU:=Cp.out;have jX:=Hw.out;go_wp2_with fail;have f0:=BelW.cell jN g0;have f1:=BelW.cell jV g0;have f2:=BelW.cell js g0;have f3:=BelW.cell jl g1;have f4:=BelW.cell jf g1;have f5:=BelW.cell jn g1;have f6:=BelW.cell iE g2;(refine qH tK tK ?_;(repeat(go_big_quiet_step (first | (go_at_call 86;with_reducible exact Calls.bel_of (kX.out _ (HB.out _ (lA.out _ (ej.out.trans ((BelW.h _).mono (zaZ Gv))))))))));refine wpQuiet_nil ?_;intro wz aA;obtain⟨pq,ae⟩:=aA;have bz:=pq.h;rw[←ae] at bz;clear ae pq)
     clear f0 f1 f2 f3 f4 f5 f6 jU jX g0 g1 g2;have sz:=bz.size;have fP:=qA (ej.out.trans (bz.mono tO));have Di:=qA ((za.out.below BQ.out).below bz);clear bz jN jV js jl jf jn iE;rcases ey:decide (0≤qF as' (un:Int) ((m:Int)+1)∧0≤qF bs (vn:Int) ((m:Int)+1)) with _ | _
     ·have Ah: ¬(0≤qF as' (un:Int) ((m:Int)+1)∧0≤qF bs (vn:Int) ((m:Int)+1)):=by simpa using ey
      have Br:Hid (peR as' bs nb P k (m+1)=peR as' bs nb P k m):=qA (by rw[Ae.out,mu.out,mq.out,if_neg Ah];simp);generalize qF as' (un:Int) ((m:Int)+1)=y1 at*;generalize qF bs (vn:Int) ((m:Int)+1)=y2 at*;have N6:(0:Int)<(np:Int):=tO;have EZ:=uZ.out;clear mu mq FQ kC kX;go_wp2;go_loopw [17] (fun x wr=>x= .int .i64 0∧wr=wz) (fun _ _=>0)
      case atStart=>exact⟨rfl,rfl⟩
      case round=>
       obtain⟨rfl,rfl⟩:=hrel;rcases e1:decide (0≤y1) with _ | _
       ·have h1: ¬0≤y1:=by simpa using e1
        go_wp2;go_roundw
        case rel=>exact⟨m+1,A2,c2,tO,by go_num,by rw[Br.out];exact Di.out,fP.out⟩
        case measure=>simp[intOf];omega
       ·have h1:0≤y1:=by simpa using e1
        have h2: ¬0≤y2:=fun h=>Ah ⟨h1,h⟩;go_wp2;go_roundw
        case rel=>exact⟨m+1,A2,c2,tO,by go_num,by rw[Br.out];exact Di.out,fP.out⟩
        case measure=>simp[intOf];omega
     ·have tv:0≤qF as' (un:Int) ((m:Int)+1)∧0≤qF bs (vn:Int) ((m:Int)+1):=by simpa using ey
      have uf:=zA.out;have vF:=zm.out;obtain⟨y1,pf⟩: ∃y:Nat,qF as' (un:Int) ((m:Int)+1)=(y:Int):=⟨(qF as' (un:Int) ((m:Int)+1)).toNat,tO⟩;obtain⟨y2,ux⟩: ∃y:Nat,qF bs (vn:Int) ((m:Int)+1)=(y:Int):=⟨(qF bs (vn:Int) ((m:Int)+1)).toNat,tO⟩;have mN:pnx as' bs nb pk ((m:Int)+1)=some (y1*nb+y2):=by
       rw[mq.out,if_pos tv,pf,ux];rfl
      have vd:=FQ.out _ mN;have nM:Hid (peR as' bs nb P k (m+1)=peR as' bs nb P k m++ [((k:Int),(m:Int)+1,((P.idxOf (y1*nb+y2):Nat):Int))]):=qA (by rw[Ae.out,mu.out,mN];rfl);have dS:=zaj vd;have FK:Hid (∀K (hK:K<P.length),P[K]=y1*nb+y2↔K=P.idxOf (y1*nb+y2)):=qA fun K hK=>by
       constructor
       ·intro h;refine qCe EB.out hK dS ?_;rw[h,zau dS]
       ·intro h;subst h;exact zau dS
      rw[←xB.out] at dS;rw[pf,ux] at tv⊢;obtain⟨jx,ny⟩: ∃j,P.idxOf (y1*nb+y2)=j:=⟨_,rfl⟩;rw[ny] at nM FK dS;have yX:y1<na:=tO;have kA:y2<nb:=tO;have Rx:y1*nb+y2≤1600:=by have:=qEU yX kA;omega
      have fe:(-9223372036854775808:Int)≤((y1*nb:Nat):Int)∧((y1*nb:Nat):Int)≤9223372036854775807:=⟨tO,tO⟩;have eO:(-9223372036854775808:Int)≤((y1*nb+y2:Nat):Int)∧((y1*nb+y2:Nat):Int)≤9223372036854775807:=⟨tO,tO⟩;have OG:(0:Int)≤(y1:Int):=tO;have Py:(0:Int)≤(y2:Int):=tO;have Fi:Hid (IntKind.i64.wrap ((y1:Int)*(nb:Int))=((y1*nb:Nat):Int)):=qA (by rw[←za7,qGX];exact IntWalk.wrap64_in _ fe);have mX:Hid (IntKind.i64.wrap (((y1*nb:Nat):Int)+(y2:Int))=((y1*nb+y2:Nat):Int)):=qA (by rw[←za8,qGX];exact IntWalk.wrap64_in _ eO);have D0:Hid (wrap64 ((y1:Int)*(nb:Int))=((y1*nb:Nat):Int)):=qA (by rw[←za7];exact IntWalk.wrap64_in _ fe);have C9:Hid (wrap64 (((y1*nb:Nat):Int)+(y2:Int))=((y1*nb+y2:Nat):Int)):=qA (by rw[←za8];exact IntWalk.wrap64_in _ eO);clear fe eO;obtain⟨qn,mY⟩: ∃q,y1*nb+y2=q:=⟨_,rfl⟩;rw[mY] at mX C9 FK;obtain⟨Rq,Bx⟩: ∃q,y1*nb=q:=⟨_,rfl⟩;rw[Bx] at Fi mX D0 C9;obtain⟨L0,CS⟩: ∃L,BL++peR as' bs nb P k m=L:=⟨_,rfl⟩;have Nw:L0.length≤4900:=by rw[←CS,zae];have:=sZ.out;omega
      rw[CS] at Di;have DQ:=qA CS;clear pf ux tv uf vF mN vd ny mY Bx CS mu mq FQ kC kX zA zm ey;go_wp2;go_loopw [17] (fun x wr=> ∃(K:Nat) (A2:Option Addr) (c2:Nat),K≤np∧x= .int .i64 K∧GBx wr p (w.heap.size+3) A2 c2 ((rn:Int),(np:Int),pkL L0 (some ((k:Int),(m:Int)+1,(jx:Int))) jx K)∧Below p w4 wr) (fun x _=>np-(intOf x).toNat)
      case atStart=>exact⟨0,A2,c2,zay _,rfl,by rw[show pkL L0 (some ((k:Int),(m:Int)+1,(jx:Int))) jx 0=srt cmpE L0 by simp[pkL]];exact Di.out,fP.out⟩
      case round=>
       obtain⟨K,A2,c2,hK,rfl,a8,aZ⟩:=hrel;have yZ:=qA a8;have aC:=qA aZ;have fS:=aZ.size;have ES:=a8.lt;by_cases mA:K<np
       ·have Rf:(K:Int)<(np:Int):=tO;have Iu:K<P.length:=by have:=xB.out;omega
        obtain⟨pK,Fu⟩: ∃q,P[K]=q:=⟨_,rfl⟩;have Dc:=qA (FK.out K Iu);rw[Fu] at Dc;have iE:wr.cell? ⟨bP,K,none⟩=some (.int .i64 (pK:Int)):=by
         obtain⟨h1,h2⟩:=pr.out K Iu;have:=(EP.out wr aZ).cellAt K h1
         rwa [h2,Fu] at this
        obtain⟨jl,jf,jn⟩:=(gw.out wr aZ).2.cs;have Qf:w.heap.size+1<wr.heap.size:=tO;have PQ:bP<wr.heap.size:=tO;have Dy:Hid (jx≠K→pkL L0 (some ((k:Int),(m:Int)+1,(jx:Int))) jx (K+1)=pkL L0 (some ((k:Int),(m:Int)+1,(jx:Int))) jx K):=qA fun ai=>by
         unfold pkL;simp only
         by_cases h:jx<K
         ·rw[if_pos h,if_pos tO]
         ·rw[if_neg h,if_neg tO]
        have Fc:Hid (jx=K→pkL L0 (some ((k:Int),(m:Int)+1,(jx:Int))) jx (K+1)=insF cmpE (pkL L0 (some ((k:Int),(m:Int)+1,(jx:Int))) jx K) ((k:Int),(m:Int)+1,(K:Int))):=qA fun he=>by
         subst he;unfold pkL;simp only
         rw[if_pos tO,if_neg tO,qNx]
        clear a8 aZ Fu;rcases eqk:((pK:Int)==(qn:Int)) with _ | _
        ·have ai:jx≠K:=fun h=>by
          have:=Dc.out.2 h.symm
          rw[this] at eqk;simp at eqk
         have F:=qA (Dy.out ai);clear ai Fc Dy;have m1:=Fi.out;have m2:=mX.out;have m3:=D0.out;have m4:=C9.out;go_wp2_with fail;go_quiet (fail)
         go_wp2;clear m1 m2 m3 m4;go_roundw
         case rel=>exact⟨K+1,A2,c2,tO,by go_num,by rw[F.out];exact yZ.out.below (qD (zab _ _) _),qD aC.out _⟩
         case measure=>simp[intOf];omega
        ·have F:=qA (Fc.out (Dc.out.1 (Int.ofNat_inj.1 (eq_of_beq eqk))).symm);have sK:=qOX L0 (some ((k:Int),(m:Int)+1,(jx:Int))) jx K;clear Fc Dy Dc;obtain⟨LK,Hm⟩: ∃L,pkL L0 (some ((k:Int),(m:Int)+1,(jx:Int))) jx K=L:=⟨_,rfl⟩;obtain⟨LN,Eu⟩: ∃L,insF cmpE LK ((k:Int),(m:Int)+1,(K:Int))=L:=⟨_,rfl⟩;rw[Hm] at F yZ sK;rw[Eu] at F;have Eh:=qA Eu;clear Hm Eu;have z2:=yZ.out.c2;simp only at z2
         have dz:E64 ((k:Int),(m:Int)+1,(K:Int)):=⟨⟨by simp only;omega,by simp only;omega⟩,⟨by simp only;omega,by simp only;omega⟩,⟨by simp only;omega,by simp only;omega⟩⟩;have bR:=qA dz;have Eb:LK.length≤268435456:=tO;clear dz;have m1:=Fi.out;have m2:=mX.out;have m3:=D0.out;have m4:=C9.out;go_wp2_with fail;go_quiet (fail)
         go_wp2_with fail;clear m1 m2 m3 m4 z2;have zy:=qA (yZ.out.below (qD (zab _ _) nq));have ch:=qA (qD aC.out nq);have zB:p<(wr.drewN nq).heap.size:=ES;generalize wr.drewN nq=wd at*;refine(qCc _ LK ((k:Int),(m:Int)+1,(K:Int)) wd zy.out.ow.arg bR.out Eb).mono ?_
         rintro e w9 ⟨r9,rfl,o9,b9⟩;rw[Eh.out] at o9;have kn:=b9.size;have Fz:=qA (zy.out.below b9);have eh:=qA (ch.out.trans (b9.mono (zaZ zB)));obtain⟨A9,c9,rfl,_⟩:=o9.form;have pN:Hid (∀b,(zac A9 LN.length c9).ownBlock=some b→b≠p):=qA fun b hb=>by have:=(o9.1.lt b hb).1;omega
         have rB:=qA (Fz.out.put o9 pN.out);have xP:=qA (eh.out.setCell (p:=⟨p,2,none⟩) (zah _) (.slice A9 LN.length c9));have z2:=Fz.out.c2;have eJ:=Fz.out.fz 2;simp only at z2
         clear o9 b9;go_wp2;go_roundw
         case rel=>exact⟨K+1,A9,c9,tO,by go_num,by rw[F.out];exact rB.out.mono tO,xP.out⟩
         case measure=>simp[intOf];omega
       ·obtain rfl:K=np:=tO
        have F:Hid (pkL L0 (some ((k:Int),(m:Int)+1,(jx:Int))) jx K=srt cmpE (BL++peR as' bs nb P k (m+1))):=qA (by
         unfold pkL;simp only
         rw[if_pos dS,nM.out,←DQ.out,zaO])
        have zy:=yZ;rw[F.out] at zy;have EZ:=uZ.out;clear a8 aZ;go_wp2;go_roundw
        case rel=>exact⟨m+1,A2,c2,tO,by go_num,zy.out,aC.out⟩
        case measure=>simp[intOf];omega
    ·obtain rfl:m=rn:=tO
     have uv: ¬(m:Int)+1≤(m:Int):=tO;go_wp2;go_roundw
     case rel=>exact⟨k+1,A2,c2,tO,by go_num,by rw[xC.out];exact za.out,Ep.out⟩
     case measure=>simp[intOf];omega
  ·obtain rfl:k=np:=tO
   have zi:=xk.out;have F:=qA (lD.out.trans (by rw[zi]:(PG,true)=(((rn:Int),(k:Int),srt cmpE (peL as' bs nb rn P k)),true)));clear zi lD xk;obtain⟨LL,Ht⟩: ∃L,srt cmpE (peL as' bs nb rn P k)=L:=⟨_,rfl⟩;rw[Ht] at F ik;clear Ht;have BF:=qA (lA.out _ dV.out);obtain⟨z0,z1,z2⟩:=(XR.out.below BF.out).cs;have fA:=(XR.out.below BF.out).fz 0;have fc:=(XR.out.below BF.out).fz 1;have eJ:=(XR.out.below BF.out).fz 2;obtain⟨y0,y1,y2⟩:=ik.out.cs;simp only at y0 y1 y2
   have Jm:=ik.out.lt;have AU:w.heap.size+1+1<wk.heap.size:=tO;have kT:w.heap.size+1+1≠p:=tO;have aj:=qA (BX.out.trans (BF.out.mono tO));have IX:=qA ik.out.ow;have aT:=ik.out.i1;have aS:=ik.out.i2;go_wp2;obtain⟨e0,e1,e2⟩:=qi (.int .i64 (rn:Int)) (.int .i64 (k:Int)) (.slice A2 LL.length c2) z0 z1 z2;have bw:Below w.heap.size w (((wk.setCell ⟨w.heap.size+1+1,0,none⟩ (.int .i64 (rn:Int))).setCell ⟨w.heap.size+1+1,1,none⟩ (.int .i64 (k:Int))).setCell ⟨w.heap.size+1+1,2,none⟩ (.slice A2 LL.length c2)):=qL _ _ _ aj.out tO;have ow:OwE (((wk.setCell ⟨w.heap.size+1+1,0,none⟩ (.int .i64 (rn:Int))).setCell ⟨w.heap.size+1+1,1,none⟩ (.int .i64 (k:Int))).setCell ⟨w.heap.size+1+1,2,none⟩ (.slice A2 LL.length c2)) (w.heap.size+3) (.slice A2 LL.length c2) LL:=IX.out.keep fun b hb=>qK _ _ _ _ _ (by have:=(IX.out.1.lt b hb).1;omega);generalize (((wk.setCell ⟨w.heap.size+1+1,0,none⟩ (.int .i64 (rn:Int))).setCell ⟨w.heap.size+1+1,1,none⟩ (.int .i64 (k:Int))).setCell ⟨w.heap.size+1+1,2,none⟩ (.slice A2 LL.length c2))=wf at*;rw[F.out];exact bodyPost_ret (v:= .tuple #[.agg #[.int .i64 (rn:Int), .int .i64 (k:Int), .slice A2 LL.length c2], .bool true]) (by simp[results,Tryz.results89,go_sem,e0,e1,e2]) rfl ⟨_,rfl,⟨.slice A2 LL.length c2,rfl,aT,aS,ow.mono tO⟩,bw⟩
structure MatI (X bb P A B:Nat) (w:World) (Q:Nat→Nat) (f:Nat→Nat→Int):Prop where
 outer:w.ownsRow bb 37 1 (.slice (some ⟨P,0,none⟩) A A) A ((zaE A).map fun i=> .slice (some ⟨Q i,0,none⟩) B B)
 rows: ∀i,i<A→OwI w bb (.slice (some ⟨Q i,0,none⟩) B B) ((zaE B).map (f i))
 inj: ∀i j,i<A→j<A→Q i=Q j→i=j
 neP: ∀i,i<A→Q i≠P
 ltP:P<X
 ltQ: ∀i,i<A→Q i<X
section
variable {X bb P A B:Nat} {w w':World} {Q:Nat→Nat} {f:Nat→Nat→Int}
theorem qEk {base:Nat} {e:TypeId} {sz n:Nat} {v:Value} {cs:List Value} (h:w.ownsRow base e sz v n cs) (hb: ∀b,v.ownBlock=some b→w'.heap[b]? =w.heap[b]?):w'.ownsRow base e sz v n cs:=by
 refine⟨h.1,?_⟩;rcases h.2 with h0 | ⟨g,cap,cur,hv,hg,hh,r⟩
 ·exact .inl h0
 ·exact .inr ⟨g,cap,cur,hv,hg,by rw[hb g (by rw[hv];rfl)];exact hh,r⟩
end
def prC (B:Nat) (p:Nat):List Value:= [.int .i64 ((p/B:Nat):Int), .int .i64 ((p%B:Nat):Int)]
def prCs (B:Nat) (o:List Nat):List Value:=(o.map (prC B)).flatten
theorem qKE (B:Nat) (o:List Nat) (k j:Nat) (hk:k<o.length) (hj:j<2):(prCs B o)[k*2+j]? =(prC B o[k])[j]? :=by
 unfold prCs;induction o generalizing k with
 | nil=>simp at hk
 | cons p o ih=>
   cases k with
   | zero=>
     simp only[Nat.zero_mul,zaL,zaN,zaP,List.getElem_cons_zero];rw[zaR (by simpa[prC] using hj)]
   | succ k=>
     simp only[zaN,zaP,List.getElem_cons_succ];rw[List.getElem?_append_right (by simp[prC];omega)];have:(k+1)*2+j-(prC B p).length=k*2+j:=by simp[prC];omega
     rw[this];exact ih k (by simpa using hk)
theorem qLT (B:Nat) (o:List Nat) (p:Nat):prCs B (o++ [p])=prCs B o++prC B p:=by simp[prCs]
def OwPr (w:World) (base:Nat) (v:Value) (B:Nat) (o:List Nat):Prop:=w.ownsRow base 131 2 v o.length (prCs B o)
theorem qMg:(Tryz.prog.info? 131).map (fun i=>(i.zero,i.size,i.bytes))=some (some (.agg #[.int .i64 0, .int .i64 0]),2,16):=by kernel_rfl
theorem qIY {w:World} {ops:Array Oper} {rest:List Oper} {o:Oper} {a:Act} {R:Exit→Act→World→Prop} (dH:o.guard=none) (s x:Operand)
  (ho:o.op= .call {callee:= .builtin .append,args:= #[s,x],argTypes:= #[132,132]})
  (base:Nat) (v:Value) (B:Nat) (es:List Nat) (aa:OwPr w base v B es) (hs:a.eval s=v) (b:Nat) (e:Nat) (hx:a.eval x= .slice (some ⟨b,0,none⟩) 1 1)
  (hc: ∀j u,(prC B e)[j]? =some u→w.cell? ⟨b,j,none⟩=some u) (hl:es.length≤1073741824) (ao:base≤w.heap.size)
  (h: ∀v' w',OwPr w' base v' B (es++ [e])→w.grownBy w' v.ownBlock→(v'.ownBlock=v.ownBlock∨v'.ownBlock=some w.heap.size)→wpList Tryz.prog ops R rest (a.put o.dst v') w'):
  wpList Tryz.prog ops R (o::rest) a w:=by
 obtain⟨i0,cE,cD,bI,cj⟩:=info_parts qMg;refine wpList_append_own_at _ dH s x 132 ho base 131 i0 _ 2 16 Tryz.underlying132 cE cD bI cj rfl (by decide) v es.length (prCs B es) hs aa ⟨b,0,none⟩ 1 1 (prC B e) hx rfl ?_ ?_ (by unfold maxLen;omega) tO ao ?_
 ·intro j u hj;rw[Addr.add_lit,zaL];exact hc j u hj
 ·intro u hu;simp[prC] at hu
  rcases hu with rfl | rfl<;>rfl
 ·intro v' w' h1 h2 h3 h5;refine h v' w' ?_ h2 h5;unfold OwPr;rw[qLT,zae];exact h1
open Go.Maps in
theorem arrP:Go.WideMaps.ArrKey Tryz.prog 131 3 2:=⟨Tryz.underlying131,by kernel_rfl,by kernel_rfl,by kernel_rfl⟩
theorem lawP:Go.Maps.Keyed Tryz.prog 131:=Go.Maps.Keyed.of_law arrP.law
theorem qNU (w:World):(zeroValue 3).run Tryz.prog w= .ok (.int .i64 0) w:=by kernel_rfl
def kp (s t:Int):Lit:= .string (keyBytes [.int .i64 s, .int .i64 t])
theorem qJx {s:Int} (h:I64 s):(Lit.int .i64 s).wf=true:=by
 unfold I64 at h;simpa[Lit.wf,IntKind.min,IntKind.max,IntKind.signed,IntKind.bits] using h
theorem qIJ {s t:Int} (hs:I64 s) (ht:I64 t):keyOf Tryz.prog 131 (.agg #[.int .i64 s, .int .i64 t])=some (kp s t):=
 Go.WideMaps.keyOf_pair arrP Tryz.underlying3 ⟨Tryz.prog.types.size-1,by kernel_rfl⟩ (qJx hs) (qJx ht)
theorem qOz {s t s' t':Int} (hs:I64 s) (ht:I64 t) (hs':I64 s') (ht':I64 t') (h:kp s t=kp s' t'):s=s'∧t=t':=by
 have h1:=qIJ hs ht;have h2:=qIJ hs' ht';rw[←h] at h2;have:=lawP.inj h1 h2
 simpa using this
theorem qCT {n:Nat} (h:n≤1000000):I64 (n:Int):=by unfold I64;omega
theorem qNh {s t:Int} (hs:I64 s) (ht:I64 t):WideAt.IsKeyLit (kp s t):=lawP.key (qIJ hs ht)
structure MapI (B:Nat) (D:DataW Unit) (o:List Nat):Prop where
 im:Go.Maps.IsMap D
 has: ∀s t:Nat,s≤40→t<B→Go.Maps.has D (kp (s:Int) (t:Int))=decide (s*B+t∈o)
 at_: ∀s t:Nat,s≤40→t<B→s*B+t∈o→D.atKey (kp (s:Int) (t:Int)) (.lit (.int .i64 0))= .lit (.int .i64 ((o.idxOf (s*B+t):Nat):Int))
theorem MapI.nil (B:Nat):MapI B (.map []) []:=⟨Go.Maps.isMap_empty,fun s t _ _=>by simp[Go.Maps.has],fun s t _ _ h=>by cases h⟩
theorem qJt {B s t s' t':Nat} (ht:t<B) (ht':t'<B) (h:s*B+t=s'*B+t'):s=s'∧t=t':=by
 have hB:0<B:=tO;have h1:(s*B+t)/B=s:=by rw[zaF,zaK hB,zaI ht];omega
 have h2:(s'*B+t')/B=s':=by rw[zaF,zaK hB,zaI ht'];omega
 have h3:s=s':=by rw[←h1,←h2,h]
 subst h3;exact⟨rfl,tO⟩
theorem MapI.put {B:Nat} {D:DataW Unit} {o:List Nat} (h:MapI B D o) (hB:B≤40) {s t:Nat} (hs:s≤40) (ht:t<B) (hn:s*B+t∉o):
  MapI B (D.put (kp (s:Int) (t:Int)) (.lit (.int .i64 (o.length:Int)))) (o++ [s*B+t]):=by
 have i1:=qCT (n:=s) tO;have i2:=qCT (n:=t) tO;have hk:=qNh i1 i2;have ne: ∀s' t':Nat,s'≤40→t'<B→s'*B+t'≠s*B+t→kp (s':Int) (t':Int)≠kp (s:Int) (t:Int):=fun s' t' hs' ht' ai e=>by
  have:=qOz (qCT (n:=s') tO) (qCT (n:=t') tO) i1 i2 e
  have e1:s'=s:=tO;have e2:t'=t:=tO;exact ai (by rw[e1,e2])
 refine⟨h.im.put _ _,fun s' t' hs' ht'=> ?_,fun s' t' hs' ht' hm=> ?_⟩
 ·by_cases e:s'*B+t'=s*B+t
  ·obtain⟨rfl,rfl⟩:=qJt ht' ht e;rw[Go.Maps.has_put_same h.im hk];simp
  ·rw[Go.Maps.has_put_other (ne s' t' hs' ht' e),h.has s' t' hs' ht'];simp[e]
 ·by_cases e:s'*B+t'=s*B+t
  ·obtain⟨rfl,rfl⟩:=qJt ht' ht e;rw[Go.Maps.atKey_put_same h.im hk,zaQ,if_neg hn];simp
  ·have mj:s'*B+t'∈o:=by
    rcases za6.1 hm with hm | hm
    ·exact hm
    ·exact absurd (zaq.1 hm) e
   rw[Go.Maps.atKey_put_other (ne s' t' hs' ht' e),h.at_ s' t' hs' ht' mj,zaQ,if_pos mj]
theorem qLo {P:Program} (w:World) {ops:Array Oper} {rest:List Oper} {o:Oper} {a:Act} {Q:Exit→Act→World→Prop}
  (hg:o.guard=none) (m x v:Operand) (t:TypeId) (kg:o.op=Op.insert t m x v)
  (k e:TypeId) (K:Go.Maps.Keyed P k) (ht:P.underlying t=some (.map k e)) (R:Value→Option (DataW Unit×List MemPlace)) (b n:Nat) (D:DataW Unit)
  (hm:a.eval m= .map (some b)) (aa:w.ownsMap P k R b n D) (hn:n<maxLen) (key val:Value) (kl:Lit) (hx:a.eval x=key) (hv:a.eval v=val) (hkey:keyOf P k key=some kl)
  (d:DataW Unit) (ps:List MemPlace) (pU:R val=some (d,ps))
  (hK: ∀w',w'.ownsMap P k R b (n+1) (D.put kl d)→w.grownBy w' (some b)→wpList P ops Q rest (a.put o.dst undef) w'):wpList P ops Q (o::rest) a w:=by
 refine wpList_plain hg fun K' hK'=> ?_;obtain⟨w',fu,r1,r2⟩:=aa.update K ht hn hkey pU;unfold Oper.wp;simp[execOp,kg,hm,hx,hv,fu,Result.andThen]
 exact hK' _ _ (hK w' r1 r2)
theorem qHJ {ea eb:List EdD} {B:Nat} (ls:List Int): ∀(f i:Nat) (o:List Nat) (j y:Nat),o[j]? =some y→(bfsF ea eb B ls f i o)[j]? =some y
 | 0,_,_,_,_,h=>h
 | f+1,i,o,j,y,h=>by
   rw[bfsF];cases hi:o[i]? with
   | none=>exact h
   | some p=>
     have:=qAU (a:=(0,0,ea)) (b:=(0,0,eb)) (B:=B) ls p o h
     exact qHJ ls f _ _ j y this
theorem qNI {ea eb:List EdD} {B:Nat} (ls:List Int) (f:Nat) (o:List Nat):bfsF ea eb B ls f o.length o=o:=by
 cases f with
 | zero=>rfl
 | succ f=>rw[bfsF,zaW (zah _)]
theorem qNV {ea eb:List EdD} {B:Nat} (ls:List Int) {f i:Nat} {o:List Nat} {p:Nat} (h:o[i]? =some p):bfsF ea eb B ls (f+1) i o=bfsF ea eb B ls f (i+1) (ls.foldl (pst ea eb B p) o):=by
 rw[bfsF,h]
theorem qLB {o P:List Nat} (hP:P.Nodup) (h: ∀j y:Nat,o[j]? =some y→P[j]? =some y) {q:Nat} (hq:q∈o):P.idxOf q=o.idxOf q:=by
 have h1:=zaj hq;have h2:=h _ _ (zak h1);rw[zau h1] at h2;obtain⟨h3,h4⟩:=zai.1 h2;have h5:q∈P:=by rw[←h4];exact zas _
 have h6:=zaj h5;exact qCe hP h6 h3 (by rw[zau h6,h4])
def peF (ea eb:List EdD) (B:Nat) (P:List Nat) (k:Nat) (l:List Int):List EdD:=l.filterMap fun x=>if 0<x then peE ea eb B P k x else none
theorem qGg (ea eb:List EdD) (B:Nat) (P:List Nat) (k:Nat): ∀r,peF ea eb B P k (qG r)=peR ea eb B P k r
 | 0=>rfl
 | r+1=>by
   have h1:peF ea eb B P k (qG (r+1))=peF ea eb B P k (qG r)++peF ea eb B P k [(r:Int)+1,-((r:Int)+1)]:=by
    rw[show qG (r+1)=qG r++ [(r:Int)+1,-((r:Int)+1)] from rfl];unfold peF;rw[zaJ]
   have h2:peF ea eb B P k [(r:Int)+1,-((r:Int)+1)]=(peE ea eb B P k ((r:Int)+1)).toList:=by
    unfold peF;rw[zaY,if_pos (by omega:(0:Int)<(r:Int)+1)];have h3:List.filterMap (fun x=>if 0<x then peE ea eb B P k x else none) [-((r:Int)+1)]= []:=by
     rw[zaY,if_neg (by omega: ¬(0:Int)< -((r:Int)+1))];rfl
    rw[h3];cases peE ea eb B P k ((r:Int)+1)<;>rfl
   rw[h1,h2,qGg ea eb B P k r,qHe]
theorem qNl (ea eb:List EdD) (B:Nat) (P:List Nat) (k:Nat) (ls:List Int) (m:Nat) (h:m<ls.length):peF ea eb B P k (ls.take (m+1))=peF ea eb B P k (ls.take m)++(if 0<ls[m] then peE ea eb B P k ls[m] else none).toList:=by
 unfold peF;rw[zao h,zaJ];congr 1
theorem qPH (ea eb:List EdD) (B:Nat) (P:List Nat) (k:Nat) (l:List Int):(peF ea eb B P k l).length≤l.length:=zaS _ _
theorem CBx.put {w:World} {p base':Nat} {z:Value} {A':Option Addr} {c':Nat} {r n:Int} {ms:List EdD} (h:CBx w p (.int .i64 r) (.int .i64 n) z) (o:OwE w base' (.slice A' ms.length c') ms) (hn: ∀b,(zac A' ms.length c').ownBlock=some b→b≠p) (h1:I64 r) (h2:I64 n):
  GBx (w.setCell ⟨p,2,none⟩ (.slice A' ms.length c')) p base' A' c' (r,n,ms):=
 ⟨(zam _ _ _ _ (by simp)).trans h.c0,(zam _ _ _ _ (by simp)).trans h.c1,zaG _ _ _ h.c2,fun j=>by rw[zaB];exact h.fz j,o.keep fun b hb=>zav _ _ _ b (hn b hb),hn,h1,h2,by simpa using h.lt⟩
theorem qLK {k B m:Nat} (hm:m<B):prC B (k*B+m)= [.int .i64 k, .int .i64 m]:=by
 unfold prC;rw[zaF,zaK tO,zaI hm,za5,za0 hm,Nat.add_zero]
theorem qLt (w:World) {base k m B:Nat} (hb:base≤w.heap.size) (hm:m<B):OwPr (w.alloc (.cells #[.int .i64 k, .int .i64 m] 131)) base (.slice (some ⟨w.heap.size,0,none⟩) 1 1) B [k*B+m]:=by
 have:=World.ownsRow_lit (e:=131) (size:=2) w #[.int .i64 k, .int .i64 m] 1 hb (by unfold maxLen;omega) (by simp)
 unfold OwPr prCs;simp only[zaN,List.map_nil,zaP,List.flatten_nil,List.append_nil,qLK hm,za2,List.length_nil,zaL];simpa using this
open Go.Maps in
theorem qEa (va vb:Value) (a b:GrD) (u v:Nat) (w:World) (ha:ArgG w va a) (hb:ArgG w vb b) (cY:qb a=true) (d6:qb b=true) (hu:(u:Int)<a.2.1) (hv:(v:Int)<b.2.1):
  Calls Tryz.prog 95 #[va,vb, .int .i64 (u:Int), .int .i64 (v:Int)] w fun e w'=> ∃r,e= .returned (.tuple #[r, .bool (qAw a b u v).2])∧OwG w' w.heap.size r (qAw a b u v).1∧Below w.heap.size w w':=by
 have dI:=qA ha;have aI:=qA hb;have fd:=qA cY;have rO:=qA d6;have cO:=qBk cY d6;have rH:=cO.bd;have bn:=(qB cO.ga).1;obtain⟨pn,pl,p1,lw,pcl⟩:=qDW cY d6 hu hv;have uy:Hid (a.1≠b.1→qAw a b u v=((0,0,[]),false)):=qA fun h=>by unfold qAw;rw[if_neg fun q=>h q.1]
 have jb:Hid (pbOk a b u v=false→qAw a b u v=((0,0,[]),false)):=qA fun h=>by unfold qAw;rw[if_neg fun q=>by rw[h] at q;exact absurd q.2 (by decide)]
 have fO:Hid (a.1=b.1→pbOk a b u v=true→qAw a b u v=(pbG a b u v,true)):=qA fun h1 h2=>by unfold qAw;rw[if_pos ⟨h1,h2⟩]
 have xk:Hid (pbG a b u v=(a.1,((pbP a b u v).length:Int),srt cmpE (peL a.2.2 b.2.2 b.2.1.toNat a.1.toNat (pbP a b u v) (pbP a b u v).length))):=qA rfl;have k7:Hid (pbOk a b u v=(decide ((pbP a b u v).length≤40)&&decide ((peL a.2.2 b.2.2 b.2.1.toNat a.1.toNat (pbP a b u v) (pbP a b u v).length).length≤120))):=qA rfl;have Gi:Hid (pbP a b u v=bfsF a.2.2 b.2.2 b.2.1.toNat (qG a.1.toNat) (a.2.1.toNat*b.2.1.toNat+1-0) 0 [u*b.2.1.toNat+v]):=qA rfl;have xl:Hid (∀n,(peL a.2.2 b.2.2 b.2.1.toNat a.1.toNat (pbP a b u v) n).length≤n*a.1.toNat):=qA fun n=>qMI _ _ _ _ _ n;have nJ:inB (u:Int) 0 (wrap64 (a.2.1-1))=true:=by
  rw[IntWalk.wrap64_in _ ⟨tO,tO⟩];exact qAC.2 ⟨tO,tO⟩
 have oy:inB (v:Int) 0 (wrap64 (b.2.1-1))=true:=by
  rw[IntWalk.wrap64_in _ ⟨tO,tO⟩];exact qAC.2 ⟨tO,tO⟩
 have oX:=qA nJ;have dL:=qA oy;generalize qAw a b u v=RES at*;generalize pbG a b u v=PG at*;generalize pbOk a b u v=PO at*;generalize pbP a b u v=P at*;have mm:=qA cO;have rD:=qA pl;have EB:=qA pn;have OA:=qA (qp cO.fa);have OB:=qA (qp cO.fb);have LA:=qA (qAn cO.ga);have LB:=qA (qAn cO.gb);have mP:=qA (qO cO.ga);have fp:=qA (qO cO.gb);have y9:=qA (fun (p q:Nat) (x:Int) h=>qIl (p:=p) (q:=q) (x:=x) cO h);obtain⟨sa,rfl,iR,iQ,dJ⟩:=ha;obtain⟨A,ca,rfl⟩:=dJ.form;obtain⟨sb,rfl,iI,iZ,cA⟩:=hb;obtain⟨B,cb,rfl⟩:=cA.form;obtain⟨a1,a2,as'⟩:=a;obtain⟨b1,b2,bs⟩:=b;obtain⟨rn,rfl⟩: ∃rn:Nat,a1=(rn:Int):=⟨a1.toNat,by simp only at bn;omega⟩;obtain⟨na,rfl⟩: ∃n:Nat,a2=(n:Int):=⟨a2.toNat,by have:=cO.sa;simp only at this;omega⟩;obtain⟨nb,rfl⟩: ∃n:Nat,b2=(n:Int):=⟨b2.toNat,by have:=cO.sb;simp only at this;omega⟩;simp only[zaA] at*;clear dJ cA cY d6 cO pl pn pcl nJ oy;go_enter Tryz.func95,Tryz.ntmps95
 go_wp2_with fail;obtain⟨W1,an⟩: ∃W,W=w.alloc (.cells #[.int .i64 (rn:Int),.int .i64 (na:Int), .slice A as'.length ca] 26):=⟨_,rfl⟩;rw[←an];obtain⟨x1,eS,s1⟩:=CBx.new an;obtain⟨W2,aD⟩: ∃W,W=W1.alloc (.cells #[.int .i64 b1,.int .i64 (nb:Int), .slice B bs.length cb] 26):=⟨_,rfl⟩;rw[←aD];obtain⟨x2,cI,s2⟩:=CBx.new aD;obtain⟨W,hW⟩: ∃W,W=W2.alloc (.cells #[.int .i64 0,.int .i64 0, .slice none 0 0] 26):=⟨_,rfl⟩;rw[←hW];obtain⟨x3,iW,s3⟩:=CBx.new hW;have XA:=qA ((x1.below cI).below iW);have XB:=qA (x2.below iW);have XR:=qA x3;rw[s1] at XB;rw[s2,s1] at XR;have BX:Hid (Below w.heap.size w W):=qA (eS.trans ((cI.trans (iW.mono tO)).mono tO));have aW:W.heap.size=w.heap.size+3:=tO;clear hW an aD eS cI iW x1 x2 x3 s1 s2 s3;have HA:Hid (∀w',Below W.heap.size W w'→ArgG w' (.agg #[.int .i64 (rn:Int), .int .i64 (na:Int), .slice A as'.length ca]) ((rn:Int),(na:Int),as')):=qA fun w' hb=>dI.out.below (BX.out.trans (hb.mono tO));have HB:Hid (∀w',Below W.heap.size W w'→ArgG w' (.agg #[.int .i64 b1, .int .i64 (nb:Int), .slice B bs.length cb]) (b1,(nb:Int),bs)):=qA fun w' hb=>aI.out.below (BX.out.trans (hb.mono tO));have h1:=qAP _ ((rn:Int),(na:Int),as') W (HA.out W (zab _ _));rw[fd.out] at h1;refine h1.mono ?_;clear h1;rintro e w1 ⟨rfl,dU⟩;have B1:=qA dU;obtain⟨u0,u1,u2⟩:=(XB.out.below dU).cs;have fL:=dU.size;have dR:w.heap.size+1<w1.heap.size:=tO;clear dU;go_wp2_with fail;have h1:=qAP _ (b1,(nb:Int),bs) w1 (HB.out w1 B1.out);rw[rO.out] at h1;refine h1.mono ?_;clear h1 u0 u1 u2;rintro e w2 ⟨rfl,da⟩;have B2:=qA (B1.out.trans (da.mono B1.out.size));have pD:=da.size;clear da;obtain⟨u0,u1,u2⟩:=(XA.out.below B2.out).cs;obtain⟨v0,v1,v2⟩:=(XB.out.below B2.out).cs;obtain⟨z0,z1,z2⟩:=(XR.out.below B2.out).cs;have fA:=(XR.out.below B2.out).fz 0;have fc:=(XR.out.below B2.out).fz 1;have eJ:=(XR.out.below B2.out).fz 2;have pO:w.heap.size<w2.heap.size:=tO;have mn:w.heap.size+1<w2.heap.size:=tO;have lR:w.heap.size+1+1<w2.heap.size:=tO;rcases er:((rn:Int) != b1) with _ | _
 rotate_left
 ·have kH:(rn:Int)≠b1:=by simpa using er
  have F:=qA (uy.out kH);have aj:=qA (BX.out.trans (B2.out.mono tO));go_wp2;obtain⟨e0,e1,e2⟩:=qi (.int .i64 0) (.int .i64 0) (.slice none 0 0) z0 z1 z2;have bw:Below w.heap.size w (((w2.setCell ⟨w.heap.size+1+1,0,none⟩ (.int .i64 0)).setCell ⟨w.heap.size+1+1,1,none⟩ (.int .i64 0)).setCell ⟨w.heap.size+1+1,2,none⟩ (.slice none 0 0)):=qL _ _ _ aj.out tO;generalize (((w2.setCell ⟨w.heap.size+1+1,0,none⟩ (.int .i64 0)).setCell ⟨w.heap.size+1+1,1,none⟩ (.int .i64 0)).setCell ⟨w.heap.size+1+1,2,none⟩ (.slice none 0 0))=wf at*;rw[F.out];exact bodyPost_ret (v:= .tuple #[.agg #[.int .i64 0, .int .i64 0, .slice none 0 0], .bool false]) (by simp[results,Tryz.results95,go_sem,e0,e1,e2]) rfl ⟨_,rfl,⟨.slice none 0 0,rfl,⟨by decide,by decide⟩,⟨by decide,by decide⟩,OwE.nil⟩,bw⟩
 have kH:(rn:Int)=b1:=by simpa using er
 subst kH;have tX:Hid (PO=true→RES=(PG,true)):=qA fun h=>fO.out rfl h;clear er uy fO z0 z1 z2 fA fc eJ;go_wp2_with fail;refine(qCX _ _ _ _ _ _ _).mono ?_
 rintro e w3 ⟨rfl,cX⟩;rw[oX.out];have B3:=qA (B2.out.trans (cX.mono B2.out.size));have sX:=cX.size;clear cX u0 u1 u2 v0 v1 v2;obtain⟨u0,u1,u2⟩:=(XB.out.below B3.out).cs;have Fv:w.heap.size+1<w3.heap.size:=tO;go_wp2_with fail;refine(qCX _ _ _ _ _ _ _).mono ?_
 rintro e w4 ⟨rfl,ci⟩;rw[dL.out];have B4:=qA (B3.out.trans (ci.mono B3.out.size));have d9:=ci.size;clear ci u0 u1 u2;have u0:=(XA.out.below B4.out).c0;have DA:w.heap.size<w4.heap.size:=tO;have zD:I64 (u:Int):=qCT tO;have zp:I64 (v:Int):=qCT tO;have MX:=qA (qIJ zD zp);have CV:= @run_makeMap Tryz.prog;have P8:=qA (World.ownsMap_made w4 Tryz.prog 131 (plainElem (H:=Unit) Tryz.prog 3));clear zD zp;go_wp2_with (refine qLo _ rfl _ _ _ 133 rfl 131 3 lawP Tryz.underlying133 _ w4.heap.size 0 _ rfl P8.out (by unfold maxLen;omega) _ _ (kp (u:Int) (v:Int)) rfl rfl MX.out _ [] (plainElem_int Tryz.underlying3 (by decide)) ?_;intro w5 hown5 hgrow5;have B5:Hid (Below w4.heap.size w4 w5):=qA (((zab w4.heap.size w4).alloc (zah _) _).grown hgrow5 (by simp) (fun j hj=>by cases hj;exact zah _));clear u0;have u0:=(XA.out.below (B4.out.trans (B5.out.mono B4.out.size))).c0;have MJ:w.heap.size<w5.heap.size:=by(have:=B5.out.size;omega))
 have gd:w4.heap.size<w5.heap.size:=hown5.lt;obtain⟨W6,dW⟩: ∃W,W=w5.alloc (.cells #[.int .i64 (u:Int), .int .i64 (v:Int)] 131):=⟨_,rfl⟩;have Kd:OwPr W6 (w4.heap.size+1) (.slice (some ⟨w5.heap.size,0,none⟩) 1 1) nb [u*nb+v]:=by
  rw[dW];exact qLt w5 tO tO
 have b6:Below w5.heap.size w5 W6:=by rw[dW];exact(zab _ _).alloc (zah _) _
 have iD:W6.heap.size=w5.heap.size+1:=by rw[dW];simp
 rw[←dW];obtain⟨W7,pd⟩: ∃W,W=W6.alloc (.cells #[.int .i64 (rn:Int),.int .i64 0, .slice none 0 0] 26):=⟨_,rfl⟩;have pw:=qA (GBx.new (m:=((rn:Int),0,[])) (base:=W6.heap.size+1) (A:=none) (c:=0) OwE.nil (by unfold I64;simp only;omega) (by unfold I64;simp only;omega) pd);obtain⟨_,b7,lB⟩:=CBx.new pd;rw[←pd];have MV:Hid (OwPr W7 (w4.heap.size+1) (.slice (some ⟨w5.heap.size,0,none⟩) 1 1) nb [u*nb+v]):=qA (qu Kd b7);have Oz:Hid (MapI nb ((DataW.map []).put (kp (u:Int) (v:Int)) (.lit (.int .i64 0))) [u*nb+v]):=qA (by
  have:=(MapI.nil nb).put tO (s:=u) (t:=v) tO tO (by simp)
  simpa using this)
 have tu:=qA ((hown5.kept (qAV (row:=none) b6) (by simp)).kept (qAV (row:=none) b7) (by simp));have Qz:w4.heap.size+1≤w5.heap.size:=gd;have B7:Hid (Below w4.heap.size w4 W7):=qA (B5.out.trans ((b6.trans (b7.mono tO)).mono tO));obtain⟨p,hp⟩: ∃p,p=W6.heap.size:=⟨_,rfl⟩;rw[←hp] at pw;have Kk:p=w5.heap.size+1:=tO;have lA:Hid (∀w',Below w4.heap.size w4 w'→Below W.heap.size W w'):=qA fun w' hb=>B4.out.trans (hb.mono B4.out.size);have gw:Hid (∀w',Below w4.heap.size w4 w'→CBx w' w.heap.size (.int .i64 (rn:Int)) (.int .i64 (na:Int)) (.slice A as'.length ca)∧CBx w' (w.heap.size+1) (.int .i64 (rn:Int)) (.int .i64 (nb:Int)) (.slice B bs.length cb)):=qA fun w' hb=>⟨XA.out.below (lA.out w' hb),XB.out.below (lA.out w' hb)⟩;have cR:Hid (∀W:World,Calls Tryz.prog 79 #[.int .i64 (rn:Int)] W fun e w'=> ∃r,e= .returned r∧OwI w' W.heap.size r (qG rn)∧Below W.heap.size W w'):=qA fun W=>qCA rn W tO;have dT:=qy rn;have OR:(qG rn).length≤6:=tO;have NU:1≤(qG rn).length:=tO;have gZ:Hid (∀x∈qG rn,-3≤x∧x≤3):=qA fun x hx=>by have:=qX.1 hx;omega
 have Ey:=qA (fun k=>qGg as' bs nb P k rn);have yp:=qA (fun (o:List Nat) (h1:o.Nodup) (h2: ∀q∈o,q<na*nb)=>qDh h1 h2);have Cq:na*nb≤1600:=zar rH.1.2 rH.2.2;have Fm:u*nb+v<na*nb:=qEU tO tO;clear dT dW pd hown5 hgrow5 Kd b6 b7 u0 CV;generalize qG rn=ls at*;have sG:w5.heap.size+1=p:=Kk.symm;go_wp2;rw[sG];have M2:p≤w5.heap.size+1:=tO;have MH:w5.heap.size+1≤p:=tO;have K8:p≤W6.heap.size:=tO;have Lv:W7.heap.size≤p+1∧p+1≤W7.heap.size:=tO;clear sG Kk hp iD lB;go_loopw [11,13] (fun vo i wr=> ∃(k:Nat) (o:List Nat) (D:DataW Unit) (A2:Option Addr) (c2:Nat),k≤o.length∧i= .int .i64 k∧o.Nodup∧(∀q∈o,q<na*nb)∧P=bfsF as' bs nb ls (na*nb+1-k) k o∧OwPr wr (w4.heap.size+1) vo nb o∧wr.ownsMap Tryz.prog 131 (plainElem (H:=Unit) Tryz.prog 3) w4.heap.size o.length D∧MapI nb D o∧GBx wr p (p+1) A2 c2 ((rn:Int),0,peL as' bs nb rn P k)∧(∀b,vo.ownBlock=some b→b≠p∧(zac A2 (peL as' bs nb rn P k).length c2).ownBlock≠some b)∧Below w4.heap.size w4 wr) (fun _ i _=>1601-(intOf i).toNat)
 case atStart=>exact⟨0,[u*nb+v],_,none,0,zay _,rfl,by simp,fun q hq=>by rw[zaq.1 hq];exact Fm,Gi.out,MV.out,tu.out,Oz.out,pw.out.mono tO,fun b hb=>⟨by simp[zad] at hb;omega,by simp[zad,peL]⟩,B7.out⟩
 case round=>
  obtain⟨k,o,D,A2,c2,hk,rfl,eL,dh,hP,kg,il,no,a8,jq,aZ⟩:=hrel;obtain⟨wk,rfl⟩: ∃wk:World,wk=wr:=⟨_,rfl⟩;have gV:=yp.out o eL dh;have lE:=qA eL;have rY:=qA dh;have mu:=qA hP;have uH:=qA kg;have dQ:=qA il;have ly:=qA no;have aI:=qA a8;have d8:=qA jq;have dV:=qA aZ;have mQ:=aZ.size;obtain⟨Ao,co,rfl,eT,lK,_,aO⟩:=qAY kg;clear eL dh hP kg il no a8 jq aZ;by_cases ac:k<o.length
  ·obtain⟨pk,oH⟩: ∃pk,o[k]? =some pk:=⟨o[k],zak ac⟩;have pm:=rY.out pk (zaD oH);have dk:Hid (∀m:Nat,((ls.take m).foldl (pst as' bs nb pk) o)[k]? =some pk):=qA fun m=>qAU (a:=((rn:Int),(na:Int),as')) (b:=((rn:Int),(nb:Int),bs)) (B:=nb) _ _ _ oH;have cS:Hid (P=bfsF as' bs nb ls (na*nb+1-(k+1)) (k+1) (ls.foldl (pst as' bs nb pk) o)):=qA (by
    have h:=mu.out;rw[show na*nb+1-k=(na*nb+1-(k+1))+1 by omega,qNV _ oH] at h;exact h)
   have mR:Hid (∀j y:Nat,(ls.foldl (pst as' bs nb pk) o)[j]? =some y→P[j]? =some y):=qA fun j y h=>by rw[cS.out];exact qHJ _ _ _ _ _ _ h
   have Ff:Hid (∀m:Nat,∀j y:Nat,((ls.take m).foldl (pst as' bs nb pk) o)[j]? =some y→P[j]? =some y):=qA fun m j y h=>by
    refine mR.out j y ?_;have e:ls.foldl (pst as' bs nb pk) o=(ls.drop m).foldl (pst as' bs nb pk) ((ls.take m).foldl (pst as' bs nb pk) o):=by rw[←zaH,List.take_append_drop]
    rw[e];exact qAU (a:=((rn:Int),(na:Int),as')) (b:=((rn:Int),(nb:Int),bs)) (B:=nb) _ _ _ h
   have nT:Hid (P.getD k 0=pk):=qA (by
    have h1:=Ff.out 0 k pk (by simpa using oH);rw[List.getD_eq_getElem?_getD,h1];rfl)
   have mr:Hid (∀m:Nat,((ls.take m).foldl (pst as' bs nb pk) o).Nodup):=qA fun m=>qCr (a:=((rn:Int),(na:Int),as')) (b:=((rn:Int),(nb:Int),bs)) (B:=nb) _ _ _ lE.out;have tV:Hid (∀m:Nat,∀q∈(ls.take m).foldl (pst as' bs nb pk) o,q<na*nb):=qA fun m=>qEd (a:=((rn:Int),(na:Int),as')) (b:=((rn:Int),(nb:Int),bs)) (B:=nb) (ls:=ls.take m) (S:=fun q=>q<na*nb) (fun p x q _ _ hq=>y9.out p q x hq) pm (ls.take m) o (fun _ h=>h) rY.out;have Hy:Hid (∀m:Nat,∀q∈(ls.take m).foldl (pst as' bs nb pk) o,P.idxOf q=((ls.take m).foldl (pst as' bs nb pk) o).idxOf q):=qA fun m q hq=>qLB EB.out (Ff.out m) hq;have gH:Hid (∀(m:Nat) (hm:m<ls.length),(ls.take (m+1)).foldl (pst as' bs nb pk) o=pst as' bs nb pk ((ls.take m).foldl (pst as' bs nb pk) o) ls[m]):=qA fun m hm=>by
    rw[zao hm,zaH];rfl
   have jM:Hid (∀(m:Nat) (hm:m<ls.length),ls[m]∈ls):=qA fun m hm=>zas hm;have NC:Hid (∀(m:Nat) (hm:m<ls.length),peF as' bs nb P k (ls.take (m+1))=peF as' bs nb P k (ls.take m)++(if 0<ls[m] then peE as' bs nb P k ls[m] else none).toList):=qA fun m hm=>qNl _ _ _ _ _ _ _ hm;have jk:Hid (∀m:Nat,(peF as' bs nb P k (ls.take m)).length≤6):=qA fun m=>zax (qPH _ _ _ _ _ _) (by rw[za3];omega);obtain⟨un,d4⟩: ∃un,un=pk/nb:=⟨_,rfl⟩;obtain⟨vn,kz⟩: ∃vn,vn=pk%nb:=⟨_,rfl⟩;have ip:=qA d4;have pH:=qA kz;have QB:k<1600:=tO;have sZ:Hid ((peL as' bs nb rn P k).length≤4800):=qA (by
    have h1:=xl.out k;have h2:=zar (show k≤1600 by omega) (show rn≤3 by omega);omega)
   have xC:=qA (qFe as' bs nb rn P k);have DS:=qA (Ey.out k);obtain⟨BL,yC⟩: ∃L,peL as' bs nb rn P k=L:=⟨_,rfl⟩;rw[yC] at sZ xC aI d8;obtain⟨bo,rfl,P3,PP⟩:=aO tO;have u0:=(gw.out wk dV.out).1.c0;clear yC d4 kz oH aO;go_wp2_with fail;refine(cR.out wk).mono ?_
   rintro e wl ⟨rl,rfl,ol,bL⟩;have Cm:=bL.size;have FP:Hid (OwPr wl (w4.heap.size+1) (.slice (some ⟨bo,0,none⟩) o.length co) nb o):=qA (qu uH.out bL);have Gt:=qA (dQ.out.kept (qAV (row:=none) bL) (by simp));have Fy:=qA (aI.out.below bL);have BLB:=qA (dV.out.trans (bL.mono mQ));obtain⟨Al,capl,rfl,cU,cV,_,dC⟩:=ol.form;obtain⟨bl,rfl,jR,dw⟩:=dC tO;unfold maxLen at cV;have OL:=qA ol.rd;have MQ:=aI.out.lt;have PT:Hid (∀b,(zac A2 BL.length c2).ownBlock=some b→b<wk.heap.size):=qA fun b hb=>(aI.out.ow.1.lt b hb).2;clear ol bL dC u0;go_wp2;go_loopw [11,70] (fun vo j wr=> ∃(m:Nat) (D:DataW Unit) (A2:Option Addr) (c2:Nat),m≤ls.length∧j= .int .i64 m∧OwPr wr (w4.heap.size+1) vo nb ((ls.take m).foldl (pst as' bs nb pk) o)∧wr.ownsMap Tryz.prog 131 (plainElem (H:=Unit) Tryz.prog 3) w4.heap.size ((ls.take m).foldl (pst as' bs nb pk) o).length D∧MapI nb D ((ls.take m).foldl (pst as' bs nb pk) o)∧GBx wr p (p+1) A2 c2 ((rn:Int),0,BL++peF as' bs nb P k (ls.take m))∧(∀b,vo.ownBlock=some b→b≠p∧b≠bl∧(zac A2 (BL++peF as' bs nb P k (ls.take m)).length c2).ownBlock≠some b)∧(zac A2 (BL++peF as' bs nb P k (ls.take m)).length c2).ownBlock≠some bl∧RdI wr (.slice (some ⟨bl,0,none⟩) ls.length capl) ls∧bl<wr.heap.size∧Below w4.heap.size w4 wr) (fun _ j _=>ls.length-(intOf j).toNat)
   case atStart=>exact⟨0,D,A2,c2,zay _,rfl,FP.out,Gt.out,ly.out,by simpa[peF] using Fy.out,fun b hb=>⟨(d8.out b hb).1,by simp[zad] at hb;omega,by simpa[peF] using (d8.out b hb).2⟩,fun e=>by have:=PT.out bl (by simpa[peF] using e);omega,OL.out,dw,BLB.out⟩
   case round=>
    obtain⟨m,D,A2,c2,dj,rfl,kg,il,no,a8,jq,Jb,aN,bN,aZ⟩:=hrel;have uH:=qA kg;have dQ:=qA il;have ly:=qA no;have aI:=qA a8;have d8:=qA jq;have nl:=qA Jb;have jF:=qA aN;have ie:=qA aZ;have hZ:=aZ.size;clear il no a8 jq Jb aZ;by_cases al:m<ls.length
    ·have HS:=qA (gH.out m al);have HF:=qA (NC.out m al);have dC:=jk.out m;have gQ:=qA (gZ.out _ (jM.out m al));have bZ:=dk.out m;have zR:=qA (mr.out m);have BJ:=qA (tV.out m);have fR:=qA (Hy.out (m+1));have Nk:=yp.out _ zR.out BJ.out;obtain⟨bl',offl',dp,_,jB⟩:=aN.at tO;obtain⟨rfl,rfl⟩:bl=bl'∧0=offl':=by simpa using dp
     have c0:=jB m al;rw[zaL] at c0;obtain⟨x,hx⟩: ∃x,ls[m]=x:=⟨_,rfl⟩;rw[hx] at c0 HS HF gQ;obtain⟨FF,Ic⟩: ∃L,peF as' bs nb P k (ls.take m)=L:=⟨_,rfl⟩;rw[Ic] at HF dC aI d8 nl;rw[HS.out] at fR;obtain⟨om,il⟩: ∃om,(ls.take m).foldl (pst as' bs nb pk) o=om:=⟨_,rfl⟩;rw[il] at HS bZ zR BJ Nk kg uH dQ ly fR;clear hx Ic il dp jB aN;have ji:k<om.length:=(zai.1 bZ).1;have lh:om[k]=pk:=by rw[zak ji] at bZ;injection bZ
     obtain⟨At,ct,rfl,tM,Ra,_,Jt⟩:=qAY kg;obtain⟨tb,rfl,vk,Bh⟩:=Jt tO;have KC:wr.cell? ⟨tb,k*2,none⟩=some (.int .i64 un):=by
      have h1:=zan.cellAt kg (k*2+0) tO;rw[qKE nb om k 0 ji tO,lh] at h1;rw[ip.out];exact h1
     have Jz:wr.cell? ⟨tb,k*2+1,none⟩=some (.int .i64 vn):=by
      have h1:=zan.cellAt kg (k*2+1) tO;rw[qKE nb om k 1 ji tO,lh] at h1;rw[pH.out];exact h1
     obtain⟨a0,a1,a2⟩:=(gw.out wr ie.out).1.cs;obtain⟨b0,b1,b2⟩:=(gw.out wr ie.out).2.cs;have Lr:(k:Int)<(om.length:Int):=tO;have mq:Hid (pnx as' bs nb pk x=if 0≤qF as' (un:Int) x∧0≤qF bs (vn:Int) x then some ((qF as' (un:Int) x).toNat*nb+(qF bs (vn:Int) x).toNat) else none):=qA (by unfold pnx;rw[←ip.out,←pH.out]);have rX:Hid (peE as' bs nb P k x=(pnx as' bs nb pk x).map fun q=>((k:Int),x,((P.idxOf q:Nat):Int))):=qA (by unfold peE;rw[nT.out]);have kC:=qA (fun W h=>qh (.agg #[.int .i64 (rn:Int), .int .i64 (na:Int), .slice A as'.length ca]) ((rn:Int),(na:Int),as') (un:Int) x W h (OA.out (un:Int) x) LA.out);have kX:=qA (fun W h=>qh (.agg #[.int .i64 (rn:Int), .int .i64 (nb:Int), .slice B bs.length cb]) ((rn:Int),(nb:Int),bs) (vn:Int) x W h (OB.out (vn:Int) x) LB.out);have zA:=qA (mP.out (un:Int) x);have zm:=qA (fp.out (vn:Int) x);have g0:w.heap.size<wr.heap.size:=tO;have g1:w.heap.size+1<wr.heap.size:=tO;have P7:=aI.out.lt;clear kg Jt bZ lh;go_wp2_with fail;have f0:=BelW.cell a0 g0;have f1:=BelW.cell a1 g0;have f2:=BelW.cell a2 g0;have f3:=BelW.cell b0 g1;have f4:=BelW.cell b1 g1;have f5:=BelW.cell b2 g1;have f6:=BelW.cell KC Bh;have f7:=BelW.cell Jz Bh;(refine qH tK tK ?_;(repeat(go_big_quiet_step (first | (go_at_call 80;with_reducible exact Calls.bel_of (kC.out _ (HA.out _ (lA.out _ (ie.out.trans ((BelW.h _).mono hZ)))))) | (go_at_call 80;with_reducible exact Calls.bel_of (kX.out _ (HB.out _ (lA.out _ (ie.out.trans ((BelW.h _).mono hZ)))))))));refine wpQuiet_nil ?_;intro wq aA;obtain⟨pq,ae⟩:=aA;have bq:=pq.h;rw[←ae] at bq;clear ae pq)
     clear f0 f1 f2 f3 f4 f5 f6 f7 a0 a1 a2 b0 b1 b2 KC Jz c0 g0 g1;have sq:=bq.size;have fU:Hid (OwPr wq (w4.heap.size+1) (.slice (some ⟨tb,0,none⟩) om.length ct) nb om):=qA (qu uH.out bq);have gX:=qA (dQ.out.kept (qAV (row:=none) bq) (by simp));have aV:=qA (aI.out.below bq);have my:=qA (jF.out.below bq);have wY:=qA (ie.out.trans (bq.mono hZ));clear bq;rcases ey:decide (0≤qF as' (un:Int) x∧0≤qF bs (vn:Int) x) with _ | _
     ·have Ah: ¬(0≤qF as' (un:Int) x∧0≤qF bs (vn:Int) x):=by simpa using ey
      have mN:pnx as' bs nb pk x=none:=by rw[mq.out,if_neg Ah]
      have ni:Hid ((ls.take (m+1)).foldl (pst as' bs nb pk) o=om):=qA (by rw[HS.out];unfold pst;rw[mN]);have kY:Hid (peF as' bs nb P k (ls.take (m+1))=FF):=qA (by rw[HF.out,rX.out,mN];simp);generalize qF as' (un:Int) x=y1 at*;generalize qF bs (vn:Int) x=y2 at*;clear mq rX kC kX mN fR HS HF;rcases e1:decide (y1<0) with _ | _
      ·have h1: ¬y1<0:=by simpa using e1
       have h2:y2<0:=by
        apply Classical.byContradiction
        intro h;exact Ah ⟨tO,tO⟩
       go_wp2;go_roundw
       case rel=>exact⟨m+1,D,A2,c2,tO,by go_num,by rw[ni.out];exact fU.out,by rw[ni.out];exact gX.out,by rw[ni.out];exact ly.out,by rw[kY.out];exact aV.out,by rw[kY.out];exact d8.out,by rw[kY.out];exact nl.out,my.out,tO,wY.out⟩
       case measure=>simp[intOf];omega
      ·have h1:y1<0:=by simpa using e1
       go_wp2;go_roundw
       case rel=>exact⟨m+1,D,A2,c2,tO,by go_num,by rw[ni.out];exact fU.out,by rw[ni.out];exact gX.out,by rw[ni.out];exact ly.out,by rw[kY.out];exact aV.out,by rw[kY.out];exact d8.out,by rw[kY.out];exact nl.out,my.out,tO,wY.out⟩
       case measure=>simp[intOf];omega
     ·have tv:0≤qF as' (un:Int) x∧0≤qF bs (vn:Int) x:=by simpa using ey
      have uf:=zA.out;have vF:=zm.out;obtain⟨y1,pf⟩: ∃y:Nat,qF as' (un:Int) x=(y:Int):=⟨(qF as' (un:Int) x).toNat,tO⟩;obtain⟨y2,ux⟩: ∃y:Nat,qF bs (vn:Int) x=(y:Int):=⟨(qF bs (vn:Int) x).toNat,tO⟩;have mN:pnx as' bs nb pk x=some (y1*nb+y2):=by
       rw[mq.out,if_pos tv,pf,ux];rfl
      have ya:=y9.out pk (y1*nb+y2) x mN;rw[pf,ux] at tv⊢;have yX:y1<na:=tO;have kA:y2<nb:=tO;have Ke:pst as' bs nb pk om x=if y1*nb+y2∈om then om else om++ [y1*nb+y2]:=by unfold pst;rw[mN]
      rw[Ke] at HS fR;have nM:Hid (peE as' bs nb P k x=some ((k:Int),x,((P.idxOf (y1*nb+y2):Nat):Int))):=qA (by rw[rX.out,mN];rfl);rw[nM.out] at HF;have wU:=qA (qIJ (qCT (n:=y1) tO) (qCT (n:=y2) tO));have sR:=qA (ly.out.has y1 y2 tO kA);have Pj: ¬(y1:Int)<0:=tO;have Mp: ¬(y2:Int)<0:=tO;have pC:Hid (prC nb (y1*nb+y2)= [.int .i64 (y1:Int), .int .i64 (y2:Int)]):=qA (qLK kA);clear pf ux tv uf vF mN Ke mq rX nM kC kX zA zm ey;rcases ex:decide (0<x) with _ | _
      ·have fJ: ¬0<x:=by simpa using ex
       have kY:Hid (peF as' bs nb P k (ls.take (m+1))=FF):=qA (by rw[HF.out,if_neg fJ];simp);rcases eq:decide (y1*nb+y2∈om) with _ | _
       ·have iY:y1*nb+y2∉om:=by simpa using eq
        have iA:Hid ((ls.take (m+1)).foldl (pst as' bs nb pk) o=om++ [y1*nb+y2]):=qA (by rw[HS.out,if_neg iY]);have y7:=qA (ly.out.put tO (s:=y1) (t:=y2) tO kA iY);rw[eq] at sR;have sg:=qA (qJx (qCT (n:=om.length) tO));clear iY eq ex HF HS fR;obtain⟨qn,mY⟩: ∃q,y1*nb+y2=q:=⟨_,rfl⟩;rw[mY] at iA y7 pC ya;clear mY;go_wp2_with (first
         | (at_lookup;refine wpList_lookup_own_ok_int _ rfl _ _ 133 rfl 131 3 .i64 lawP Tryz.underlying133 Tryz.underlying3 (qNU _) w4.heap.size om.length D rfl gX.out _ (kp (y1:Int) (y2:Int)) rfl wU.out ?_;intro c db hwc;rw[sR.out])
         | (at_mapUpdate;refine wpList_mapUpdate_own _ rfl _ _ _ 133 rfl 131 3 lawP Tryz.underlying133 _ w4.heap.size om.length D rfl gX.out (by unfold maxLen;omega) _ _ (kp (y1:Int) (y2:Int)) rfl rfl wU.out _ [] (plainElem_int Tryz.underlying3 sg.out) ?_;intro w8 hown8 hgrow8;have n4:=hgrow8.size;have uO:Hid (OwPr w8 (w4.heap.size+1) (.slice (some ⟨tb,0,none⟩) om.length ct) nb om):=qA (qEk fU.out fun b e=>hgrow8.block b (by have:=(zan.lt fU.out b e).2;omega) (fun e2=>by have:=(zan.lt fU.out b e).1;cases e2;omega)))
         | (at_builtin;refine qIY rfl (.tmp 113) (.tmp 117) rfl (w4.heap.size+1) _ nb om (qu uO.out ((zab _ _).alloc (zah _) _)) rfl w8.heap.size qn rfl (fun j u hj=>by rw[pC.out] at hj;rcases j with _ | _ | j<;>simp at hj<;>subst hj<;>simp[go_sem]) tO (by simp;omega) ?_;intro v9 w9 o9 g9 p9;have kU:=qA o9;have rJ:w8.heap.size+1≤w9.heap.size:=(by have h:=g9.size;simp at h;omega);have vV:=qA ((hown8.alloc (.cells #[.int .i64 (y1:Int), .int .i64 (y2:Int)] 131)).kept g9 (fun e=>by simp[zad] at e;omega));have oL:Hid (∀b,(zac A2 (BL++FF).length c2).ownBlock=some b→p+1≤b∧b<wq.heap.size):=qA (fun b hb=>aV.out.ow.1.lt b hb);have cH:=qA (((aV.out.grown hgrow8 (fun b hb=>⟨by cases hb;omega,fun e=>by have:=(oL.out b e).1;cases hb;omega⟩)).below ((zab _ _).alloc (zah _) (.cells #[.int .i64 (y1:Int), .int .i64 (y2:Int)] 131))).grown g9 (fun b hb=>⟨(d8.out b hb).1,(d8.out b hb).2.2⟩));have vQ:Hid (RdI w9 (.slice (some ⟨bl,0,none⟩) ls.length capl) ls):=qA (((my.out.grown hgrow8 (fun b hb aJ=>by simp[zad] at hb;cases aJ;omega)).alloc _).grown g9 (fun b hb aJ=>by simp[zad] at hb;exact(d8.out b aJ).2.1 hb.symm));have mk:Hid (Below w4.heap.size w4 w8):=qA (wY.out.grown hgrow8 tO (fun j hj=>by cases hj;exact zah _));have eh:Hid (Below w4.heap.size w4 w9):=qA ((mk.out.alloc tO (.cells #[.int .i64 (y1:Int), .int .i64 (y2:Int)] 131)).grown g9 (by first | omega | (simp<;>omega)) (fun j hj=>by simp[zad] at hj;omega));have gG:Hid (∀b,v9.ownBlock=some b→b≠p∧b≠bl∧(zac A2 (BL++FF).length c2).ownBlock≠some b):=qA (fun b hb=>p9.elim (fun p9=>d8.out b (p9.symm.trans hb)) (fun p9=>(by rw[p9] at hb;have cA:b=w8.heap.size+1:=(by simpa using hb.symm);exact⟨tO,tO,fun e=>by have:=(oL.out b e).2;omega⟩)));obtain⟨A9,c9,uN,_⟩:=qAY kU.out;rw[zae,zaC] at uN;subst uN;clear o9 g9 p9 hown8 hgrow8 db hwc))
        go_roundw
        case rel=>exact⟨m+1,_,A2,c2,tO,by go_num,by rw[iA.out];exact kU.out,by rw[iA.out,zae];exact vV.out,by rw[iA.out];exact y7.out,by rw[kY.out];exact cH.out,by rw[kY.out];exact gG.out,by rw[kY.out];exact nl.out,vQ.out,tO,eh.out⟩
        case measure=>simp[intOf];omega
       ·have iY:y1*nb+y2∈om:=by simpa using eq
        have iA:Hid ((ls.take (m+1)).foldl (pst as' bs nb pk) o=om):=qA (by rw[HS.out,if_pos iY]);rw[eq] at sR;clear iY eq ex HF HS fR;go_wp2_with (first
         | (at_lookup;refine wpList_lookup_own_ok_int _ rfl _ _ 133 rfl 131 3 .i64 lawP Tryz.underlying133 Tryz.underlying3 (qNU _) w4.heap.size om.length D rfl gX.out _ (kp (y1:Int) (y2:Int)) rfl wU.out ?_;intro c db hwc;rw[sR.out]))
        go_roundw
        case rel=>exact⟨m+1,D,A2,c2,tO,by go_num,by rw[iA.out];exact fU.out,by rw[iA.out];exact gX.out,by rw[iA.out];exact ly.out,by rw[kY.out];exact aV.out,by rw[kY.out];exact d8.out,by rw[kY.out];exact nl.out,my.out,tO,wY.out⟩
        case measure=>simp[intOf];omega
      ·have fJ:0<x:=by simpa using ex
       rw[if_pos fJ] at HF;rcases eq:decide (y1*nb+y2∈om) with _ | _
       rotate_left
       ·have iY:y1*nb+y2∈om:=by simpa using eq
        have iA:Hid ((ls.take (m+1)).foldl (pst as' bs nb pk) o=om):=qA (by rw[HS.out,if_pos iY]);rw[if_pos iY] at fR;have hid:=fR.out _ iY;have dS:=zaj iY;obtain⟨jx,ny⟩: ∃j,om.idxOf (y1*nb+y2)=j:=⟨_,rfl⟩;have xL:Hid (∀c:Int,D.atKey (kp (y1:Int) (y2:Int)) (.lit (.int .i64 0))= .lit (.int .i64 c)→c=(jx:Int)):=qA fun c hc=>by
         have h:=ly.out.at_ y1 y2 tO kA iY;rw[hc,ny] at h;injection h with h
         injection h
        have mI:Hid (peF as' bs nb P k (ls.take (m+1))=FF++ [((k:Int),x,(jx:Int))]):=qA (by rw[HF.out,hid,ny];rfl);have Mr:jx≤1600:=tO;rw[eq] at sR;clear iY eq ex HF HS fR hid dS ny;go_wp2_with (first
         | (at_lookup;refine wpList_lookup_own_ok_int _ rfl _ _ 133 rfl 131 3 .i64 lawP Tryz.underlying133 Tryz.underlying3 (qNU _) w4.heap.size om.length D rfl gX.out _ (kp (y1:Int) (y2:Int)) rfl wU.out ?_;intro c db hwc;rw[sR.out];obtain rfl:=xL.out c db;clear db hwc))
        obtain⟨L,hL⟩: ∃L,BL++FF=L:=⟨_,rfl⟩;have sK:L.length≤4900:=by rw[←hL,zae];have:=sZ.out;omega
        have fY:Hid (BL++peF as' bs nb P k (ls.take (m+1))=L++ [((k:Int),x,(jx:Int))]):=qA (by rw[mI.out,←hL,zaO]);rw[hL] at aV d8 nl;clear hL mI;have z2:=aV.out.c2;simp only at z2
        have EG:=aV.out.lt;have bR:Hid (E64 ((k:Int),x,(jx:Int))):=qA ⟨⟨by simp only;omega,by simp only;omega⟩,⟨by have:=gQ.out;simp only;omega,by have:=gQ.out;simp only;omega⟩,⟨by simp only;omega,by simp only;omega⟩⟩;have tG:Hid (edV (stE (k:Int) x (jx:Int))= .agg #[.int .i64 (k:Int), .int .i64 x, .int .i64 (jx:Int)]):=qA (by unfold stE;rw[if_neg tO];rfl);have nL:=qA (fun W'=>qHu (k:Int) x (jx:Int) W' gQ.out);refine qDU (n:=9) (S:=fun w'=>w'.cell? ⟨p,2,none⟩=some (.slice A2 L.length c2)) tK (by rfl) z2 (fun hHeld=> ?_);(refine qV (n:=9) (i:=0) (v:= ?_) rfl tK rfl (by decide) tK tK tK tK (fun _ _ _ h=>h) (Or.inl ⟨by rfl,?_⟩) (by assumption) ?_;rotate_left;focus (intro ww hSw;(try dsimp only at hSw);go_simp;try with_reducible rfl);(try simp only[zaw,zaa,zaf,zag]));(refine qV (n:=9) (i:=1) (v:= ?_) rfl tK rfl (by decide) tK tK tK tK (fun _ _ _ h=>h) (Or.inl ⟨by rfl,?_⟩) (by assumption) ?_;rotate_left;focus (intro ww hSw;(try dsimp only at hSw);go_simp;try with_reducible rfl);(try simp only[zaw,zaa,zaf,zag]));(refine qV (n:=9) (i:=2) (v:= ?_) rfl tK rfl (by decide) tK tK tK tK (fun _ _ _ h=>h) (Or.inl ⟨by rfl,?_⟩) (by assumption) ?_;rotate_left;focus (intro ww hSw;(try dsimp only at hSw);go_simp;try with_reducible rfl);(try simp only[zaw,zaa,zaf,zag]));(refine qV (n:=9) (i:=3) (v:= ?_) rfl tK rfl (by decide) tK tK tK tK (fun _ _ _ h=>h) (Or.inl ⟨by rfl,?_⟩) (by assumption) ?_;rotate_left;focus (intro ww hSw;(try dsimp only at hSw);go_simp;try with_reducible rfl);(try simp only[zaw,zaa,zaf,zag]));(refine qV (n:=9) (i:=4) (v:= ?_) rfl tK rfl (by decide) tK tK tK tK (fun _ _ _ h=>h) (Or.inl ⟨by rfl,?_⟩) (by assumption) ?_;rotate_left;focus (intro ww hSw;(try dsimp only at hSw);go_simp;try with_reducible rfl);(try simp only[zaw,zaa,zaf,zag]))
        refine qAm (i:=5) tK rfl fun K' hK=> ?_;go_simp;refine(nL.out _).mono ?_
        rintro e d7 ⟨rfl,gf⟩;rw[tG.out];have tN:wq.heap.size≤d7.heap.size:=gf.size;have oR:Below wq.heap.size wq d7:=(zab _ _).drew.trans gf;clear gf;have zu:d7.cell? ⟨p,2,none⟩=some (.slice A2 L.length c2):=(oR.cell (p:=⟨p,2,none⟩) EG).trans z2;refine hK.out _ _ zu (fun _=> ?_);clear hK hHeld;refine qAm (i:=6) tK rfl fun K' hK=> ?_;go_simp;have iX:Below d7.heap.size d7 (d7.alloc (.cells #[.int .i64 (k:Int),.int .i64 x,.int .i64 (jx:Int)] 97)):=(zab _ _).alloc (zah _) _;have nE: ∀j u,(edC ((k:Int),x,(jx:Int)))[j]? =some u→(d7.alloc (.cells #[.int .i64 (k:Int),.int .i64 x,.int .i64 (jx:Int)] 97)).cell? ⟨d7.heap.size,j,none⟩=some u:=fun j u hj=>by
         rcases j with _ | _ | _ | j<;>simp[edC] at hj<;>subst hj<;>simp[go_sem]
        have sV:(d7.alloc (.cells #[.int .i64 (k:Int),.int .i64 x,.int .i64 (jx:Int)] 97)).heap.size=d7.heap.size+1:=by simp
        have vy:(d7.alloc (.cells #[.int .i64 (k:Int),.int .i64 x,.int .i64 (jx:Int)] 97)).cell? ⟨p,2,none⟩=some (.slice A2 L.length c2):=(iX.cell (p:=⟨p,2,none⟩) (by show p<_;omega)).trans zu;refine hK.out _ _ vy (fun _=> ?_);clear hK;generalize d7.alloc (.cells #[.int .i64 (k:Int),.int .i64 x,.int .i64 (jx:Int)] 97)=V at iX nE sV vy⊢;have bXV:Below wq.heap.size wq V:=oR.trans (iX.mono tN);have jS:=qA (aV.out.below bXV);refine qAm (i:=7) tK rfl fun K' hK=> ?_;rw[if_pos (by rfl)];refine qCO (.tmp 122) (.tmp 127) rfl (p+1) _ L jS.out.ow rfl d7.heap.size ((k:Int),x,(jx:Int)) rfl nE bR.out tO tO ?_;intro v' w' o' g' p';obtain⟨mc,l8,rfl,_⟩:=OwE.form o';have AC:=qA o';have M3:=g'.size;clear o';have bC: ∀y,(zac A2 L.length c2).ownBlock=some y→p+1≤y∧y<wq.heap.size:=fun y hy=>aV.out.ow.1.lt y hy;have E7:w'.cell? ⟨p,2,none⟩=some (.slice A2 L.length c2):=(zal (w:=V) (g'.block p tO (fun e=>by have:=(bC p e.symm).1;omega))).trans vy;refine hK.out _ _ E7 (fun _=> ?_);clear hK;simp only[zaw,zaa,zaf,zag];(refine qV (n:=9) (i:=8) (v:= ?_) rfl tK rfl (by decide) tK tK tK tK (fun _ _ _ h=>h) (Or.inl ⟨by rfl,?_⟩) (by assumption) ?_;rotate_left;focus (intro ww hSw;(try dsimp only at hSw);go_simp;try with_reducible rfl);(try simp only[zaw,zaa,zaf,zag]))
        have nx:=qA (fun j=>((zaz (w:=V) (g'.block p tO (fun e=>by have:=(bC p e.symm).1;omega))).trans (jS.out.fz j):w'.frozen? ⟨p,j,none⟩=false));have qf:=nx.out 2;refine qEX (n:=9) tK rfl tK fun K' hK=> ?_;go_simp;refine hK.out _ _ ?_;clear hK;go_wp2;obtain⟨wf,jP⟩: ∃wf,wf=w'.setCell ⟨p,2,none⟩ (.slice mc (L++ [((k:Int),x,(jx:Int))]).length l8):=⟨_,rfl⟩;have nN:w'.setCell ⟨p,2,none⟩ (.slice mc (L.length+1) l8)=wf:=by rw[jP,zae,zaC]
        try rw[←jP]
        try rw[nN]
        have Gw:wf.heap.size=w'.heap.size:=by rw[jP];simp
        have KEEP:Hid (∀b,b<wq.heap.size→b≠p→(zac A2 L.length c2).ownBlock≠some b→wf.heap[b]? =wq.heap[b]?):=qA fun b h1 h2 h3=>by
         rw[jP,zav _ _ _ b h2,g'.block b (by have:=bXV.size;omega) (fun e=>h3 e.symm),bXV.block b h1]
        have GM:p<V.heap.size:=by have:=bXV.size;omega
        have xQ:(zac A2 L.length c2).ownBlock≠some p:=fun e=>by have:=(bC p e).1;omega
        have hC:CBx w' p (.int .i64 (rn:Int)) (.int .i64 0) (.slice A2 L.length c2):=by
         have hb:=g'.block p GM (fun e=>xQ e.symm);exact⟨(zal (w:=V) hb).trans jS.out.c0,(zal (w:=V) hb).trans jS.out.c1,(zal (w:=V) hb).trans jS.out.c2,fun j=>(zaz (w:=V) hb).trans (jS.out.fz j),tO⟩
        have DG:Hid (GBx wf p (p+1) mc l8 ((rn:Int),0,L++ [((k:Int),x,(jx:Int))])):=qA (by
         rw[jP];exact hC.put AC.out (fun b hb=>by have:=(AC.out.1.lt b hb).1;omega) jS.out.i1 jS.out.i2)
        have wA:=qA (qEk (w':=wf) fU.out fun b e=>KEEP.out b (zan.lt fU.out b e).2 (d8.out b e).1 (d8.out b e).2.2);have uu:(zac A2 L.length c2).ownBlock≠some w4.heap.size:=fun e=>by have:=(bC _ e).1;omega
        have ub:Hid (wf.ownsMap Tryz.prog 131 (plainElem (H:=Unit) Tryz.prog 3) w4.heap.size (om.length) D):=qA (by
         obtain⟨es,cl,h1,h2⟩:=gX.out;exact⟨es,cl,(KEEP.out _ tO tO uu).trans h1,h2⟩)
        have uD:Hid (RdI wf (.slice (some ⟨bl,0,none⟩) ls.length capl) ls):=qA (by
         rw[jP];exact((my.out.below bXV).grown g' (fun b hb aJ=>nl.out (by simp[zad] at hb;subst hb;exact aJ))).grown (qBg _ _ _ _) (fun b hb aJ=>by simp[zad] at hb;cases aJ;omega))
        have uR:Hid (∀b,(zac (some ⟨tb,0,none⟩) om.length ct).ownBlock=some b→b≠p∧b≠bl∧(zac mc (L++ [((k:Int),x,(jx:Int))]).length l8).ownBlock≠some b):=qA fun b hb=>⟨(d8.out b hb).1,(d8.out b hb).2.1,fun e=>by
         rcases p' with p' | p'
         ·exact(d8.out b hb).2.2 (p'.symm.trans e)
         ·rw[p'] at e;have h1:=(zan.lt fU.out b hb).2;have h2:=bXV.size;have h3:V.heap.size=b:=by simpa using e
          omega⟩
        have uE:Hid ((zac mc (L++ [((k:Int),x,(jx:Int))]).length l8).ownBlock≠some bl):=qA fun e=>by
         rcases p' with p' | p'
         ·exact nl.out (p'.symm.trans e)
         ·rw[p'] at e;have h2:=bXV.size;have h3:V.heap.size=bl:=by simpa using e
          omega
        have aj:Hid (Below w4.heap.size w4 wf):=qA (by
         rw[jP];exact((wY.out.trans (bXV.mono tO)).grown g' tO (fun j hj=>by have:=(bC j hj).1;omega)).setCell (by show w4.heap.size≤p;omega) _)
        have vW:bl<wf.heap.size:=by have:=bXV.size;omega
        clear jP nN hC g' p';go_roundw
        case rel=>exact⟨m+1,_,mc,l8,tO,by go_num,by rw[iA.out];exact wA.out,by rw[iA.out];exact ub.out,by rw[iA.out];exact ly.out,by rw[fY.out];exact DG.out,by rw[fY.out];exact uR.out,by rw[fY.out];exact uE.out,uD.out,vW,aj.out⟩
        case measure=>simp[intOf];omega
       ·have iY:y1*nb+y2∉om:=by simpa using eq
        have iA:Hid ((ls.take (m+1)).foldl (pst as' bs nb pk) o=om++ [y1*nb+y2]):=qA (by rw[HS.out,if_neg iY]);have y7:=qA (ly.out.put tO (s:=y1) (t:=y2) tO kA iY);rw[if_neg iY] at fR;have hid:=fR.out (y1*nb+y2) (by simp);have ny:(om++ [y1*nb+y2]).idxOf (y1*nb+y2)=om.length:=by rw[zaQ,if_neg iY];simp
        have mI:Hid (peF as' bs nb P k (ls.take (m+1))=FF++ [((k:Int),x,(om.length:Int))]):=qA (by rw[HF.out,hid,ny];rfl);rw[eq] at sR;have sg:=qA (qJx (qCT (n:=om.length) tO));clear iY eq ex HF HS fR hid ny;obtain⟨qn,mY⟩: ∃q,y1*nb+y2=q:=⟨_,rfl⟩;rw[mY] at iA y7 pC ya;clear mY;go_wp2_with (first
         | (at_lookup;refine wpList_lookup_own_ok_int _ rfl _ _ 133 rfl 131 3 .i64 lawP Tryz.underlying133 Tryz.underlying3 (qNU _) w4.heap.size om.length D rfl gX.out _ (kp (y1:Int) (y2:Int)) rfl wU.out ?_;intro c db hwc;rw[sR.out])
         | (at_mapUpdate;refine wpList_mapUpdate_own _ rfl _ _ _ 133 rfl 131 3 lawP Tryz.underlying133 _ w4.heap.size om.length D rfl gX.out (by unfold maxLen;omega) _ _ (kp (y1:Int) (y2:Int)) rfl rfl wU.out _ [] (plainElem_int Tryz.underlying3 sg.out) ?_;intro w8 hown8 hgrow8;have n4:=hgrow8.size;have uO:Hid (OwPr w8 (w4.heap.size+1) (.slice (some ⟨tb,0,none⟩) om.length ct) nb om):=qA (qEk fU.out fun b e=>hgrow8.block b (by have:=(zan.lt fU.out b e).2;omega) (fun e2=>by have:=(zan.lt fU.out b e).1;cases e2;omega)))
         | (at_builtin;refine qIY rfl (.tmp 113) (.tmp 117) rfl (w4.heap.size+1) _ nb om (qu uO.out ((zab _ _).alloc (zah _) _)) rfl w8.heap.size qn rfl (fun j u hj=>by rw[pC.out] at hj;rcases j with _ | _ | j<;>simp at hj<;>subst hj<;>simp[go_sem]) tO (by simp;omega) ?_;intro v9 w9 o9 g9 p9;have kU:=qA o9;have rJ:w8.heap.size+1≤w9.heap.size:=(by have h:=g9.size;simp at h;omega);have vV:=qA ((hown8.alloc (.cells #[.int .i64 (y1:Int), .int .i64 (y2:Int)] 131)).kept g9 (fun e=>by simp[zad] at e;omega));have oL:Hid (∀b,(zac A2 (BL++FF).length c2).ownBlock=some b→p+1≤b∧b<wq.heap.size):=qA (fun b hb=>aV.out.ow.1.lt b hb);have cH:=qA (((aV.out.grown hgrow8 (fun b hb=>⟨by cases hb;omega,fun e=>by have:=(oL.out b e).1;cases hb;omega⟩)).below ((zab _ _).alloc (zah _) (.cells #[.int .i64 (y1:Int), .int .i64 (y2:Int)] 131))).grown g9 (fun b hb=>⟨(d8.out b hb).1,(d8.out b hb).2.2⟩));have vQ:Hid (RdI w9 (.slice (some ⟨bl,0,none⟩) ls.length capl) ls):=qA (((my.out.grown hgrow8 (fun b hb aJ=>by simp[zad] at hb;cases aJ;omega)).alloc _).grown g9 (fun b hb aJ=>by simp[zad] at hb;exact(d8.out b aJ).2.1 hb.symm));have mk:Hid (Below w4.heap.size w4 w8):=qA (wY.out.grown hgrow8 tO (fun j hj=>by cases hj;exact zah _));have eh:Hid (Below w4.heap.size w4 w9):=qA ((mk.out.alloc tO (.cells #[.int .i64 (y1:Int), .int .i64 (y2:Int)] 131)).grown g9 (by first | omega | (simp<;>omega)) (fun j hj=>by simp[zad] at hj;omega));have gG:Hid (∀b,v9.ownBlock=some b→b≠p∧b≠bl∧(zac A2 (BL++FF).length c2).ownBlock≠some b):=qA (fun b hb=>p9.elim (fun p9=>d8.out b (p9.symm.trans hb)) (fun p9=>(by rw[p9] at hb;have cA:b=w8.heap.size+1:=(by simpa using hb.symm);exact⟨tO,tO,fun e=>by have:=(oL.out b e).2;omega⟩)));obtain⟨A9,c9,uN,_⟩:=qAY kU.out;rw[zae,zaC] at uN;subst uN;clear o9 g9 p9 hown8 hgrow8 db hwc))
        obtain⟨L,hL⟩: ∃L,BL++FF=L:=⟨_,rfl⟩;have sK:L.length≤4900:=by rw[←hL,zae];have:=sZ.out;omega
        have fY:Hid (BL++peF as' bs nb P k (ls.take (m+1))=L++ [((k:Int),x,(om.length:Int))]):=qA (by rw[mI.out,←hL,zaO]);rw[hL] at cH gG nl;clear hL mI;have z2:=cH.out.c2;simp only at z2
        have EG:=cH.out.lt;have bR:Hid (E64 ((k:Int),x,(om.length:Int))):=qA ⟨⟨by simp only;omega,by simp only;omega⟩,⟨by have:=gQ.out;simp only;omega,by have:=gQ.out;simp only;omega⟩,⟨by simp only;omega,by simp only;omega⟩⟩;have tG:Hid (edV (stE (k:Int) x (om.length:Int))= .agg #[.int .i64 (k:Int), .int .i64 x, .int .i64 (om.length:Int)]):=qA (by unfold stE;rw[if_neg tO];rfl);have nL:=qA (fun W'=>qHu (k:Int) x (om.length:Int) W' gQ.out);refine qDU (n:=9) (S:=fun w'=>w'.cell? ⟨p,2,none⟩=some (.slice A2 L.length c2)) tK (by rfl) z2 (fun hHeld=> ?_);(refine qV (n:=9) (i:=0) (v:= ?_) rfl tK rfl (by decide) tK tK tK tK (fun _ _ _ h=>h) (Or.inl ⟨by rfl,?_⟩) (by assumption) ?_;rotate_left;focus (intro ww hSw;(try dsimp only at hSw);go_simp;try with_reducible rfl);(try simp only[zaw,zaa,zaf,zag]));(refine qV (n:=9) (i:=1) (v:= ?_) rfl tK rfl (by decide) tK tK tK tK (fun _ _ _ h=>h) (Or.inl ⟨by rfl,?_⟩) (by assumption) ?_;rotate_left;focus (intro ww hSw;(try dsimp only at hSw);go_simp;try with_reducible rfl);(try simp only[zaw,zaa,zaf,zag]));(refine qV (n:=9) (i:=2) (v:= ?_) rfl tK rfl (by decide) tK tK tK tK (fun _ _ _ h=>h) (Or.inl ⟨by rfl,?_⟩) (by assumption) ?_;rotate_left;focus (intro ww hSw;(try dsimp only at hSw);go_simp;try with_reducible rfl);(try simp only[zaw,zaa,zaf,zag]));(refine qV (n:=9) (i:=3) (v:= ?_) rfl tK rfl (by decide) tK tK tK tK (fun _ _ _ h=>h) (Or.inl ⟨by rfl,?_⟩) (by assumption) ?_;rotate_left;focus (intro ww hSw;(try dsimp only at hSw);go_simp;try with_reducible rfl);(try simp only[zaw,zaa,zaf,zag]));(refine qV (n:=9) (i:=4) (v:= ?_) rfl tK rfl (by decide) tK tK tK tK (fun _ _ _ h=>h) (Or.inl ⟨by rfl,?_⟩) (by assumption) ?_;rotate_left;focus (intro ww hSw;(try dsimp only at hSw);go_simp;try with_reducible rfl);(try simp only[zaw,zaa,zaf,zag]))
        refine qAm (i:=5) tK rfl fun K' hK=> ?_;go_simp;refine(nL.out _).mono ?_
        rintro e d7 ⟨rfl,gf⟩;rw[tG.out];have tN:w9.heap.size≤d7.heap.size:=gf.size;have oR:Below w9.heap.size w9 d7:=(zab _ _).drew.trans gf;clear gf;have zu:d7.cell? ⟨p,2,none⟩=some (.slice A2 L.length c2):=(oR.cell (p:=⟨p,2,none⟩) EG).trans z2;refine hK.out _ _ zu (fun _=> ?_);clear hK hHeld;refine qAm (i:=6) tK rfl fun K' hK=> ?_;go_simp;have iX:Below d7.heap.size d7 (d7.alloc (.cells #[.int .i64 (k:Int),.int .i64 x,.int .i64 (om.length:Int)] 97)):=(zab _ _).alloc (zah _) _;have nE: ∀j u,(edC ((k:Int),x,(om.length:Int)))[j]? =some u→(d7.alloc (.cells #[.int .i64 (k:Int),.int .i64 x,.int .i64 (om.length:Int)] 97)).cell? ⟨d7.heap.size,j,none⟩=some u:=fun j u hj=>by
         rcases j with _ | _ | _ | j<;>simp[edC] at hj<;>subst hj<;>simp[go_sem]
        have sV:(d7.alloc (.cells #[.int .i64 (k:Int),.int .i64 x,.int .i64 (om.length:Int)] 97)).heap.size=d7.heap.size+1:=by simp
        have vy:(d7.alloc (.cells #[.int .i64 (k:Int),.int .i64 x,.int .i64 (om.length:Int)] 97)).cell? ⟨p,2,none⟩=some (.slice A2 L.length c2):=(iX.cell (p:=⟨p,2,none⟩) (by show p<_;omega)).trans zu;refine hK.out _ _ vy (fun _=> ?_);clear hK;generalize d7.alloc (.cells #[.int .i64 (k:Int),.int .i64 x,.int .i64 (om.length:Int)] 97)=V at iX nE sV vy⊢;have bXV:Below w9.heap.size w9 V:=oR.trans (iX.mono tN);have jS:=qA (cH.out.below bXV);refine qAm (i:=7) tK rfl fun K' hK=> ?_;rw[if_pos (by rfl)];refine qCO (.tmp 122) (.tmp 127) rfl (p+1) _ L jS.out.ow rfl d7.heap.size ((k:Int),x,(om.length:Int)) rfl nE bR.out tO tO ?_;intro v' w' o' g' p';obtain⟨mc,l8,rfl,_⟩:=OwE.form o';have AC:=qA o';have M3:=g'.size;clear o';have bC: ∀y,(zac A2 L.length c2).ownBlock=some y→p+1≤y∧y<w9.heap.size:=fun y hy=>cH.out.ow.1.lt y hy;have E7:w'.cell? ⟨p,2,none⟩=some (.slice A2 L.length c2):=(zal (w:=V) (g'.block p tO (fun e=>by have:=(bC p e.symm).1;omega))).trans vy;refine hK.out _ _ E7 (fun _=> ?_);clear hK;simp only[zaw,zaa,zaf,zag];(refine qV (n:=9) (i:=8) (v:= ?_) rfl tK rfl (by decide) tK tK tK tK (fun _ _ _ h=>h) (Or.inl ⟨by rfl,?_⟩) (by assumption) ?_;rotate_left;focus (intro ww hSw;(try dsimp only at hSw);go_simp;try with_reducible rfl);(try simp only[zaw,zaa,zaf,zag]))
        have nx:=qA (fun j=>((zaz (w:=V) (g'.block p tO (fun e=>by have:=(bC p e.symm).1;omega))).trans (jS.out.fz j):w'.frozen? ⟨p,j,none⟩=false));have qf:=nx.out 2;refine qEX (n:=9) tK rfl tK fun K' hK=> ?_;go_simp;refine hK.out _ _ ?_;clear hK;go_wp2;obtain⟨wf,jP⟩: ∃wf,wf=w'.setCell ⟨p,2,none⟩ (.slice mc (L++ [((k:Int),x,(om.length:Int))]).length l8):=⟨_,rfl⟩;have nN:w'.setCell ⟨p,2,none⟩ (.slice mc (L.length+1) l8)=wf:=by rw[jP,zae,zaC]
        try rw[←jP]
        try rw[nN]
        have Gw:wf.heap.size=w'.heap.size:=by rw[jP];simp
        have KEEP:Hid (∀b,b<w9.heap.size→b≠p→(zac A2 L.length c2).ownBlock≠some b→wf.heap[b]? =w9.heap[b]?):=qA fun b h1 h2 h3=>by
         rw[jP,zav _ _ _ b h2,g'.block b (by have:=bXV.size;omega) (fun e=>h3 e.symm),bXV.block b h1]
        have GM:p<V.heap.size:=by have:=bXV.size;omega
        have xQ:(zac A2 L.length c2).ownBlock≠some p:=fun e=>by have:=(bC p e).1;omega
        have hC:CBx w' p (.int .i64 (rn:Int)) (.int .i64 0) (.slice A2 L.length c2):=by
         have hb:=g'.block p GM (fun e=>xQ e.symm);exact⟨(zal (w:=V) hb).trans jS.out.c0,(zal (w:=V) hb).trans jS.out.c1,(zal (w:=V) hb).trans jS.out.c2,fun j=>(zaz (w:=V) hb).trans (jS.out.fz j),tO⟩
        have DG:Hid (GBx wf p (p+1) mc l8 ((rn:Int),0,L++ [((k:Int),x,(om.length:Int))])):=qA (by
         rw[jP];exact hC.put AC.out (fun b hb=>by have:=(AC.out.1.lt b hb).1;omega) jS.out.i1 jS.out.i2)
        have wA:=qA (qEk (w':=wf) kU.out fun b e=>KEEP.out b (zan.lt kU.out b e).2 (gG.out b e).1 (gG.out b e).2.2);have uu:(zac A2 L.length c2).ownBlock≠some w4.heap.size:=fun e=>by have:=(bC _ e).1;omega
        have ub:Hid (wf.ownsMap Tryz.prog 131 (plainElem (H:=Unit) Tryz.prog 3) w4.heap.size (om.length+1) (D.put (kp (y1:Int) (y2:Int)) (.lit (.int .i64 (om.length:Int))))):=qA (by
         obtain⟨es,cl,h1,h2⟩:=vV.out;exact⟨es,cl,(KEEP.out _ tO tO uu).trans h1,h2⟩)
        have uD:Hid (RdI wf (.slice (some ⟨bl,0,none⟩) ls.length capl) ls):=qA (by
         rw[jP];exact((vQ.out.below bXV).grown g' (fun b hb aJ=>nl.out (by simp[zad] at hb;subst hb;exact aJ))).grown (qBg _ _ _ _) (fun b hb aJ=>by simp[zad] at hb;cases aJ;omega))
        have uR:Hid (∀b,(zac A9 (om.length+1) c9).ownBlock=some b→b≠p∧b≠bl∧(zac mc (L++ [((k:Int),x,(om.length:Int))]).length l8).ownBlock≠some b):=qA fun b hb=>⟨(gG.out b hb).1,(gG.out b hb).2.1,fun e=>by
         rcases p' with p' | p'
         ·exact(gG.out b hb).2.2 (p'.symm.trans e)
         ·rw[p'] at e;have h1:=(zan.lt kU.out b hb).2;have h2:=bXV.size;have h3:V.heap.size=b:=by simpa using e
          omega⟩
        have uE:Hid ((zac mc (L++ [((k:Int),x,(om.length:Int))]).length l8).ownBlock≠some bl):=qA fun e=>by
         rcases p' with p' | p'
         ·exact nl.out (p'.symm.trans e)
         ·rw[p'] at e;have h2:=bXV.size;have h3:V.heap.size=bl:=by simpa using e
          omega
        have aj:Hid (Below w4.heap.size w4 wf):=qA (by
         rw[jP];exact((eh.out.trans (bXV.mono tO)).grown g' tO (fun j hj=>by have:=(bC j hj).1;omega)).setCell (by show w4.heap.size≤p;omega) _)
        have vW:bl<wf.heap.size:=by have:=bXV.size;omega
        clear jP nN hC g' p';go_roundw
        case rel=>exact⟨m+1,_,mc,l8,tO,by go_num,by rw[iA.out];exact wA.out,by rw[iA.out,zae];exact ub.out,by rw[iA.out];exact y7.out,by rw[fY.out];exact DG.out,by rw[fY.out];exact uR.out,by rw[fY.out];exact uE.out,uD.out,vW,aj.out⟩
        case measure=>simp[intOf];omega
    ·obtain rfl:m=ls.length:=tO
     rw[zap] at uH dQ ly aI d8;have tC:=mr.out ls.length;have vO:=tV.out ls.length;have bZ:=dk.out ls.length;rw[zap] at tC vO bZ;have au:k+1≤(ls.foldl (pst as' bs nb pk) o).length:=by
      have:=(zai.1 bZ).1
      omega
     rw[DS.out] at aI d8;have yq:=qA tC;have yH:=qA vO;rw[zap] at kg;clear aN tC vO bZ mR Ff mr tV Hy gH dk;obtain⟨of',sw⟩: ∃L,ls.foldl (pst as' bs nb pk) o=L:=⟨_,rfl⟩;rw[sw] at kg uH dQ ly yq yH cS au;clear sw;obtain⟨At,ct,rfl,_⟩:=qAY kg;clear kg;go_wp2;go_roundw
     case rel=>exact⟨k+1,_,D,A2,c2,au,by go_num,yq.out,yH.out,cS.out,uH.out,dQ.out,ly.out,by rw[xC.out];exact aI.out,fun b hb=>by rw[xC.out];exact⟨(d8.out b hb).1,(d8.out b hb).2.2⟩,ie.out⟩
     case measure=>simp[intOf];omega
  ·obtain rfl:k=o.length:=tO
   have xF:P=o:=by rw[mu.out,qNI]
   have rg:P.length=o.length:=by rw[xF]
   have Lp:=qA rg;obtain⟨E,hE⟩: ∃E,peL as' bs nb rn P o.length=E:=⟨_,rfl⟩;have l6:Hid (PO=(decide (o.length≤40)&&decide (E.length≤120))):=qA (by rw[←hE,←rg];exact k7.out);have nT:Hid (PG=((rn:Int),(o.length:Int),srt cmpE E)):=qA (by rw[←hE,←rg];exact xk.out);have QP:E.length≤4800:=by
    have h1:=xl.out o.length;rw[←hE];have h2:=zar (show o.length≤1600 by omega) (show rn≤3 by omega);exact zax h1 tO
   rw[hE] at aI;clear xF rg hE k7 xk aO;have BF:=qA (lA.out _ dV.out);obtain⟨z0,z1,z2⟩:=(XR.out.below BF.out).cs;have fA:=(XR.out.below BF.out).fz 0;have fc:=(XR.out.below BF.out).fz 1;have eJ:=(XR.out.below BF.out).fz 2;obtain⟨y0,y1,y2⟩:=aI.out.cs;have BG:=aI.out.fz 1;simp only at y0 y1 y2
   have Jm:=aI.out.lt;have AU:w.heap.size+1+1<wk.heap.size:=tO;have kT:w.heap.size+1+1≠p:=tO;have Mg:p≠w.heap.size+1+1:=tO;rcases el:decide (40<o.length) with _ | _
   rotate_left
   ·have kQ:(40:Int)<(o.length:Int):=Int.ofNat_lt.2 (by simpa using el);have F:=qA (jb.out (by rw[l6.out,decide_eq_false (by omega: ¬o.length≤40)];rfl));clear el;have aj:=qA (BX.out.trans ((lA.out _ dV.out).mono tO));have mF:=qA (aj.out.setCell (p:=⟨p,1,none⟩) (by show w.heap.size≤p;omega) (.int .i64 (o.length:Int)));go_wp2;obtain⟨ws,bm⟩: ∃W,W=wk.setCell ⟨p,1,none⟩ (.int .i64 (o.length:Int)):=⟨_,rfl⟩;have gN: ∀j u,wk.cell? ⟨w.heap.size+1+1,j,none⟩=some u→ws.cell? ⟨w.heap.size+1+1,j,none⟩=some u:=fun j u h=>by rw[bm,qAN _ _ _ _ _ _ kT];exact h
    rw[←bm] at mF⊢;obtain⟨e0,e1,e2⟩:=qi (.int .i64 0) (.int .i64 0) (.slice none 0 0) (gN 0 _ z0) (gN 1 _ z1) (gN 2 _ z2);have bw:Below w.heap.size w (((ws.setCell ⟨w.heap.size+1+1,0,none⟩ (.int .i64 0)).setCell ⟨w.heap.size+1+1,1,none⟩ (.int .i64 0)).setCell ⟨w.heap.size+1+1,2,none⟩ (.slice none 0 0)):=qL _ _ _ mF.out tO;generalize (((ws.setCell ⟨w.heap.size+1+1,0,none⟩ (.int .i64 0)).setCell ⟨w.heap.size+1+1,1,none⟩ (.int .i64 0)).setCell ⟨w.heap.size+1+1,2,none⟩ (.slice none 0 0))=wf at*;rw[F.out];exact bodyPost_ret (v:= .tuple #[.agg #[.int .i64 0, .int .i64 0, .slice none 0 0], .bool false]) (by simp[results,Tryz.results95,go_sem,e0,e1,e2]) rfl ⟨_,rfl,⟨.slice none 0 0,rfl,⟨by decide,by decide⟩,⟨by decide,by decide⟩,OwE.nil⟩,bw⟩
   have fG:o.length≤40:=by simp at el;omega
   have kQ: ¬(40:Int)<(o.length:Int):=tO;rcases ee:decide (120<E.length) with _ | _
   rotate_left
   ·have oq:(120:Int)<(E.length:Int):=Int.ofNat_lt.2 (by simpa using ee);have F:=qA (jb.out (by rw[l6.out,decide_eq_false (by omega: ¬E.length≤120),zba]));clear el ee fG;have aj:=qA (BX.out.trans ((lA.out _ dV.out).mono tO));have mF:=qA (aj.out.setCell (p:=⟨p,1,none⟩) (by show w.heap.size≤p;omega) (.int .i64 (o.length:Int)));go_wp2;obtain⟨ws,bm⟩: ∃W,W=wk.setCell ⟨p,1,none⟩ (.int .i64 (o.length:Int)):=⟨_,rfl⟩;have gN: ∀j u,wk.cell? ⟨w.heap.size+1+1,j,none⟩=some u→ws.cell? ⟨w.heap.size+1+1,j,none⟩=some u:=fun j u h=>by rw[bm,qAN _ _ _ _ _ _ kT];exact h
    rw[←bm] at mF⊢;obtain⟨e0,e1,e2⟩:=qi (.int .i64 0) (.int .i64 0) (.slice none 0 0) (gN 0 _ z0) (gN 1 _ z1) (gN 2 _ z2);have bw:Below w.heap.size w (((ws.setCell ⟨w.heap.size+1+1,0,none⟩ (.int .i64 0)).setCell ⟨w.heap.size+1+1,1,none⟩ (.int .i64 0)).setCell ⟨w.heap.size+1+1,2,none⟩ (.slice none 0 0)):=qL _ _ _ mF.out tO;generalize (((ws.setCell ⟨w.heap.size+1+1,0,none⟩ (.int .i64 0)).setCell ⟨w.heap.size+1+1,1,none⟩ (.int .i64 0)).setCell ⟨w.heap.size+1+1,2,none⟩ (.slice none 0 0))=wf at*;rw[F.out];exact bodyPost_ret (v:= .tuple #[.agg #[.int .i64 0, .int .i64 0, .slice none 0 0], .bool false]) (by simp[results,Tryz.results95,go_sem,e0,e1,e2]) rfl ⟨_,rfl,⟨.slice none 0 0,rfl,⟨by decide,by decide⟩,⟨by decide,by decide⟩,OwE.nil⟩,bw⟩
   have aQ:E.length≤120:=by simp at ee;omega
   have oq: ¬(120:Int)<(E.length:Int):=tO;have F:=qA ((tX.out (by rw[l6.out,decide_eq_true fG,decide_eq_true aQ];rfl)).trans (by rw[nT.out]:(PG,true)=(((rn:Int),(o.length:Int),srt cmpE E),true)));clear el ee fG aQ;go_wp2_with fail;obtain⟨ws,bm⟩: ∃W,W=wk.setCell ⟨p,1,none⟩ (.int .i64 (o.length:Int)):=⟨_,rfl⟩;have KQ:ws.heap.size=wk.heap.size:=by rw[bm];simp
   have kE:Hid (OwE ws (p+1) (.slice A2 E.length c2) E):=qA (by rw[bm];exact aI.out.ow.keep fun b hb=>zav _ _ _ b (aI.out.ne b hb));have hC:CBx ws p (.int .i64 (rn:Int)) (.int .i64 (o.length:Int)) (.slice A2 E.length c2):=by
    rw[bm];exact⟨(zam _ _ _ _ (by simp)).trans y0,zaG _ _ _ y1,(zam _ _ _ _ (by simp)).trans y2,fun j=>by rw[zaB];exact aI.out.fz j,by simpa using Jm⟩
   have hR:CBx ws (w.heap.size+1+1) (.int .i64 0) (.int .i64 0) (.slice none 0 0):=by
    rw[bm];exact⟨(qAN _ _ _ _ _ _ kT).trans z0,(qAN _ _ _ _ _ _ kT).trans z1,(qAN _ _ _ _ _ _ kT).trans z2,fun j=>by rw[zaB];exact(XR.out.below BF.out).fz j,by simpa using AU⟩
   have mF:Hid (Below w4.heap.size w4 ws):=qA (by rw[bm];exact dV.out.setCell (by show w4.heap.size≤p;omega) _);rw[←bm];have HC:=qA hC;have HR:=qA hR;clear bm hC hR y0 y1 y2 BG z0 z1 z2 fA fc eJ;refine(qEQ _ _ _ kE.out.arg tO).mono ?_
   rintro e' w9 ⟨r9,rfl,o9,b9⟩;have kn:=b9.size;have Ce:=qA (HC.out.below b9);have xI:=qA (HR.out.below b9);have eh:=qA (mF.out.trans (b9.mono tO));obtain⟨A9,c9,rfl,_⟩:=OwE.form o9;obtain⟨L,hL⟩: ∃L,srt cmpE E=L:=⟨_,rfl⟩;rw[hL] at o9 F⊢;have O9:=qA o9;clear b9 o9 hL;have pN:Hid (∀b,(zac A9 L.length c9).ownBlock=some b→b≠p∧b≠w.heap.size+1+1):=qA fun b hb=>by have:=(O9.out.1.lt b hb).1;omega
   obtain⟨y0,y1,y2⟩:=Ce.out.cs;have CJ:=Ce.out.fz 2;obtain⟨z0,z1,z2⟩:=xI.out.cs;have fA:=xI.out.fz 0;have fc:=xI.out.fz 1;have eJ:=xI.out.fz 2;have PV:w.heap.size+1+1<w9.heap.size:=tO;have RJ:p<w9.heap.size:=tO;have aj:=qA (BX.out.trans ((lA.out _ eh.out).mono tO));have lS:=qA (aj.out.setCell (p:=⟨p,2,none⟩) (by show w.heap.size≤p;omega) (.slice A9 L.length c9));go_wp2;obtain⟨wt,EC⟩: ∃W,W=w9.setCell ⟨p,2,none⟩ (.slice A9 L.length c9):=⟨_,rfl⟩;have tM: ∀j u,w9.cell? ⟨w.heap.size+1+1,j,none⟩=some u→wt.cell? ⟨w.heap.size+1+1,j,none⟩=some u:=fun j u h=>by rw[EC,qAN _ _ _ _ _ _ kT];exact h
   have pz:OwE wt ws.heap.size (.slice A9 L.length c9) L:=by rw[EC];exact O9.out.keep fun b hb=>zav _ _ _ b (pN.out b hb).1
   rw[←EC] at lS⊢;obtain⟨e0,e1,e2⟩:=qi (.int .i64 (rn:Int)) (.int .i64 (o.length:Int)) (.slice A9 L.length c9) (tM 0 _ z0) (tM 1 _ z1) (tM 2 _ z2);have bw:Below w.heap.size w (((wt.setCell ⟨w.heap.size+1+1,0,none⟩ (.int .i64 (rn:Int))).setCell ⟨w.heap.size+1+1,1,none⟩ (.int .i64 (o.length:Int))).setCell ⟨w.heap.size+1+1,2,none⟩ (.slice A9 L.length c9)):=qL _ _ _ lS.out tO;have ow:OwE (((wt.setCell ⟨w.heap.size+1+1,0,none⟩ (.int .i64 (rn:Int))).setCell ⟨w.heap.size+1+1,1,none⟩ (.int .i64 (o.length:Int))).setCell ⟨w.heap.size+1+1,2,none⟩ (.slice A9 L.length c9)) ws.heap.size (.slice A9 L.length c9) L:=pz.keep fun b hb=>qK _ _ _ _ _ (pN.out b hb).2;generalize (((wt.setCell ⟨w.heap.size+1+1,0,none⟩ (.int .i64 (rn:Int))).setCell ⟨w.heap.size+1+1,1,none⟩ (.int .i64 (o.length:Int))).setCell ⟨w.heap.size+1+1,2,none⟩ (.slice A9 L.length c9))=wf at*;rw[F.out];exact bodyPost_ret (v:= .tuple #[.agg #[.int .i64 (rn:Int), .int .i64 (o.length:Int), .slice A9 L.length c9], .bool true]) (by simp[results,Tryz.results95,go_sem,e0,e1,e2]) rfl ⟨_,rfl,⟨.slice A9 L.length c9,rfl,by unfold I64;simp only;omega,by unfold I64;simp only;omega,ow.mono tO⟩,bw⟩
def intF (a b:GrD):GrD×Bool:=if qR a=true∧qR b=true then(if(qAw a b 0 0).2=true then(qAj (qAw a b 0 0).1,true) else((0,0,[]),false)) else((0,0,[]),false)
theorem qJp {a b:GrD} {u v:Nat} (h1:qb a=true) (h2:qb b=true) (hu:(u:Int)<a.2.1) (hv:(v:Int)<b.2.1) (h:(qAw a b u v).2=true):qAw a b u v=(pbG a b u v,true)∧qb (qAw a b u v).1=true:=by
 unfold qAw at*;split
 ·rename_i q
  exact⟨rfl,qFi h1 h2 hu hv q.2⟩
 ·rename_i q
  rw[if_neg q] at h;cases h
def ixF (a b:GrD):Int×Int:=if(intF a b).2=true then(idxF (intF a b).1 a,idxF (intF a b).1 b) else(-1,-1)
def arF (a b:GrD):Bool:=decide (0<(ixF a b).1)&&decide (0<(ixF a b).2)
theorem qAh (va vb:Value) (a b:GrD) (w:World) (ha:ArgG w va a) (hb:ArgG w vb b):
  Calls Tryz.prog 17 #[va,vb] w fun e w'=> ∃r,e= .returned (.tuple #[r, .bool (intF a b).2])∧OwG w' w.heap.size r (intF a b).1∧Below w.heap.size w w':=by
 have dI:=qA ha;have aI:=qA hb;have pQ:Hid (qR a=false→intF a b=((0,0,[]),false)):=qA fun h=>by unfold intF;rw[if_neg fun q=>by rw[h] at q;exact absurd q.1 (by decide)]
 have oX:Hid (qR b=false→intF a b=((0,0,[]),false)):=qA fun h=>by unfold intF;rw[if_neg fun q=>by rw[h] at q;exact absurd q.2 (by decide)]
 have dL:Hid (qR a=true→qR b=true→(qAw a b 0 0).2=false→intF a b=((0,0,[]),false)):=qA fun h1 h2 h3=>by unfold intF;rw[if_pos ⟨h1,h2⟩,if_neg (by rw[h3];decide)]
 have mV:Hid (qR a=true→qR b=true→(qAw a b 0 0).2=true→intF a b=(qAj (qAw a b 0 0).1,true)):=qA fun h1 h2 h3=>by unfold intF;rw[if_pos ⟨h1,h2⟩,if_pos h3]
 have nm:=qA (fun h1 h2=>qJp (a:=a) (b:=b) (u:=0) (v:=0) h1 h2);have xz:=qA (fun h=>(qB (qZ (g:=a) h)).2.1);have DR:=qA (fun h=>(qB (qZ (g:=b) h)).2.1);generalize intF a b=RES at*;obtain⟨sa,rfl,iR,iQ,dJ⟩:=ha;obtain⟨A,ca,rfl⟩:=dJ.form;obtain⟨sb,rfl,iI,iZ,cA⟩:=hb;obtain⟨B,cb,rfl⟩:=cA.form;obtain⟨a1,a2,as'⟩:=a;obtain⟨b1,b2,bs⟩:=b;simp only at*
 clear dJ cA;go_enter Tryz.func17,Tryz.ntmps17
 go_wp2_with fail;obtain⟨W1,an⟩: ∃W,W=w.alloc (.cells #[.int .i64 a1,.int .i64 a2, .slice A as'.length ca] 26):=⟨_,rfl⟩;rw[←an];obtain⟨x1,eS,s1⟩:=CBx.new an;obtain⟨W2,aD⟩: ∃W,W=W1.alloc (.cells #[.int .i64 b1,.int .i64 b2, .slice B bs.length cb] 26):=⟨_,rfl⟩;rw[←aD];obtain⟨x2,cI,s2⟩:=CBx.new aD;obtain⟨W,hW⟩: ∃W,W=W2.alloc (.cells #[.int .i64 0,.int .i64 0, .slice none 0 0] 26):=⟨_,rfl⟩;rw[←hW];obtain⟨x3,iW,s3⟩:=CBx.new hW;have XA:=qA ((x1.below cI).below iW);have XB:=qA (x2.below iW);have XR:=qA x3;rw[s1] at XB;rw[s2,s1] at XR;have BX:Hid (Below w.heap.size w W):=qA (eS.trans ((cI.trans (iW.mono tO)).mono tO));have aW:W.heap.size=w.heap.size+3:=tO;clear hW an aD eS cI iW x1 x2 x3 s1 s2 s3;have HA:Hid (∀w',Below W.heap.size W w'→ArgG w' (.agg #[.int .i64 a1, .int .i64 a2, .slice A as'.length ca]) (a1,a2,as')):=qA fun w' hb=>dI.out.below (BX.out.trans (hb.mono tO));have HB:Hid (∀w',Below W.heap.size W w'→ArgG w' (.agg #[.int .i64 b1, .int .i64 b2, .slice B bs.length cb]) (b1,b2,bs)):=qA fun w' hb=>aI.out.below (BX.out.trans (hb.mono tO));refine(qAH _ (a1,a2,as') W (HA.out W (zab _ _))).mono ?_
 rintro e w1 ⟨rfl,dU⟩;have B1:=qA dU;have fL:=dU.size;clear dU;rcases e1:qR (a1,a2,as') with _ | _
 ·have F:=qA (pQ.out e1);clear e1;obtain⟨z0,z1,z2⟩:=(XR.out.below B1.out).cs;have fA:=(XR.out.below B1.out).fz 0;have fc:=(XR.out.below B1.out).fz 1;have eJ:=(XR.out.below B1.out).fz 2;have lR:w.heap.size+1+1<w1.heap.size:=tO;have aj:=qA (BX.out.trans ((B1.out).mono tO));go_wp2;obtain⟨e0,e1,e2⟩:=qi (.int .i64 0) (.int .i64 0) (.slice none 0 0) z0 z1 z2;have bw:Below w.heap.size w (((w1.setCell ⟨w.heap.size+1+1,0,none⟩ (.int .i64 0)).setCell ⟨w.heap.size+1+1,1,none⟩ (.int .i64 0)).setCell ⟨w.heap.size+1+1,2,none⟩ (.slice none 0 0)):=qL _ _ _ aj.out tO;generalize (((w1.setCell ⟨w.heap.size+1+1,0,none⟩ (.int .i64 0)).setCell ⟨w.heap.size+1+1,1,none⟩ (.int .i64 0)).setCell ⟨w.heap.size+1+1,2,none⟩ (.slice none 0 0))=wf at*;rw[F.out];exact bodyPost_ret (v:= .tuple #[.agg #[(.int .i64 0),(.int .i64 0),(.slice none 0 0)], .bool false]) (by simp[results,Tryz.results17,go_sem,e0,e1,e2]) rfl ⟨_,rfl,⟨.slice none 0 0,rfl,⟨by decide,by decide⟩,⟨by decide,by decide⟩,OwE.nil⟩,bw⟩
 obtain⟨u0,u1,u2⟩:=(XB.out.below B1.out).cs;have mn:w.heap.size+1<w1.heap.size:=tO;go_wp2_with fail;refine(qAH _ (b1,b2,bs) w1 (HB.out w1 B1.out)).mono ?_
 rintro e w2 ⟨rfl,da⟩;have B2:=qA (B1.out.trans (da.mono B1.out.size));have pD:=da.size;clear da u0 u1 u2;rcases e2:qR (b1,b2,bs) with _ | _
 ·have F:=qA (oX.out e2);clear e1 e2;obtain⟨z0,z1,z2⟩:=(XR.out.below B2.out).cs;have fA:=(XR.out.below B2.out).fz 0;have fc:=(XR.out.below B2.out).fz 1;have eJ:=(XR.out.below B2.out).fz 2;have lR:w.heap.size+1+1<w2.heap.size:=tO;have aj:=qA (BX.out.trans ((B2.out).mono tO));go_wp2;obtain⟨e0,e1,e2⟩:=qi (.int .i64 0) (.int .i64 0) (.slice none 0 0) z0 z1 z2;have bw:Below w.heap.size w (((w2.setCell ⟨w.heap.size+1+1,0,none⟩ (.int .i64 0)).setCell ⟨w.heap.size+1+1,1,none⟩ (.int .i64 0)).setCell ⟨w.heap.size+1+1,2,none⟩ (.slice none 0 0)):=qL _ _ _ aj.out tO;generalize (((w2.setCell ⟨w.heap.size+1+1,0,none⟩ (.int .i64 0)).setCell ⟨w.heap.size+1+1,1,none⟩ (.int .i64 0)).setCell ⟨w.heap.size+1+1,2,none⟩ (.slice none 0 0))=wf at*;rw[F.out];exact bodyPost_ret (v:= .tuple #[.agg #[(.int .i64 0),(.int .i64 0),(.slice none 0 0)], .bool false]) (by simp[results,Tryz.results17,go_sem,e0,e1,e2]) rfl ⟨_,rfl,⟨.slice none 0 0,rfl,⟨by decide,by decide⟩,⟨by decide,by decide⟩,OwE.nil⟩,bw⟩
 have cY:=qP e1;have d6:=qP e2;have xy:=xz.out e1;have vA:=DR.out e2;have EU:=qA (fun W' h h'=>qEh (.agg #[.int .i64 a1, .int .i64 a2, .slice A as'.length ca]) (.agg #[.int .i64 b1, .int .i64 b2, .slice B bs.length cb]) (a1,a2,as') (b1,b2,bs) 0 0 W' h h' cY d6 (by first | omega | (simp only;omega)) (by first | omega | (simp only;omega)));have nm:=qA (nm.out cY d6 (by first | omega | (simp only;omega)) (by first | omega | (simp only;omega)));have dL:=qA (dL.out e1 e2);have mV:=qA (mV.out e1 e2);clear e1 e2 cY d6 xy vA;obtain⟨u0,u1,u2⟩:=(XA.out.below B2.out).cs;obtain⟨v0,v1,v2⟩:=(XB.out.below B2.out).cs;have pO:w.heap.size<w2.heap.size:=tO;have GQ:w.heap.size+1<w2.heap.size:=tO;go_wp2_with fail;refine(EU.out w2 (HA.out w2 B2.out) (HB.out w2 B2.out)).mono ?_
 rintro e w3 ⟨r3,rfl,o3,cX⟩;have B3:=qA (B2.out.trans (cX.mono B2.out.size));have sX:=cX.size;clear cX u0 u1 u2 v0 v1 v2;generalize qAw (a1,a2,as') (b1,b2,bs) 0 0=R at*;obtain⟨⟨m1,m2,ms⟩,ok⟩:=R;obtain⟨s3,rfl,bV,ce,aU⟩:=o3;obtain⟨A3,c3,rfl,_⟩:=OwE.form aU;simp only at bV ce aU dL mV nm⊢
 have en:=qA aU;clear aU;have ci:Below w3.heap.size w3 (w3.alloc (.cells #[.int .i64 m1,.int .i64 m2, .slice A3 ms.length c3] 26)):=(zab _ _).alloc (zah _) _;cases ok with
 | false=>
   have F:=qA (dL.out rfl);obtain⟨w4,d9⟩: ∃W,W=w3.alloc (.cells #[.int .i64 m1,.int .i64 m2, .slice A3 ms.length c3] 26):=⟨_,rfl⟩;rw[←d9] at ci;have B4:=qA (B3.out.trans (ci.mono B3.out.size));have vR:=ci.size;obtain⟨z0,z1,z2⟩:=(XR.out.below B4.out).cs;have fA:=(XR.out.below B4.out).fz 0;have fc:=(XR.out.below B4.out).fz 1;have eJ:=(XR.out.below B4.out).fz 2;have lR:w.heap.size+1+1<w4.heap.size:=tO;have aj:=qA (BX.out.trans ((B4.out).mono tO));rw[d9] at z0 z1 z2 fA fc eJ;have pP:=qA d9;clear d9;go_wp2;rw[←pP.out] at z0 z1 z2 fA fc eJ⊢;obtain⟨e0,e1,e2⟩:=qi (.int .i64 0) (.int .i64 0) (.slice none 0 0) z0 z1 z2;have bw:Below w.heap.size w (((w4.setCell ⟨w.heap.size+1+1,0,none⟩ (.int .i64 0)).setCell ⟨w.heap.size+1+1,1,none⟩ (.int .i64 0)).setCell ⟨w.heap.size+1+1,2,none⟩ (.slice none 0 0)):=qL _ _ _ aj.out tO;generalize (((w4.setCell ⟨w.heap.size+1+1,0,none⟩ (.int .i64 0)).setCell ⟨w.heap.size+1+1,1,none⟩ (.int .i64 0)).setCell ⟨w.heap.size+1+1,2,none⟩ (.slice none 0 0))=wf at*;rw[F.out];exact bodyPost_ret (v:= .tuple #[.agg #[(.int .i64 0),(.int .i64 0),(.slice none 0 0)], .bool false]) (by simp[results,Tryz.results17,go_sem,e0,e1,e2]) rfl ⟨_,rfl,⟨.slice none 0 0,rfl,⟨by decide,by decide⟩,⟨by decide,by decide⟩,OwE.nil⟩,bw⟩
 | true=>
   obtain⟨_,yu⟩:=nm.out rfl;have F:=qA (mV.out rfl);have aH:=qA (qE yu).1;have OEA:=qA en.out.arg;clear yu;go_wp2_with fail;obtain⟨w4,d9⟩: ∃W,W=w3.alloc (.cells #[.int .i64 m1,.int .i64 m2, .slice A3 ms.length c3] 26):=⟨_,rfl⟩;rw[←d9] at ci⊢;have B4:=qA (B3.out.trans (ci.mono B3.out.size));have i9:=qA (OEA.out.below ci);have vR:=ci.size;clear d9 ci;refine(qAq _ (m1,m2,ms) w4 ⟨_,rfl,bV,ce,i9.out⟩ aH.out).mono ?_
   rintro e w5 ⟨r5,rfl,o5,gT⟩;have B5:=qA (B4.out.trans (gT.mono B4.out.size));have gd:=gT.size;generalize qAj (m1,m2,ms)=K at*;obtain⟨k1,k2,ks⟩:=K;obtain⟨s5,rfl,oW,iL,bg⟩:=o5;obtain⟨A5,c5,rfl,_⟩:=OwE.form bg;simp only at oW iL bg
   have n9:=qA bg;clear gT bg;obtain⟨z0,z1,z2⟩:=(XR.out.below B5.out).cs;have fA:=(XR.out.below B5.out).fz 0;have fc:=(XR.out.below B5.out).fz 1;have eJ:=(XR.out.below B5.out).fz 2;have lR:w.heap.size+1+1<w5.heap.size:=tO;have aj:=qA (BX.out.trans ((B5.out).mono tO));go_wp2;obtain⟨e0,e1,e2⟩:=qi (.int .i64 k1) (.int .i64 k2) (.slice A5 ks.length c5) z0 z1 z2;have bw:Below w.heap.size w (((w5.setCell ⟨w.heap.size+1+1,0,none⟩ (.int .i64 k1)).setCell ⟨w.heap.size+1+1,1,none⟩ (.int .i64 k2)).setCell ⟨w.heap.size+1+1,2,none⟩ (.slice A5 ks.length c5)):=qL _ _ _ aj.out tO;have ow:OwE (((w5.setCell ⟨w.heap.size+1+1,0,none⟩ (.int .i64 k1)).setCell ⟨w.heap.size+1+1,1,none⟩ (.int .i64 k2)).setCell ⟨w.heap.size+1+1,2,none⟩ (.slice A5 ks.length c5)) w4.heap.size (.slice A5 ks.length c5) ks:=n9.out.keep fun b hb=>qK _ _ _ _ _ (by have:=(n9.out.1.lt b hb).1;omega);generalize (((w5.setCell ⟨w.heap.size+1+1,0,none⟩ (.int .i64 k1)).setCell ⟨w.heap.size+1+1,1,none⟩ (.int .i64 k2)).setCell ⟨w.heap.size+1+1,2,none⟩ (.slice A5 ks.length c5))=wf at*;rw[F.out];exact bodyPost_ret (v:= .tuple #[.agg #[(.int .i64 k1),(.int .i64 k2),(.slice A5 ks.length c5)], .bool true]) (by simp[results,Tryz.results17,go_sem,e0,e1,e2]) rfl ⟨_,rfl,⟨.slice A5 ks.length c5,rfl,oW,iL,ow.mono tO⟩,bw⟩
theorem qDK (va vb:Value) (a b:GrD) (w:World) (ha:ArgG w va a) (hb:ArgG w vb b):
  Calls Tryz.prog 81 #[va,vb] w fun e w'=> ∃r,e= .returned (.tuple #[r, .bool (intF a b).2])∧OwG w' w.heap.size r (intF a b).1∧Below w.heap.size w w':=by
 have dI:=qA ha;have aI:=qA hb;have pQ:Hid (qR a=false→intF a b=((0,0,[]),false)):=qA fun h=>by unfold intF;rw[if_neg fun q=>by rw[h] at q;exact absurd q.1 (by decide)]
 have oX:Hid (qR b=false→intF a b=((0,0,[]),false)):=qA fun h=>by unfold intF;rw[if_neg fun q=>by rw[h] at q;exact absurd q.2 (by decide)]
 have dL:Hid (qR a=true→qR b=true→(qAw a b 0 0).2=false→intF a b=((0,0,[]),false)):=qA fun h1 h2 h3=>by unfold intF;rw[if_pos ⟨h1,h2⟩,if_neg (by rw[h3];decide)]
 have mV:Hid (qR a=true→qR b=true→(qAw a b 0 0).2=true→intF a b=(qAj (qAw a b 0 0).1,true)):=qA fun h1 h2 h3=>by unfold intF;rw[if_pos ⟨h1,h2⟩,if_pos h3]
 have nm:=qA (fun h1 h2=>qJp (a:=a) (b:=b) (u:=0) (v:=0) h1 h2);have xz:=qA (fun h=>(qB (qZ (g:=a) h)).2.1);have DR:=qA (fun h=>(qB (qZ (g:=b) h)).2.1);generalize intF a b=RES at*;obtain⟨sa,rfl,iR,iQ,dJ⟩:=ha;obtain⟨A,ca,rfl⟩:=dJ.form;obtain⟨sb,rfl,iI,iZ,cA⟩:=hb;obtain⟨B,cb,rfl⟩:=cA.form;obtain⟨a1,a2,as'⟩:=a;obtain⟨b1,b2,bs⟩:=b;simp only at*
 clear dJ cA;go_enter Tryz.func81,Tryz.ntmps81
 go_wp2_with fail;obtain⟨W1,an⟩: ∃W,W=w.alloc (.cells #[.int .i64 a1,.int .i64 a2, .slice A as'.length ca] 26):=⟨_,rfl⟩;rw[←an];obtain⟨x1,eS,s1⟩:=CBx.new an;obtain⟨W2,aD⟩: ∃W,W=W1.alloc (.cells #[.int .i64 b1,.int .i64 b2, .slice B bs.length cb] 26):=⟨_,rfl⟩;rw[←aD];obtain⟨x2,cI,s2⟩:=CBx.new aD;obtain⟨W,hW⟩: ∃W,W=W2.alloc (.cells #[.int .i64 0,.int .i64 0, .slice none 0 0] 26):=⟨_,rfl⟩;rw[←hW];obtain⟨x3,iW,s3⟩:=CBx.new hW;have XA:=qA ((x1.below cI).below iW);have XB:=qA (x2.below iW);have XR:=qA x3;rw[s1] at XB;rw[s2,s1] at XR;have BX:Hid (Below w.heap.size w W):=qA (eS.trans ((cI.trans (iW.mono tO)).mono tO));have aW:W.heap.size=w.heap.size+3:=tO;clear hW an aD eS cI iW x1 x2 x3 s1 s2 s3;have HA:Hid (∀w',Below W.heap.size W w'→ArgG w' (.agg #[.int .i64 a1, .int .i64 a2, .slice A as'.length ca]) (a1,a2,as')):=qA fun w' hb=>dI.out.below (BX.out.trans (hb.mono tO));have HB:Hid (∀w',Below W.heap.size W w'→ArgG w' (.agg #[.int .i64 b1, .int .i64 b2, .slice B bs.length cb]) (b1,b2,bs)):=qA fun w' hb=>aI.out.below (BX.out.trans (hb.mono tO));refine(qAR _ (a1,a2,as') W (HA.out W (zab _ _))).mono ?_
 rintro e w1 ⟨rfl,dU⟩;have B1:=qA dU;have fL:=dU.size;clear dU;rcases e1:qR (a1,a2,as') with _ | _
 ·have F:=qA (pQ.out e1);clear e1;obtain⟨z0,z1,z2⟩:=(XR.out.below B1.out).cs;have fA:=(XR.out.below B1.out).fz 0;have fc:=(XR.out.below B1.out).fz 1;have eJ:=(XR.out.below B1.out).fz 2;have lR:w.heap.size+1+1<w1.heap.size:=tO;have aj:=qA (BX.out.trans ((B1.out).mono tO));go_wp2;obtain⟨e0,e1,e2⟩:=qi (.int .i64 0) (.int .i64 0) (.slice none 0 0) z0 z1 z2;have bw:Below w.heap.size w (((w1.setCell ⟨w.heap.size+1+1,0,none⟩ (.int .i64 0)).setCell ⟨w.heap.size+1+1,1,none⟩ (.int .i64 0)).setCell ⟨w.heap.size+1+1,2,none⟩ (.slice none 0 0)):=qL _ _ _ aj.out tO;generalize (((w1.setCell ⟨w.heap.size+1+1,0,none⟩ (.int .i64 0)).setCell ⟨w.heap.size+1+1,1,none⟩ (.int .i64 0)).setCell ⟨w.heap.size+1+1,2,none⟩ (.slice none 0 0))=wf at*;rw[F.out];exact bodyPost_ret (v:= .tuple #[.agg #[(.int .i64 0),(.int .i64 0),(.slice none 0 0)], .bool false]) (by simp[results,Tryz.results81,go_sem,e0,e1,e2]) rfl ⟨_,rfl,⟨.slice none 0 0,rfl,⟨by decide,by decide⟩,⟨by decide,by decide⟩,OwE.nil⟩,bw⟩
 obtain⟨u0,u1,u2⟩:=(XB.out.below B1.out).cs;have mn:w.heap.size+1<w1.heap.size:=tO;go_wp2_with fail;refine(qAR _ (b1,b2,bs) w1 (HB.out w1 B1.out)).mono ?_
 rintro e w2 ⟨rfl,da⟩;have B2:=qA (B1.out.trans (da.mono B1.out.size));have pD:=da.size;clear da u0 u1 u2;rcases e2:qR (b1,b2,bs) with _ | _
 ·have F:=qA (oX.out e2);clear e1 e2;obtain⟨z0,z1,z2⟩:=(XR.out.below B2.out).cs;have fA:=(XR.out.below B2.out).fz 0;have fc:=(XR.out.below B2.out).fz 1;have eJ:=(XR.out.below B2.out).fz 2;have lR:w.heap.size+1+1<w2.heap.size:=tO;have aj:=qA (BX.out.trans ((B2.out).mono tO));go_wp2;obtain⟨e0,e1,e2⟩:=qi (.int .i64 0) (.int .i64 0) (.slice none 0 0) z0 z1 z2;have bw:Below w.heap.size w (((w2.setCell ⟨w.heap.size+1+1,0,none⟩ (.int .i64 0)).setCell ⟨w.heap.size+1+1,1,none⟩ (.int .i64 0)).setCell ⟨w.heap.size+1+1,2,none⟩ (.slice none 0 0)):=qL _ _ _ aj.out tO;generalize (((w2.setCell ⟨w.heap.size+1+1,0,none⟩ (.int .i64 0)).setCell ⟨w.heap.size+1+1,1,none⟩ (.int .i64 0)).setCell ⟨w.heap.size+1+1,2,none⟩ (.slice none 0 0))=wf at*;rw[F.out];exact bodyPost_ret (v:= .tuple #[.agg #[(.int .i64 0),(.int .i64 0),(.slice none 0 0)], .bool false]) (by simp[results,Tryz.results81,go_sem,e0,e1,e2]) rfl ⟨_,rfl,⟨.slice none 0 0,rfl,⟨by decide,by decide⟩,⟨by decide,by decide⟩,OwE.nil⟩,bw⟩
 have cY:=qP e1;have d6:=qP e2;have xy:=xz.out e1;have vA:=DR.out e2;have EU:=qA (fun W' h h'=>qEa (.agg #[.int .i64 a1, .int .i64 a2, .slice A as'.length ca]) (.agg #[.int .i64 b1, .int .i64 b2, .slice B bs.length cb]) (a1,a2,as') (b1,b2,bs) 0 0 W' h h' cY d6 (by first | omega | (simp only;omega)) (by first | omega | (simp only;omega)));have nm:=qA (nm.out cY d6 (by first | omega | (simp only;omega)) (by first | omega | (simp only;omega)));have dL:=qA (dL.out e1 e2);have mV:=qA (mV.out e1 e2);clear e1 e2 cY d6 xy vA;obtain⟨u0,u1,u2⟩:=(XA.out.below B2.out).cs;obtain⟨v0,v1,v2⟩:=(XB.out.below B2.out).cs;have pO:w.heap.size<w2.heap.size:=tO;have GQ:w.heap.size+1<w2.heap.size:=tO;go_wp2_with fail;refine(EU.out w2 (HA.out w2 B2.out) (HB.out w2 B2.out)).mono ?_
 rintro e w3 ⟨r3,rfl,o3,cX⟩;have B3:=qA (B2.out.trans (cX.mono B2.out.size));have sX:=cX.size;clear cX u0 u1 u2 v0 v1 v2;generalize qAw (a1,a2,as') (b1,b2,bs) 0 0=R at*;obtain⟨⟨m1,m2,ms⟩,ok⟩:=R;obtain⟨s3,rfl,bV,ce,aU⟩:=o3;obtain⟨A3,c3,rfl,_⟩:=OwE.form aU;simp only at bV ce aU dL mV nm⊢
 have en:=qA aU;clear aU;have ci:Below w3.heap.size w3 (w3.alloc (.cells #[.int .i64 m1,.int .i64 m2, .slice A3 ms.length c3] 26)):=(zab _ _).alloc (zah _) _;cases ok with
 | false=>
   have F:=qA (dL.out rfl);obtain⟨w4,d9⟩: ∃W,W=w3.alloc (.cells #[.int .i64 m1,.int .i64 m2, .slice A3 ms.length c3] 26):=⟨_,rfl⟩;rw[←d9] at ci;have B4:=qA (B3.out.trans (ci.mono B3.out.size));have vR:=ci.size;obtain⟨z0,z1,z2⟩:=(XR.out.below B4.out).cs;have fA:=(XR.out.below B4.out).fz 0;have fc:=(XR.out.below B4.out).fz 1;have eJ:=(XR.out.below B4.out).fz 2;have lR:w.heap.size+1+1<w4.heap.size:=tO;have aj:=qA (BX.out.trans ((B4.out).mono tO));rw[d9] at z0 z1 z2 fA fc eJ;have pP:=qA d9;clear d9;go_wp2;rw[←pP.out] at z0 z1 z2 fA fc eJ⊢;obtain⟨e0,e1,e2⟩:=qi (.int .i64 0) (.int .i64 0) (.slice none 0 0) z0 z1 z2;have bw:Below w.heap.size w (((w4.setCell ⟨w.heap.size+1+1,0,none⟩ (.int .i64 0)).setCell ⟨w.heap.size+1+1,1,none⟩ (.int .i64 0)).setCell ⟨w.heap.size+1+1,2,none⟩ (.slice none 0 0)):=qL _ _ _ aj.out tO;generalize (((w4.setCell ⟨w.heap.size+1+1,0,none⟩ (.int .i64 0)).setCell ⟨w.heap.size+1+1,1,none⟩ (.int .i64 0)).setCell ⟨w.heap.size+1+1,2,none⟩ (.slice none 0 0))=wf at*;rw[F.out];exact bodyPost_ret (v:= .tuple #[.agg #[(.int .i64 0),(.int .i64 0),(.slice none 0 0)], .bool false]) (by simp[results,Tryz.results81,go_sem,e0,e1,e2]) rfl ⟨_,rfl,⟨.slice none 0 0,rfl,⟨by decide,by decide⟩,⟨by decide,by decide⟩,OwE.nil⟩,bw⟩
 | true=>
   obtain⟨_,yu⟩:=nm.out rfl;have F:=qA (mV.out rfl);have aH:=qA (qE yu).1;have OEA:=qA en.out.arg;clear yu;go_wp2_with fail;obtain⟨w4,d9⟩: ∃W,W=w3.alloc (.cells #[.int .i64 m1,.int .i64 m2, .slice A3 ms.length c3] 26):=⟨_,rfl⟩;rw[←d9] at ci⊢;have B4:=qA (B3.out.trans (ci.mono B3.out.size));have i9:=qA (OEA.out.below ci);have vR:=ci.size;clear d9 ci;refine(qCf _ (m1,m2,ms) w4 ⟨_,rfl,bV,ce,i9.out⟩ aH.out).mono ?_
   rintro e w5 ⟨r5,rfl,o5,gT⟩;have B5:=qA (B4.out.trans (gT.mono B4.out.size));have gd:=gT.size;generalize qAj (m1,m2,ms)=K at*;obtain⟨k1,k2,ks⟩:=K;obtain⟨s5,rfl,oW,iL,bg⟩:=o5;obtain⟨A5,c5,rfl,_⟩:=OwE.form bg;simp only at oW iL bg
   have n9:=qA bg;clear gT bg;obtain⟨z0,z1,z2⟩:=(XR.out.below B5.out).cs;have fA:=(XR.out.below B5.out).fz 0;have fc:=(XR.out.below B5.out).fz 1;have eJ:=(XR.out.below B5.out).fz 2;have lR:w.heap.size+1+1<w5.heap.size:=tO;have aj:=qA (BX.out.trans ((B5.out).mono tO));go_wp2;obtain⟨e0,e1,e2⟩:=qi (.int .i64 k1) (.int .i64 k2) (.slice A5 ks.length c5) z0 z1 z2;have bw:Below w.heap.size w (((w5.setCell ⟨w.heap.size+1+1,0,none⟩ (.int .i64 k1)).setCell ⟨w.heap.size+1+1,1,none⟩ (.int .i64 k2)).setCell ⟨w.heap.size+1+1,2,none⟩ (.slice A5 ks.length c5)):=qL _ _ _ aj.out tO;have ow:OwE (((w5.setCell ⟨w.heap.size+1+1,0,none⟩ (.int .i64 k1)).setCell ⟨w.heap.size+1+1,1,none⟩ (.int .i64 k2)).setCell ⟨w.heap.size+1+1,2,none⟩ (.slice A5 ks.length c5)) w4.heap.size (.slice A5 ks.length c5) ks:=n9.out.keep fun b hb=>qK _ _ _ _ _ (by have:=(n9.out.1.lt b hb).1;omega);generalize (((w5.setCell ⟨w.heap.size+1+1,0,none⟩ (.int .i64 k1)).setCell ⟨w.heap.size+1+1,1,none⟩ (.int .i64 k2)).setCell ⟨w.heap.size+1+1,2,none⟩ (.slice A5 ks.length c5))=wf at*;rw[F.out];exact bodyPost_ret (v:= .tuple #[.agg #[(.int .i64 k1),(.int .i64 k2),(.slice A5 ks.length c5)], .bool true]) (by simp[results,Tryz.results81,go_sem,e0,e1,e2]) rfl ⟨_,rfl,⟨.slice A5 ks.length c5,rfl,oW,iL,ow.mono tO⟩,bw⟩
theorem qAk (va vb:Value) (a b:GrD) (w:World) (ha:ArgG w va a) (hb:ArgG w vb b):
  Calls Tryz.prog 11 #[va,vb] w fun e w'=>e= .returned (.tuple #[.int .i64 (ixF a b).1, .int .i64 (ixF a b).2])∧Below w.heap.size w w':=by
 have dI:=qA ha;have aI:=qA hb;have gO:Hid ((intF a b).2=false→ixF a b=(-1,-1)):=qA fun h=>by unfold ixF;rw[if_neg (by rw[h];decide)]
 have dZ:Hid ((intF a b).2=true→ixF a b=(idxF (intF a b).1 a,idxF (intF a b).1 b)):=qA fun h=>by unfold ixF;rw[if_pos h]
 generalize ixF a b=RES at*;obtain⟨sa,rfl,iR,iQ,dJ⟩:=ha;obtain⟨A,ca,rfl⟩:=dJ.form;obtain⟨sb,rfl,iI,iZ,cA⟩:=hb;obtain⟨B,cb,rfl⟩:=cA.form;obtain⟨a1,a2,as'⟩:=a;obtain⟨b1,b2,bs⟩:=b;simp only at*
 clear dJ cA;go_enter Tryz.func11,Tryz.ntmps11
 go_wp2_with fail;obtain⟨W1,an⟩: ∃W,W=w.alloc (.cells #[.int .i64 a1,.int .i64 a2, .slice A as'.length ca] 26):=⟨_,rfl⟩;rw[←an];obtain⟨x1,eS,s1⟩:=CBx.new an;obtain⟨W2,aD⟩: ∃W,W=W1.alloc (.cells #[.int .i64 b1,.int .i64 b2, .slice B bs.length cb] 26):=⟨_,rfl⟩;rw[←aD];obtain⟨x2,cI,s2⟩:=CBx.new aD;obtain⟨W,hW⟩: ∃W,W=W2:=⟨_,rfl⟩;rw[←hW] at cI x2 s2⊢;have XA:=qA (x1.below cI);have XB:=qA x2;rw[s1] at XB;have BX:Hid (Below w.heap.size w W):=qA (eS.trans (cI.mono tO));have aW:W.heap.size=w.heap.size+2:=tO;clear hW an aD eS cI x1 x2 s1 s2;have HA:Hid (∀w',Below W.heap.size W w'→ArgG w' (.agg #[.int .i64 a1, .int .i64 a2, .slice A as'.length ca]) (a1,a2,as')):=qA fun w' hb=>dI.out.below (BX.out.trans (hb.mono tO));have HB:Hid (∀w',Below W.heap.size W w'→ArgG w' (.agg #[.int .i64 b1, .int .i64 b2, .slice B bs.length cb]) (b1,b2,bs)):=qA fun w' hb=>aI.out.below (BX.out.trans (hb.mono tO));refine(qAh _ _ (a1,a2,as') (b1,b2,bs) W (HA.out W (zab _ _)) (HB.out W (zab _ _))).mono ?_
 rintro e w3 ⟨r3,rfl,o3,cX⟩;have B3:=qA cX;have sX:=cX.size;clear cX;generalize intF (a1,a2,as') (b1,b2,bs)=R at*;obtain⟨⟨m1,m2,ms⟩,ok⟩:=R;obtain⟨s3,rfl,bV,ce,aU⟩:=o3;obtain⟨A3,c3,rfl,_⟩:=OwE.form aU;simp only at bV ce aU gO dZ⊢
 obtain⟨w4,d9⟩: ∃W,W=w3.alloc (.cells #[.int .i64 m1,.int .i64 m2, .slice A3 ms.length c3] 26):=⟨_,rfl⟩;obtain⟨x4,ci,s4⟩:=CBx.new d9;have B4:=qA (B3.out.trans (ci.mono B3.out.size));have i9:Hid (∀w',Below w4.heap.size w4 w'→ArgG w' (.agg #[.int .i64 m1, .int .i64 m2, .slice A3 ms.length c3]) (m1,m2,ms)):=qA fun w' hb=>⟨_,rfl,bV,ce,(aU.arg.below ci).below hb⟩;have aj:=qA (BX.out.trans (B4.out.mono tO));have X4:=qA x4;have pP:=qA d9;clear d9 ci x4 aU;cases ok with
 | false=>
   have F:=qA (gO.out rfl);go_wp2;rw[←pP.out];exact bodyPost_ret (v:= .tuple #[.int .i64 (-1), .int .i64 (-1)]) (by simp[results,Tryz.results11,go_sem]) rfl ⟨by rw[F.out],aj.out⟩
 | true=>
   have F:=qA (dZ.out rfl);go_wp2_with fail;rw[←pP.out];have g0:w.heap.size<w4.heap.size:=tO;have g1:w.heap.size+1<w4.heap.size:=tO;have g2:w3.heap.size<w4.heap.size:=tO;have f0:=BelW.cell (XA.out.below B4.out).c0 g0;have f1:=BelW.cell (XA.out.below B4.out).c1 g0;have f2:=BelW.cell (XA.out.below B4.out).c2 g0;have f3:=BelW.cell (XB.out.below B4.out).c0 g1;have f4:=BelW.cell (XB.out.below B4.out).c1 g1;have f5:=BelW.cell (XB.out.below B4.out).c2 g1;have f6:=BelW.cell X4.out.c0 g2;have f7:=BelW.cell X4.out.c1 g2;have f8:=BelW.cell X4.out.c2 g2;have nU:=B4.out.size;have bM:=qA (fun W' h h'=>qBy (.agg #[.int .i64 m1, .int .i64 m2, .slice A3 ms.length c3]) (.agg #[.int .i64 a1, .int .i64 a2, .slice A as'.length ca]) (m1,m2,ms) (a1,a2,as') W' h h');have cG:=qA (fun W' h h'=>qBy (.agg #[.int .i64 m1, .int .i64 m2, .slice A3 ms.length c3]) (.agg #[.int .i64 b1, .int .i64 b2, .slice B bs.length cb]) (m1,m2,ms) (b1,b2,bs) W' h h');(refine qH tK tK ?_;(repeat(go_big_quiet_step (first | (go_at_call 12;with_reducible exact Calls.bel_of (bM.out _ (i9.out _ (BelW.h _)) (HA.out _ (B4.out.trans ((BelW.h _).mono nU))))) | (go_at_call 12;with_reducible exact Calls.bel_of (cG.out _ (i9.out _ (BelW.h _)) (HB.out _ (B4.out.trans ((BelW.h _).mono nU))))))));refine wpQuiet_nil ?_;intro wq aA;obtain⟨pq,ae⟩:=aA;have bq:=pq.h;rw[←ae] at bq;clear ae pq)
   have ej:=qA (aj.out.trans (bq.mono tO));clear bq f0 f1 f2 f3 f4 f5 f6 f7 f8;generalize idxF (m1,m2,ms) (a1,a2,as')=j1 at*;generalize idxF (m1,m2,ms) (b1,b2,bs)=j2 at*;go_wp2;exact bodyPost_ret (v:= .tuple #[.int .i64 j1, .int .i64 j2]) (by simp[results,Tryz.results11,go_sem]) rfl ⟨by rw[F.out],ej.out⟩
theorem qAl (va vb:Value) (a b:GrD) (w:World) (ha:ArgG w va a) (hb:ArgG w vb b):
  Calls Tryz.prog 10 #[va,vb] w fun e w'=>e= .returned (.tuple #[.int .i64 (ixF a b).1, .int .i64 (ixF a b).2])∧Below w.heap.size w w':=by
 have dI:=qA ha;have aI:=qA hb;have gO:Hid ((intF a b).2=false→ixF a b=(-1,-1)):=qA fun h=>by unfold ixF;rw[if_neg (by rw[h];decide)]
 have dZ:Hid ((intF a b).2=true→ixF a b=(idxF (intF a b).1 a,idxF (intF a b).1 b)):=qA fun h=>by unfold ixF;rw[if_pos h]
 generalize ixF a b=RES at*;obtain⟨sa,rfl,iR,iQ,dJ⟩:=ha;obtain⟨A,ca,rfl⟩:=dJ.form;obtain⟨sb,rfl,iI,iZ,cA⟩:=hb;obtain⟨B,cb,rfl⟩:=cA.form;obtain⟨a1,a2,as'⟩:=a;obtain⟨b1,b2,bs⟩:=b;simp only at*
 clear dJ cA;go_enter Tryz.func10,Tryz.ntmps10
 go_wp2_with fail;obtain⟨W1,an⟩: ∃W,W=w.alloc (.cells #[.int .i64 a1,.int .i64 a2, .slice A as'.length ca] 26):=⟨_,rfl⟩;rw[←an];obtain⟨x1,eS,s1⟩:=CBx.new an;obtain⟨W2,aD⟩: ∃W,W=W1.alloc (.cells #[.int .i64 b1,.int .i64 b2, .slice B bs.length cb] 26):=⟨_,rfl⟩;rw[←aD];obtain⟨x2,cI,s2⟩:=CBx.new aD;obtain⟨W,hW⟩: ∃W,W=W2:=⟨_,rfl⟩;rw[←hW] at cI x2 s2⊢;have XA:=qA (x1.below cI);have XB:=qA x2;rw[s1] at XB;have BX:Hid (Below w.heap.size w W):=qA (eS.trans (cI.mono tO));have aW:W.heap.size=w.heap.size+2:=tO;clear hW an aD eS cI x1 x2 s1 s2;have HA:Hid (∀w',Below W.heap.size W w'→ArgG w' (.agg #[.int .i64 a1, .int .i64 a2, .slice A as'.length ca]) (a1,a2,as')):=qA fun w' hb=>dI.out.below (BX.out.trans (hb.mono tO));have HB:Hid (∀w',Below W.heap.size W w'→ArgG w' (.agg #[.int .i64 b1, .int .i64 b2, .slice B bs.length cb]) (b1,b2,bs)):=qA fun w' hb=>aI.out.below (BX.out.trans (hb.mono tO));refine(qDK _ _ (a1,a2,as') (b1,b2,bs) W (HA.out W (zab _ _)) (HB.out W (zab _ _))).mono ?_
 rintro e w3 ⟨r3,rfl,o3,cX⟩;have B3:=qA cX;have sX:=cX.size;clear cX;generalize intF (a1,a2,as') (b1,b2,bs)=R at*;obtain⟨⟨m1,m2,ms⟩,ok⟩:=R;obtain⟨s3,rfl,bV,ce,aU⟩:=o3;obtain⟨A3,c3,rfl,_⟩:=OwE.form aU;simp only at bV ce aU gO dZ⊢
 obtain⟨w4,d9⟩: ∃W,W=w3.alloc (.cells #[.int .i64 m1,.int .i64 m2, .slice A3 ms.length c3] 26):=⟨_,rfl⟩;obtain⟨x4,ci,s4⟩:=CBx.new d9;have B4:=qA (B3.out.trans (ci.mono B3.out.size));have i9:Hid (∀w',Below w4.heap.size w4 w'→ArgG w' (.agg #[.int .i64 m1, .int .i64 m2, .slice A3 ms.length c3]) (m1,m2,ms)):=qA fun w' hb=>⟨_,rfl,bV,ce,(aU.arg.below ci).below hb⟩;have aj:=qA (BX.out.trans (B4.out.mono tO));have X4:=qA x4;have pP:=qA d9;clear d9 ci x4 aU;cases ok with
 | false=>
   have F:=qA (gO.out rfl);go_wp2;rw[←pP.out];exact bodyPost_ret (v:= .tuple #[.int .i64 (-1), .int .i64 (-1)]) (by simp[results,Tryz.results10,go_sem]) rfl ⟨by rw[F.out],aj.out⟩
 | true=>
   have F:=qA (dZ.out rfl);go_wp2_with fail;rw[←pP.out];have g0:w.heap.size<w4.heap.size:=tO;have g1:w.heap.size+1<w4.heap.size:=tO;have g2:w3.heap.size<w4.heap.size:=tO;have f0:=BelW.cell (XA.out.below B4.out).c0 g0;have f1:=BelW.cell (XA.out.below B4.out).c1 g0;have f2:=BelW.cell (XA.out.below B4.out).c2 g0;have f3:=BelW.cell (XB.out.below B4.out).c0 g1;have f4:=BelW.cell (XB.out.below B4.out).c1 g1;have f5:=BelW.cell (XB.out.below B4.out).c2 g1;have f6:=BelW.cell X4.out.c0 g2;have f7:=BelW.cell X4.out.c1 g2;have f8:=BelW.cell X4.out.c2 g2;have nU:=B4.out.size;have bM:=qA (fun W' h h'=>qCD (.agg #[.int .i64 m1, .int .i64 m2, .slice A3 ms.length c3]) (.agg #[.int .i64 a1, .int .i64 a2, .slice A as'.length ca]) (m1,m2,ms) (a1,a2,as') W' h h');have cG:=qA (fun W' h h'=>qCD (.agg #[.int .i64 m1, .int .i64 m2, .slice A3 ms.length c3]) (.agg #[.int .i64 b1, .int .i64 b2, .slice B bs.length cb]) (m1,m2,ms) (b1,b2,bs) W' h h');(refine qH tK tK ?_;(repeat(go_big_quiet_step (first | (go_at_call 9;with_reducible exact Calls.bel_of (bM.out _ (i9.out _ (BelW.h _)) (HA.out _ (B4.out.trans ((BelW.h _).mono nU))))) | (go_at_call 9;with_reducible exact Calls.bel_of (cG.out _ (i9.out _ (BelW.h _)) (HB.out _ (B4.out.trans ((BelW.h _).mono nU))))))));refine wpQuiet_nil ?_;intro wq aA;obtain⟨pq,ae⟩:=aA;have bq:=pq.h;rw[←ae] at bq;clear ae pq)
   have ej:=qA (aj.out.trans (bq.mono tO));clear bq f0 f1 f2 f3 f4 f5 f6 f7 f8;generalize idxF (m1,m2,ms) (a1,a2,as')=j1 at*;generalize idxF (m1,m2,ms) (b1,b2,bs)=j2 at*;go_wp2;exact bodyPost_ret (v:= .tuple #[.int .i64 j1, .int .i64 j2]) (by simp[results,Tryz.results10,go_sem]) rfl ⟨by rw[F.out],ej.out⟩
theorem qCh (va vb:Value) (a b:GrD) (w:World) (ha:ArgG w va a) (hb:ArgG w vb b):
  Calls Tryz.prog 14 #[va,vb] w fun e w'=>e= .returned (.bool (arF a b))∧Below w.heap.size w w':=by
 have dI:=qA ha;have aI:=qA hb;have q8:Hid (arF a b=(decide (0<(ixF a b).1)&&decide (0<(ixF a b).2))):=qA rfl;generalize arF a b=RES at*;obtain⟨sa,rfl,iR,iQ,dJ⟩:=ha;obtain⟨A,ca,rfl⟩:=dJ.form;obtain⟨sb,rfl,iI,iZ,cA⟩:=hb;obtain⟨B,cb,rfl⟩:=cA.form;obtain⟨a1,a2,as'⟩:=a;obtain⟨b1,b2,bs⟩:=b;simp only at*
 clear dJ cA;go_enter Tryz.func14,Tryz.ntmps14
 go_wp2_with fail;obtain⟨W1,an⟩: ∃W,W=w.alloc (.cells #[.int .i64 a1,.int .i64 a2, .slice A as'.length ca] 26):=⟨_,rfl⟩;rw[←an];obtain⟨x1,eS,s1⟩:=CBx.new an;obtain⟨W2,aD⟩: ∃W,W=W1.alloc (.cells #[.int .i64 b1,.int .i64 b2, .slice B bs.length cb] 26):=⟨_,rfl⟩;rw[←aD];obtain⟨x2,cI,s2⟩:=CBx.new aD;obtain⟨W,hW⟩: ∃W,W=W2:=⟨_,rfl⟩;rw[←hW] at cI x2 s2⊢;have XA:=qA (x1.below cI);have XB:=qA x2;rw[s1] at XB;have BX:Hid (Below w.heap.size w W):=qA (eS.trans (cI.mono tO));have aW:W.heap.size=w.heap.size+2:=tO;clear hW an aD eS cI x1 x2 s1 s2;have HA:Hid (∀w',Below W.heap.size W w'→ArgG w' (.agg #[.int .i64 a1, .int .i64 a2, .slice A as'.length ca]) (a1,a2,as')):=qA fun w' hb=>dI.out.below (BX.out.trans (hb.mono tO));have HB:Hid (∀w',Below W.heap.size W w'→ArgG w' (.agg #[.int .i64 b1, .int .i64 b2, .slice B bs.length cb]) (b1,b2,bs)):=qA fun w' hb=>aI.out.below (BX.out.trans (hb.mono tO));refine(qAk _ _ (a1,a2,as') (b1,b2,bs) W (HA.out W (zab _ _)) (HB.out W (zab _ _))).mono ?_
 rintro e w3 ⟨rfl,cX⟩;have aj:=qA (BX.out.trans (cX.mono tO));clear cX;generalize ixF (a1,a2,as') (b1,b2,bs)=R at*;obtain⟨m,n⟩:=R;simp only at q8⊢
 rcases e1:decide (0<m) with _ | _
 ·have h1: ¬0<m:=by simpa using e1
  have F:=qA (q8.out.trans (by simp[e1]:(decide (0<m)&&decide (0<n))=false));clear e1;go_wp2;go_ret;exact⟨qM F.out.symm,aj.out⟩
 ·have h1:0<m:=by simpa using e1
  rcases e2:decide (0<n) with _ | _
  ·have h2: ¬0<n:=by simpa using e2
   have F:=qA (q8.out.trans (by simp[e1,e2]:(decide (0<m)&&decide (0<n))=false));clear e1 e2;go_wp2;go_ret;exact⟨qM F.out.symm,aj.out⟩
  ·have h2:0<n:=by simpa using e2
   have F:=qA (q8.out.trans (by simp[e1,e2]:(decide (0<m)&&decide (0<n))=true));clear e1 e2;go_wp2;go_ret;exact⟨qM F.out.symm,aj.out⟩
theorem qCd (va vb:Value) (a b:GrD) (w:World) (ha:ArgG w va a) (hb:ArgG w vb b):
  Calls Tryz.prog 13 #[va,vb] w fun e w'=>e= .returned (.bool (arF a b))∧Below w.heap.size w w':=by
 have dI:=qA ha;have aI:=qA hb;have q8:Hid (arF a b=(decide (0<(ixF a b).1)&&decide (0<(ixF a b).2))):=qA rfl;generalize arF a b=RES at*;obtain⟨sa,rfl,iR,iQ,dJ⟩:=ha;obtain⟨A,ca,rfl⟩:=dJ.form;obtain⟨sb,rfl,iI,iZ,cA⟩:=hb;obtain⟨B,cb,rfl⟩:=cA.form;obtain⟨a1,a2,as'⟩:=a;obtain⟨b1,b2,bs⟩:=b;simp only at*
 clear dJ cA;go_enter Tryz.func13,Tryz.ntmps13
 go_wp2_with fail;obtain⟨W1,an⟩: ∃W,W=w.alloc (.cells #[.int .i64 a1,.int .i64 a2, .slice A as'.length ca] 26):=⟨_,rfl⟩;rw[←an];obtain⟨x1,eS,s1⟩:=CBx.new an;obtain⟨W2,aD⟩: ∃W,W=W1.alloc (.cells #[.int .i64 b1,.int .i64 b2, .slice B bs.length cb] 26):=⟨_,rfl⟩;rw[←aD];obtain⟨x2,cI,s2⟩:=CBx.new aD;obtain⟨W,hW⟩: ∃W,W=W2:=⟨_,rfl⟩;rw[←hW] at cI x2 s2⊢;have XA:=qA (x1.below cI);have XB:=qA x2;rw[s1] at XB;have BX:Hid (Below w.heap.size w W):=qA (eS.trans (cI.mono tO));have aW:W.heap.size=w.heap.size+2:=tO;clear hW an aD eS cI x1 x2 s1 s2;have HA:Hid (∀w',Below W.heap.size W w'→ArgG w' (.agg #[.int .i64 a1, .int .i64 a2, .slice A as'.length ca]) (a1,a2,as')):=qA fun w' hb=>dI.out.below (BX.out.trans (hb.mono tO));have HB:Hid (∀w',Below W.heap.size W w'→ArgG w' (.agg #[.int .i64 b1, .int .i64 b2, .slice B bs.length cb]) (b1,b2,bs)):=qA fun w' hb=>aI.out.below (BX.out.trans (hb.mono tO));refine(qAl _ _ (a1,a2,as') (b1,b2,bs) W (HA.out W (zab _ _)) (HB.out W (zab _ _))).mono ?_
 rintro e w3 ⟨rfl,cX⟩;have aj:=qA (BX.out.trans (cX.mono tO));clear cX;generalize ixF (a1,a2,as') (b1,b2,bs)=R at*;obtain⟨m,n⟩:=R;simp only at q8⊢
 rcases e1:decide (0<m) with _ | _
 ·have h1: ¬0<m:=by simpa using e1
  have F:=qA (q8.out.trans (by simp[e1]:(decide (0<m)&&decide (0<n))=false));clear e1;go_wp2;go_ret;exact⟨qM F.out.symm,aj.out⟩
 ·have h1:0<m:=by simpa using e1
  rcases e2:decide (0<n) with _ | _
  ·have h2: ¬0<n:=by simpa using e2
   have F:=qA (q8.out.trans (by simp[e1,e2]:(decide (0<m)&&decide (0<n))=false));clear e1 e2;go_wp2;go_ret;exact⟨qM F.out.symm,aj.out⟩
  ·have h2:0<n:=by simpa using e2
   have F:=qA (q8.out.trans (by simp[e1,e2]:(decide (0<m)&&decide (0<n))=true));clear e1 e2;go_wp2;go_ret;exact⟨qM F.out.symm,aj.out⟩
end Go.Proofs.YtnjpoljbagfdnaaGreat
