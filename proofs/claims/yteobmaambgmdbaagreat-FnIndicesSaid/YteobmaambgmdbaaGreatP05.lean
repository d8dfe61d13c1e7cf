/- Parts of the proof: Trim, TwP, FoldP, FoldU. -/
import Derived.Test.YteobmaambgmdbaaGreatP04
import Derived.Test.YteobmaambgmdbaaGreatP02
namespace Go.Proofs.YteobmaambgmdbaaGreat
set_option maxRecDepth 20000
set_option linter.unusedVariables false
set_option linter.unusedSimpArgs false
open Go.RowKit
def bools (bs:List Bool):List Value:=bs.map Value.bool
def OwB (w:World) (base:Nat) (v:Value) (bs:List Bool):Prop:=w.ownsRow base 4 1 v bs.length (bools bs)
section
variable {w w':World} {base n g cap:Nat} {v:Value} {bs:List Bool}
theorem OwB.len (h:OwB w base (.slice (some ⟨g,0,none⟩) n cap) bs):n=bs.length:=by
 rcases h.2 with ⟨hv,_⟩ | ⟨g',cap',cur,hv,_⟩
 ·cases hv
 ·injection hv
theorem OwB.set (h:OwB w base (.slice (some ⟨g,0,none⟩) n cap) bs) (j:Nat) (z:Bool):
  OwB (w.setCell ⟨g,j,none⟩ (.bool z)) base (.slice (some ⟨g,0,none⟩) n cap) (bs.set j z)∧w.grownBy (w.setCell ⟨g,j,none⟩ (.bool z)) (some g):=by
 have hn:=h.len
 subst hn
 obtain⟨h1,h2⟩:=World.ownsRow.stored h j (.bool z)
 refine⟨?_,h2⟩
 unfold OwB
 rw[List.length_set]
 simpa[bools,List.map_set] using h1
theorem OwB.cellAt (h:OwB w base (.slice (some ⟨g,0,none⟩) n cap) bs) (j:Nat) (hj:j<bs.length):w.cell? ⟨g,j,none⟩=some (.bool bs[j]):=by
 have hn:=h.len
 subst hn
 rw[World.ownsRow.cellAt h j (by omega)]
 simp[bools,hj]
theorem OwB.free (h:OwB w base (.slice (some ⟨g,0,none⟩) n cap) bs) (j:Nat):w.frozen? ⟨g,j,none⟩=false:=by
 have hn:=h.len
 subst hn
 exact World.ownsRow.frozenAt h j
end
theorem OwB.below {w w':World} {base:Nat} {v:Value} {bs:List Bool} (h:OwB w base v bs) (hb:Below w.heap.size w w'):OwB w' base v bs:=ownsRow_below h hb
theorem OwB.mono {w:World} {base base':Nat} {v:Value} {bs:List Bool} (h:OwB w base v bs) (hb:base'≤base):OwB w base' v bs:=by
 refine⟨h.1,?_⟩
 rcases h.2 with h0 | ⟨g,cap,cur,hv,hg,r⟩
 ·exact .inl h0
 ·exact .inr ⟨g,cap,cur,hv,by omega,r⟩
def cellF (w:World) (b v:Nat):Nat:=match w.cell? ⟨b,v,none⟩ with
 | some (.bool false)=>1
 | _=>0
def mB (w:World) (b n:Nat):Nat:=((List.range n).map (cellF w b)).sum
theorem sum_count (bs:List Bool):(bs.map fun b=>if b=false then 1 else 0).sum=bs.count false:=by
 induction bs with
 | nil=>rfl
 | cons b bs ih=>cases b<;>simp[ih];omega
theorem mB_eq {w:World} {base g n cap:Nat} {bs:List Bool} (h:OwB w base (.slice (some ⟨g,0,none⟩) n cap) bs):mB w g bs.length=bs.count false:=by
 rw[←sum_count]
 unfold mB
 congr 1
 refine List.ext_getElem (by simp) fun i h1 h2=> ?_
 have hi:i<bs.length:=by simpa using h2
 simp only[List.getElem_map,List.getElem_range]
 unfold cellF
 rw[h.cellAt i hi]
 cases bs[i]<;>rfl
def JI (es:List EdD) (n:Nat) (bs:List Bool):Prop:=bs.length=n∧bs[0]? =some true∧ ∀v:Nat,bs[v]? =some true→Conn es 0 v
theorem set_true_get {bs:List Bool} {a v:Nat}:(bs.set a true)[v]? =some true↔(v=a∧a<bs.length)∨bs[v]? =some true:=by
 rw[List.getElem?_set]
 by_cases e:a=v
 ·subst e
  by_cases hl:a<bs.length
  ·simp[hl]
  ·simp[hl]
 ·rw[if_neg e]
  constructor
  ·exact .inr
  ·rintro(⟨h,_⟩ | h)
   ·exact absurd h.symm e
   ·exact h
theorem count_set_true {bs:List Bool} {a:Nat} (ha:a<bs.length):(bs.set a true).count false+(if bs[a]=false then 1 else 0)=bs.count false:=by
 induction bs generalizing a with
 | nil=>simp at ha
 | cons b bs ih=>
   cases a with
   | zero=>cases b<;>simp
   | succ a=>
     have:=ih (a:=a) (by simpa using ha)
     cases b<;>simp[List.count_cons]<;>omega
theorem JI.step {es:List EdD} {n a c:Nat} {bs:List Bool} {l:Int} (h:JI es n bs) (he:((a:Int),l,(c:Int))∈es) (ha:a<n) (hc:c<n) (hne:bs[a]? ≠bs[c]?):
  JI es n ((bs.set a true).set c true)∧((bs.set a true).set c true).count false<bs.count false:=by
 obtain⟨h1,h2,h3⟩:=h
 have hla:a<bs.length:=by omega
 have hlc:c<bs.length:=by omega
 have e1:bs[a]? =some bs[a]:=by simp[hla]
 have e2:bs[c]? =some bs[c]:=by simp[hlc]
 have hor:bs[a]? =some true∨bs[c]? =some true:=by
  rw[e1,e2] at hne⊢
  cases h:bs[a]<;>cases h':bs[c]<;>simp[h,h'] at hne⊢
 refine⟨⟨by simp[h1],?_,fun v hv=> ?_⟩,?_⟩
 ·rw[set_true_get,set_true_get]
  exact .inr (.inr h2)
 ·rw[set_true_get,set_true_get] at hv
  rcases hv with ⟨rfl,_⟩ | ⟨rfl,_⟩ | hv
  ·rcases hor with h | h
   ·exact Conn.fwd _ he (h3 _ h)
   ·exact h3 _ h
  ·rcases hor with h | h
   ·exact h3 _ h
   ·exact Conn.back _ he (h3 _ h)
  ·exact h3 _ hv
 ·have k1:=count_set_true hla
  have k2:=count_set_true (bs:=bs.set a true) (a:=c) (by simpa using hlc)
  rw[e1,e2] at hne
  have hac:a≠c:=fun e=>by subst e;exact hne rfl
  have k3:(bs.set a true)[c]'(by simpa using hlc)=bs[c]:=by rw[List.getElem_set_ne hac]
  rw[k3] at k2
  cases h:bs[a]<;>cases h':bs[c]<;>simp[h,h'] at hne k1 k2<;>omega
theorem JI.done {es:List EdD} {n:Nat} {bs:List Bool} (h:JI es n bs) (hr: ∀e∈es,0≤e.1∧0≤e.2.2) (hcl: ∀e∈es,bs[e.1.toNat]? =bs[e.2.2.toNat]?):
  ∀v (hv:v<bs.length),bs[v]=hasB (reachL es 0) v:=by
 intro v hv
 have key:bs[v]? =some true↔Conn es 0 v:=by
  refine⟨h.2.2 v,fun hc=> ?_⟩
  have:=conn_of_closed (S:=fun x=>0≤x→bs[x.toNat]? =some true) (v:=0) (fun _=>h.2.1) ?_ hc (by omega)
  ·simpa using this
  ·intro e he
   obtain⟨a,b⟩:=hr e he
   have:=hcl e he
   exact⟨fun hx _=>by rw[←this];exact hx a,fun hx _=>by rw[this];exact hx b⟩
 rw[Bool.eq_iff_iff,hasB_iff,reachL_mem,←key]
 simp[hv]
theorem heapSize_setCell' (w:World) (a:Addr) (u:Value):(w.setCell a u).heap.size=w.heap.size:=by simp
theorem bool_info:(Tryz.prog.info? 4).map (fun i=>(i.zero,i.size,i.bytes))=some (some (.bool false),1,1):=by kernel_rfl
def joinL (g:GrD):List Bool:=(List.range g.2.1.toNat).map fun v=>hasB (reachL g.2.2 0) (v:Nat)
theorem joinL_of {g:GrD} {bs:List Bool} (hl:bs.length=g.2.1.toNat) (h: ∀v (hv:v<bs.length),bs[v]=hasB (reachL g.2.2 0) v):bs=joinL g:=by
 refine List.ext_getElem (by simp[joinL,hl]) fun i h1 h2=> ?_
 rw[h i h1]
 simp[joinL]
set_option maxHeartbeats 1000000 in
theorem joined_any (v:Value) (g:GrD) (w:World) (h:ArgG w v g) (hg:grB g=true):
  Calls Tryz.prog 138 #[v, .int .i64 0] w fun e w'=> ∃r,e= .returned r∧OwB w' w.heap.size r (joinL g)∧Below w.heap.size w w':=by
 have HG:=hDD h
 obtain⟨hr13,hsz40,hl120,_⟩:=grB_parts hg
 have HED:=hDD (fun e he=>edge_of_gr hg (e:=e) he)
 have HJ:Hid (∀bs:List Bool,bs.length=g.2.1.toNat→(∀v (hv:v<bs.length),bs[v]=hasB (reachL g.2.2 0) v)→bs=joinL g):=hDD fun bs=>joinL_of
 generalize joinL g=JL at*
 clear hg h
 obtain⟨r,n,es⟩:=g
 simp only at hr13 hsz40 hl120 HG HED HJ
 obtain⟨N,rfl⟩: ∃N:Nat,n=(N:Int):=⟨n.toNat,by omega⟩
 have hN1:1≤N:=by omega
 have hN2:N≤40:=by omega
 clear hsz40 hr13
 obtain⟨A,cap,rfl,HE⟩: ∃A cap,v= .agg #[.int .i64 r, .int .i64 N, .slice A es.length cap]∧Hid (ArgE w (.slice A es.length cap) es):=by
  obtain⟨s,hv,_,_,ha⟩:=HG.out
  obtain⟨A,cap,rfl⟩:=ha.form
  exact⟨A,cap,hv,hDD ha⟩
 have hbndE:es.length≤cap∧cap≤maxLen:=by
  obtain⟨_,_,hv,h1,h2,_⟩:=HE.out
  injection hv with _ _ e3
  subst e3
  exact⟨h1,h2⟩
 obtain⟨hcap,hm⟩:=hbndE
 unfold maxLen at hm
 have bx:Below w.heap.size w (w.alloc (Obj.cells #[Value.int IntKind.i64 r,Value.int IntKind.i64 N, .slice A es.length cap] 26)):=(by repeat(first | exact Below.refl _ _ | (refine Below.setCell ?_ (by first | omega | (simp<;>omega)) _) | (refine bel_drewN ?_ _) | (refine Below.drew ?_) | (refine Below.alloc ?_ (by first | omega | (simp<;>omega)) _)))
 go_enter Tryz.func138,Tryz.ntmps138
 obtain⟨i0,hi0,hz0,hz1,hz2⟩:=info_parts bool_info
 go_wp2_with (at_make;refine wpList_make_full _ rfl _ _ 112 rfl (w.heap.size+1) 4 i0 (.bool false) 1 Tryz.underlying112 hi0 hz0 hz1 _ _ _ _ N rfl rfl rfl rfl (by rw[hz2];omega) (by unfold maxLen;omega) (by simp) ?_)
 have b1:(w.alloc (Obj.cells #[Value.int IntKind.i64 r,Value.int IntKind.i64 N, .slice A es.length cap] 26)).cell? ⟨w.heap.size,1,none⟩=some (.int .i64 N):=by simp[go_sem]
 have b2:(w.alloc (Obj.cells #[Value.int IntKind.i64 r,Value.int IntKind.i64 N, .slice A es.length cap] 26)).cell? ⟨w.heap.size,2,none⟩=some (.slice A es.length cap):=by simp[go_sem]
 have hsW:(w.alloc (Obj.cells #[Value.int IntKind.i64 r,Value.int IntKind.i64 N, .slice A es.length cap] 26)).heap.size=w.heap.size+1:=by simp
 generalize w.alloc (Obj.cells #[Value.int IntKind.i64 r,Value.int IntKind.i64 N, .slice A es.length cap] 26)=w1 at bx b1 b2 hsW⊢
 rw[←hsW]
 have hlt1:w.heap.size<w1.heap.size:=by omega
 have HSW:=hDD hsW
 clear hsW
 have B2:=hDD b2
 have BX:=hDD bx
 clear b2 bx
 intro w2 hown0 hgrow0
 have own0:OwB w2 w1.heap.size (.slice (some ⟨w1.heap.size,0,none⟩) N N) (List.replicate N false):=by
  unfold OwB
  rw[List.length_replicate]
  have:bools (List.replicate N false)=List.replicate N (Value.bool false):=by simp[bools]
  rw[this]
  simpa[toList_madeCells_one] using hown0
 have hc0:=own0.cellAt 0 (by simp;omega)
 have hf0:=own0.free 0
 have O1:=hDD (own0.set 0 true)
 have G0:=hDD hgrow0
 have hP2:w1.heap.size<w2.heap.size:=(own0.lt w1.heap.size rfl).2
 have j1:(0:Int)<(N:Int):=by omega
 clear hown0 own0 hgrow0
 simp only[List.getElem_replicate] at hc0
 have JI0:Hid (JI es N ((List.replicate N false).set 0 true)):=hDD (by
  refine⟨by simp,?_,fun v hv=> ?_⟩
  ·rw[set_true_get];left;exact⟨rfl,by simp;omega⟩
  ·rw[set_true_get] at hv
   rcases hv with ⟨rfl,_⟩ | hv
   ·exact Conn.base
   ·rw[List.getElem?_replicate] at hv
    split at hv
    ·injection hv with hv;cases hv
    ·cases hv)
 have HR0:Hid (∀e∈es,0≤e.1∧0≤e.2.2):=hDD fun e he=>by have:=HED.out e he;omega
 go_wp2
 go_loopw [6] (fun a wr=> ∃(ag:Bool) (bs:List Bool),a= .bool ag∧JI es N bs∧OwB wr w1.heap.size (.slice (some ⟨w1.heap.size,0,none⟩) N N) bs∧Below w1.heap.size w1 wr∧(ag=false→ ∀e∈es,bs[e.1.toNat]? =bs[e.2.2.toNat]?)) (fun a wr=>2*mB wr w1.heap.size N+(match a with | .bool true=>1 | _=>0))
 case atStart=>exact⟨true,_,rfl,JI0.out,O1.out.1,((Below.refl _ _).grown G0.out (Nat.le_refl _) (fun k h=>by cases h)).grown O1.out.2 (by omega) (fun k h=>by cases h;omega),fun h=>by cases h⟩
 case round=>
  obtain⟨ag,bs,rfl,hji,hown,hbel,hcl⟩:=hrel
  have HJI:=hDD hji
  have HO:=hDD hown
  have HB:=hDD hbel
  have HCL:=hDD hcl
  have hbl:=hji.1
  have hm0:=mB_eq hown
  rw[hbl] at hm0
  have HM:=hDD hm0
  clear hm0
  clear hji hown hcl
  cases ag with
  | false=>
    have HF:Hid (bs=JL):=hDD (HJ.out bs (by simpa using hbl) (HJI.out.done HR0.out (HCL.out rfl)))
    have BB:Hid (Below w.heap.size w wr):=hDD (BX.out.trans (hbel.mono (by omega)))
    have hbase:w.heap.size≤w1.heap.size:=by omega
    clear hbel
    have HOJ:Hid (OwB wr w.heap.size (.slice (some ⟨w1.heap.size,0,none⟩) N N) JL):=hDD (by rw[←HF.out];exact HO.out.mono hbase)
    go_wp2
    exact bodyPost_ret (v:= .slice (some ⟨w1.heap.size,0,none⟩) N N) (by simp[results,Tryz.results138]) rfl ⟨_,rfl,HOJ.out,BB.out⟩
  | true=>
    have q2:=(hbel.cell (p:=⟨w.heap.size,2,none⟩) (show w.heap.size<w1.heap.size from hlt1)).trans B2.out
    clear hbel hbl
    obtain⟨wo,hwo⟩: ∃wo:World,wo=wr:=⟨_,rfl⟩
    have HWO:=hDD hwo
    clear hwo
    go_wp2
    go_loopw [6,19] (fun a i wr=> ∃(k:Nat) (ag:Bool) (b2:List Bool),k≤es.length∧i= .int .i64 k∧a= .bool ag∧JI es N b2∧OwB wr w1.heap.size (.slice (some ⟨w1.heap.size,0,none⟩) N N) b2∧Below w1.heap.size w1 wr∧b2.count false≤bs.count false∧(ag=true→b2.count false<bs.count false)∧(ag=false→ ∀j (hj:j<es.length),j<k→b2[es[j].1.toNat]? =b2[es[j].2.2.toNat]?)) (fun _ i _=>es.length-(intOf i).toNat)
    case atStart=>exact⟨0,false,bs,Nat.zero_le _,rfl,rfl,HJI.out,HO.out,HB.out,Nat.le_refl _,(fun h=>by cases h),fun _ j hj h=>absurd h (by omega)⟩
    case round=>
     obtain⟨k,ag,b2,hk,rfl,rfl,hji2,hown2,hbel2,hle2,hlt2,hcl2⟩:=hrel
     have HJ2:=hDD hji2
     have HO2:=hDD hown2
     have HB2:=hDD hbel2
     have HLE:=hDD hle2
     have HLT:=hDD hlt2
     have HC2:=hDD hcl2
     have hbl2:=hji2.1
     have hP:=(hown2.lt w1.heap.size rfl).2
     have s12:=hbel2.size
     clear hji2 hle2 hlt2 hcl2
     by_cases hlt:k<es.length
     ·obtain⟨be,offe,rfl,hbe,c0,c1,c2,he64⟩:=(HE.out.below (BX.out.trans (hbel2.mono (by omega)))).at hlt
      obtain⟨e1,e2,e3⟩:=HED.out es[k] (by simp)
      have hmem:es[k]∈es:=by simp
      have HX:Hid (∃x,es[k]=x):=hDD ⟨_,rfl⟩
      generalize hx:es[k]=e at c0 c1 c2 he64 e1 e2 e3 hmem
      have HX:=hDD hx
      clear hx
      obtain⟨f,l,t⟩:=e
      simp only at e1 e2 e3 c0 c1 c2
      obtain⟨a,rfl⟩: ∃a:Nat,f=(a:Int):=⟨f.toNat,by omega⟩
      obtain⟨c,rfl⟩: ∃c:Nat,t=(c:Int):=⟨t.toNat,by omega⟩
      have ha:a<b2.length:=by omega
      have hc:c<b2.length:=by omega
      have ca:=hown2.cellAt a ha
      have cc:=hown2.cellAt c hc
      have ga:b2[a]? =some b2[a]:=by simp[ha]
      have gc:b2[c]? =some b2[c]:=by simp[hc]
      have GA:=hDD ga
      have GC:=hDD gc
      have ja:(a:Int)<(N:Int):=by omega
      have jc:(c:Int)<(N:Int):=by omega
      have ja0:(0:Int)≤(a:Int):=by omega
      have jc0:(0:Int)≤(c:Int):=by omega
      have hfa:=hown2.free a
      have hfc:=hown2.free c
      have HSTEP:Hid (b2[a]? ≠b2[c]? →JI es N ((b2.set a true).set c true)∧((b2.set a true).set c true).count false<b2.count false):=hDD fun h=>HJ2.out.step hmem (by omega) (by omega) h
      have HMEM:=hDD hmem
      have bA:Below wr.heap.size wr (wr.alloc (Obj.cells #[Value.int IntKind.i64 a,Value.int IntKind.i64 l,Value.int IntKind.i64 c] 92)):=(Below.refl _ _).alloc (Nat.le_refl _) _
      have BA:=hDD bA
      generalize b2[a]=ba at*
      generalize b2[c]=bc at*
      clear ga gc he64 hown2 hbel2 hmem bA ha hc hbl2
      go_wp2_with fail
      have l0:(wr.alloc (Obj.cells #[Value.int IntKind.i64 a,Value.int IntKind.i64 l,Value.int IntKind.i64 c] 92)).cell? ⟨wr.heap.size,0,none⟩=some (.int .i64 a):=by simp[go_sem]
      have l2:(wr.alloc (Obj.cells #[Value.int IntKind.i64 a,Value.int IntKind.i64 l,Value.int IntKind.i64 c] 92)).cell? ⟨wr.heap.size,2,none⟩=some (.int .i64 c):=by simp[go_sem]
      have la:=(BA.out.cell (p:=⟨w1.heap.size,a,none⟩) hP).trans ca
      have lc:=(BA.out.cell (p:=⟨w1.heap.size,c,none⟩) hP).trans cc
      have lfa:=(BA.out.frozen (p:=⟨w1.heap.size,a,none⟩) hP).trans hfa
      have lfc:=(BA.out.frozen (p:=⟨w1.heap.size,c,none⟩) hP).trans hfc
      have hsA:wr.heap.size<(wr.alloc (Obj.cells #[Value.int IntKind.i64 a,Value.int IntKind.i64 l,Value.int IntKind.i64 c] 92)).heap.size:=by simp
      clear ca cc hfa hfc c0 c1 c2
      generalize wr.alloc (Obj.cells #[Value.int IntKind.i64 a,Value.int IntKind.i64 l,Value.int IntKind.i64 c] 92)=W at BA l0 l2 la lc lfa lfc hsA⊢
      have hPW:w1.heap.size<W.heap.size:=by omega
      have hne1:wr.heap.size≠w1.heap.size:=by omega
      cases ba<;>cases bc
      ·have CLX:Hid (b2[a]? =b2[c]?):=hDD (by rw[GA.out,GC.out])
       go_quiet (fail)
       go_wp2
       go_roundw
       case rel=>
        refine⟨k+1,ag,b2,by omega,by go_num,rfl,HJ2.out,HO2.out.below (bel_drewN BA.out _),HB2.out.trans ((bel_drewN BA.out _).mono (by omega)),HLE.out,HLT.out,fun h j hj hjk=> ?_⟩
        rcases Nat.lt_or_eq_of_le (Nat.le_of_lt_succ hjk) with h2 | rfl
        ·exact HC2.out h j hj h2
        ·rw[HX.out];simpa using CLX.out
       case measure=>simp[intOf];omega
      ·have STP:=hDD (HSTEP.out (by rw[GA.out,GC.out];simp))
       go_quiet (fail)
       have O3:=hDD ((HO2.out.below (bel_drewN BA.out nq)).set a true)
       have O4:=hDD (O3.out.1.set c true)
       have l9:=O3.out.1.cellAt c (by rw[List.length_set];have:=HJ2.out.1;omega)
       have f9:=O3.out.1.free c
       generalize (b2.set a true)[c]'(by rw[List.length_set];have:=HJ2.out.1;omega)=z9 at l9
       go_wp2
       go_roundw
       case rel=>
        refine⟨k+1,true,_,by omega,by go_num,rfl,STP.out.1,O4.out.1,?_,?_,fun _=> ?_,fun h=>by cases h⟩
        ·have b5:=HB2.out.trans ((bel_drewN BA.out nq).mono (by omega))
         exact(b5.grown O3.out.2 (show w1.heap.size≤W.heap.size by omega) (fun j hj=>by cases hj;exact Nat.le_refl _)).grown O4.out.2 (by rw[heapSize_setCell'];exact Nat.le_of_lt hPW) (fun j hj=>by cases hj;exact Nat.le_refl _)
        ·have:=STP.out.2;have:=HLE.out;omega
        ·have:=STP.out.2;have:=HLE.out;omega
       case measure=>simp[intOf];omega
      ·have STP:=hDD (HSTEP.out (by rw[GA.out,GC.out];simp))
       go_quiet (fail)
       have O3:=hDD ((HO2.out.below (bel_drewN BA.out nq)).set a true)
       have O4:=hDD (O3.out.1.set c true)
       have l9:=O3.out.1.cellAt c (by rw[List.length_set];have:=HJ2.out.1;omega)
       have f9:=O3.out.1.free c
       generalize (b2.set a true)[c]'(by rw[List.length_set];have:=HJ2.out.1;omega)=z9 at l9
       go_wp2
       go_roundw
       case rel=>
        refine⟨k+1,true,_,by omega,by go_num,rfl,STP.out.1,O4.out.1,?_,?_,fun _=> ?_,fun h=>by cases h⟩
        ·have b5:=HB2.out.trans ((bel_drewN BA.out nq).mono (by omega))
         exact(b5.grown O3.out.2 (show w1.heap.size≤W.heap.size by omega) (fun j hj=>by cases hj;exact Nat.le_refl _)).grown O4.out.2 (by rw[heapSize_setCell'];exact Nat.le_of_lt hPW) (fun j hj=>by cases hj;exact Nat.le_refl _)
        ·have:=STP.out.2;have:=HLE.out;omega
        ·have:=STP.out.2;have:=HLE.out;omega
       case measure=>simp[intOf];omega
      ·have CLX:Hid (b2[a]? =b2[c]?):=hDD (by rw[GA.out,GC.out])
       go_quiet (fail)
       go_wp2
       go_roundw
       case rel=>
        refine⟨k+1,ag,b2,by omega,by go_num,rfl,HJ2.out,HO2.out.below (bel_drewN BA.out _),HB2.out.trans ((bel_drewN BA.out _).mono (by omega)),HLE.out,HLT.out,fun h j hj hjk=> ?_⟩
        rcases Nat.lt_or_eq_of_le (Nat.le_of_lt_succ hjk) with h2 | rfl
        ·exact HC2.out h j hj h2
        ·rw[HX.out];simpa using CLX.out
       case measure=>simp[intOf];omega
     ·obtain rfl:k=es.length:=by omega
      have hm2:=mB_eq hown2
      rw[hbl2] at hm2
      have HM2:=hDD hm2
      clear hm2 hown2 hbel2
      go_wp2
      go_roundw
      case rel=>exact⟨ag,b2,rfl,HJ2.out,HO2.out,HB2.out,fun h e he=>by obtain⟨j,hj,rfl⟩:=List.getElem_of_mem he;exact HC2.out h j hj hj⟩
      case measure=>
       rw[HM.out,HM2.out]
       cases ag with
       | false=>
         have:=HLE.out
         show 2*_+0<2*_+1
         omega
       | true=>
         have:=HLT.out rfl
         show 2*_+1<2*_+1
         omega
theorem delO_len2 (x:Int): ∀n:Nat,(delO n x).length=if 0≤x∧x<n then n-1 else n
 | 0=>by
   rw[if_neg (by omega)]
   rfl
 | n+1=>by
   rw[delO_succ]
   have ih:=delO_len2 x n
   by_cases h:(n:Int)≠x
   ·rw[if_pos h,List.length_append,ih]
    by_cases h2:0≤x∧x<n
    ·rw[if_pos h2,if_pos (by omega)]
     simp
     omega
    ·rw[if_neg h2,if_neg (by omega)]
     rfl
   ·rw[if_neg h,ih,if_neg (by omega),if_pos (by omega)]
    omega
def trimF:Nat→GrD→List Int→GrD×List Int
 | 0,g,l=>(g,l)
 | f+1,g,l=>if leafV g.2.2 g.2.1.toNat<0 then(g,l) else trimF f (rnG g (delO g.2.1.toNat (leafV g.2.2 g.2.1.toNat))) (l.take (leafV g.2.2 g.2.1.toNat).toNat++l.drop ((leafV g.2.2 g.2.1.toNat).toNat+1))
theorem trimF_stop {g:GrD} (l:List Int) (h:leafV g.2.2 g.2.1.toNat<0): ∀f,trimF f g l=(g,l)
 | 0=>rfl
 | f+1=>by unfold trimF;rw[if_pos h]
theorem rnG_size (g:GrD) (o:List Int):(rnG g o).2.1=(o.length:Int):=rfl
theorem trimF_step {g:GrD} (l:List Int) {u:Nat} (hu:leafV g.2.2 g.2.1.toNat=(u:Int)) (hn:u<g.2.1.toNat):
  trimF g.2.1.toNat g l=trimF (rnG g (delO g.2.1.toNat u)).2.1.toNat (rnG g (delO g.2.1.toNat u)) (l.take u++l.drop (u+1)):=by
 rw[rnG_size,delO_len2,if_pos (by omega)]
 obtain⟨f,hf⟩: ∃f,g.2.1.toNat=f+1:=⟨g.2.1.toNat-1,by omega⟩
 have e:((g.2.1.toNat-1:Nat):Int).toNat=f:=by omega
 rw[e]
 have e2:trimF (f+1) g l=if leafV g.2.2 g.2.1.toNat<0 then(g,l) else trimF f (rnG g (delO g.2.1.toNat (leafV g.2.2 g.2.1.toNat))) (l.take (leafV g.2.2 g.2.1.toNat).toNat++l.drop ((leafV g.2.2 g.2.1.toNat).toNat+1)):=rfl
 rw[show trimF g.2.1.toNat g l=trimF (f+1) g l by rw[hf],e2,hu,if_neg (by omega)]
 simp
theorem trimF_le: ∀(f:Nat) (g:GrD) (l:List Int),grB g=true→(trimF f g l).1.2.1≤g.2.1:=by
 intro f
 induction f with
 | zero=>intro g l _;exact Int.le_refl _
 | succ f ih=>
   intro g l hg
   unfold trimF
   obtain⟨_,hsz,_,_⟩:=grB_parts hg
   rcases leafV_range g.2.2 g.2.1.toNat with h | ⟨h1,h2⟩
   ·rw[if_pos (by omega)]
    exact Int.le_refl _
   ·rw[if_neg (by omega)]
    have hd:=delO_len2 (leafV g.2.2 g.2.1.toNat) g.2.1.toNat
    rw[if_pos (by omega)] at hd
    have hok:=delO_ok (n:=g.2.1.toNat) (by omega) h1
    rw[show((g.2.1.toNat:Nat):Int)=g.2.1 by omega] at hok
    have:=ih (rnG g (delO g.2.1.toNat (leafV g.2.2 g.2.1.toNat))) (l.take (leafV g.2.2 g.2.1.toNat).toNat++l.drop ((leafV g.2.2 g.2.1.toNat).toNat+1)) (grB_rnG hg hok)
    rw[rnG_size,hd] at this
    omega
def trimG (g:GrD):GrD×List Int:=trimF g.2.1.toNat g ((List.range g.2.1.toNat).map fun v=>((v:Nat):Int))
theorem trimG_size {g:GrD} (hg:grB g=true):decide ((trimG g).1.2.1=g.2.1)=decide (leafV g.2.2 g.2.1.toNat<0):=by
 obtain⟨_,hsz,_,_⟩:=grB_parts hg
 unfold trimG
 rcases leafV_range g.2.2 g.2.1.toNat with h | ⟨h1,h2⟩
 ·rw[trimF_stop _ (by omega)]
  simp[h]
 ·obtain⟨u,hu⟩: ∃u:Nat,leafV g.2.2 g.2.1.toNat=(u:Int):=⟨(leafV g.2.2 g.2.1.toNat).toNat,by omega⟩
  rw[trimF_step _ hu (by omega)]
  have hok:=delO_ok (n:=g.2.1.toNat) (x:=(u:Int)) (by omega) (by omega)
  rw[show((g.2.1.toNat:Nat):Int)=g.2.1 by omega] at hok
  have hd:=delO_len2 (u:Int) g.2.1.toNat
  rw[if_pos (by omega)] at hd
  have:=trimF_le (rnG g (delO g.2.1.toNat u)).2.1.toNat (rnG g (delO g.2.1.toNat u)) (((List.range g.2.1.toNat).map fun v=>((v:Nat):Int)).take u++((List.range g.2.1.toNat).map fun v=>((v:Nat):Int)).drop (u+1)) (grB_rnG hg hok)
  rw[rnG_size g,hd] at this
  have e1:decide (leafV g.2.2 g.2.1.toNat<0)=false:=by rw[hu];simp
  rw[e1]
  rw[decide_eq_false_iff_not]
  rw[rnG_size,hd]
  omega
def slN:Value→Nat
 | .slice _ n _=>n
 | _=>0
def rng (n:Nat):List Int:=(List.range n).map fun v=>((v:Nat):Int)
theorem rng_succ (n:Nat):rng (n+1)=rng n++ [(n:Int)]:=by simp[rng,List.range_succ]
theorem rng_len (n:Nat):(rng n).length=n:=by simp[rng]
theorem joinL_get {g:GrD} (k:Nat) (h:k<g.2.1.toNat):(joinL g)[k]'(by simpa[joinL] using h)=hasB (reachL g.2.2 0) k:=by simp[joinL]
theorem joinL_len (g:GrD):(joinL g).length=g.2.1.toNat:=by simp[joinL]
set_option maxHeartbeats 2000000 in
theorem trimGraph_any (v:Value) (g:GrD) (w:World) (h:ArgG w v g) (hg:grB g=true):
  Calls Tryz.prog 108 #[v] w fun e w'=> ∃r l,e= .returned (.tuple #[r,l])∧OwG w' w.heap.size r (trimG g).1∧OwI w' w.heap.size l (trimG g).2∧Below w.heap.size w w':=by
 have HG:=hDD h
 have HGR:=hDD hg
 obtain⟨hr13,hsz40,hl120,_⟩:=grB_parts hg
 have HT:Hid (trimG g=trimF g.2.1.toNat g (rng g.2.1.toNat)):=hDD rfl
 generalize trimG g=R at*
 clear hg h
 obtain⟨r,n,es⟩:=g
 simp only at hr13 hsz40 hl120 HG HT
 obtain⟨N,rfl⟩: ∃N:Nat,n=(N:Int):=⟨n.toNat,by omega⟩
 simp only[Int.toNat_natCast] at HT
 have hN1:1≤N:=by omega
 have hN2:N≤40:=by omega
 clear hsz40
 obtain⟨A,cap,rfl⟩: ∃A cap,v= .agg #[.int .i64 r, .int .i64 N, .slice A es.length cap]:=by
  obtain⟨s,hv,_,_,ha⟩:=HG.out
  obtain⟨A,cap,rfl⟩:=ha.form
  exact⟨A,cap,hv⟩
 have bx:Below w.heap.size w ((w.alloc (Obj.cells #[Value.int IntKind.i64 r,Value.int IntKind.i64 N, .slice A es.length cap] 26)).alloc (Obj.cells #[Value.int IntKind.i64 0,Value.int IntKind.i64 0, .slice none 0 0] 26)):=(by repeat(first | exact Below.refl _ _ | (refine Below.setCell ?_ (by first | omega | (simp<;>omega)) _) | (refine bel_drewN ?_ _) | (refine Below.drew ?_) | (refine Below.alloc ?_ (by first | omega | (simp<;>omega)) _)))
 go_enter Tryz.func108,Tryz.ntmps108
 go_wp2_with fail
 obtain⟨W0,hW0⟩: ∃W,W=(w.alloc (Obj.cells #[Value.int IntKind.i64 r,Value.int IntKind.i64 N, .slice A es.length cap] 26)).alloc (Obj.cells #[Value.int IntKind.i64 0,Value.int IntKind.i64 0, .slice none 0 0] 26):=⟨_,rfl⟩
 rw[←hW0] at bx⊢
 have hsW:W0.heap.size=w.heap.size+1+1:=by rw[hW0];simp
 have B0:Hid (W0.cell? ⟨w.heap.size,0,none⟩=some (.int .i64 r)):=hDD (by rw[hW0];simp[go_sem])
 have B1:Hid (W0.cell? ⟨w.heap.size,1,none⟩=some (.int .i64 N)):=hDD (by rw[hW0];simp[go_sem])
 have B2:Hid (W0.cell? ⟨w.heap.size,2,none⟩=some (.slice A es.length cap)):=hDD (by rw[hW0];simp[go_sem])
 have R0:Hid (W0.cell? ⟨w.heap.size+1,0,none⟩=some (.int .i64 0)):=hDD (by rw[hW0];simp[go_sem])
 have R1:Hid (W0.cell? ⟨w.heap.size+1,1,none⟩=some (.int .i64 0)):=hDD (by rw[hW0];simp[go_sem])
 have R2:Hid (W0.cell? ⟨w.heap.size+1,2,none⟩=some (.slice none 0 0)):=hDD (by rw[hW0];simp[go_sem])
 have RF:Hid (∀j,W0.frozen? ⟨w.heap.size+1,j,none⟩=false):=hDD fun j=>by rw[hW0];simp[go_sem]
 clear hW0
 have BX:=hDD bx
 have HSW:=hDD hsW
 have hltw:w.heap.size<W0.heap.size:=by omega
 have hltw1:w.heap.size+1<W0.heap.size:=by omega
 refine(copyGraph_any _ (r,(N:Int),es) W0 (HG.out.below bx) (by simp only;omega)).mono ?_
 clear bx hsW
 rintro e w1 ⟨r1,rfl,o1,b1⟩
 obtain⟨s1,rfl,hi1,hi2,oe⟩:=o1
 simp only at hi1 hi2 oe⊢
 obtain⟨A1,cap1,rfl,hcap1,hm1,_⟩:=OwE.form oe
 have OE:=hDD oe
 have hlt1: ∀b,(Value.slice A1 es.length cap1).ownBlock=some b→b<w1.heap.size:=fun b hb=>(oe.1.lt b hb).2
 have q0:=(b1.cell (p:=⟨w.heap.size,0,none⟩) hltw).trans B0.out
 have q1:=(b1.cell (p:=⟨w.heap.size,1,none⟩) hltw).trans B1.out
 have q2:=(b1.cell (p:=⟨w.heap.size,2,none⟩) hltw).trans B2.out
 have RQ0:=hDD ((b1.cell (p:=⟨w.heap.size+1,0,none⟩) hltw1).trans R0.out)
 have RQ1:=hDD ((b1.cell (p:=⟨w.heap.size+1,1,none⟩) hltw1).trans R1.out)
 have RQ2:=hDD ((b1.cell (p:=⟨w.heap.size+1,2,none⟩) hltw1).trans R2.out)
 have RQF:Hid (∀j,w1.frozen? ⟨w.heap.size+1,j,none⟩=false):=hDD fun j=>(b1.frozen (p:=⟨w.heap.size+1,j,none⟩) hltw1).trans (RF.out j)
 have HB1:Hid (Below w.heap.size w w1):=hDD (BX.out.trans (b1.mono (by omega)))
 have s1:=b1.size
 have HLT1:=hDD hlt1
 clear oe hlt1 b1 B0 B1 B2 R0 R1 R2 RF
 have hw1:w.heap.size<w1.heap.size:=by omega
 have hw11:w.heap.size+1<w1.heap.size:=by omega
 go_wp2_with fail
 have bA:Below w1.heap.size w1 ((w1.alloc (Obj.cells #[Value.int IntKind.i64 r,Value.int IntKind.i64 N, .slice A1 es.length cap1] 26)).alloc (Obj.cells #[] 3)):=(by repeat(first | exact Below.refl _ _ | (refine Below.setCell ?_ (by first | omega | (simp<;>omega)) _) | (refine bel_drewN ?_ _) | (refine Below.drew ?_) | (refine Below.alloc ?_ (by first | omega | (simp<;>omega)) _)))
 obtain⟨W2,hW2⟩: ∃W,W=(w1.alloc (Obj.cells #[Value.int IntKind.i64 r,Value.int IntKind.i64 N, .slice A1 es.length cap1] 26)).alloc (Obj.cells #[] 3):=⟨_,rfl⟩
 have o0:OwI W2 (w1.heap.size+1) (.slice (some ⟨w1.heap.size+1,0,none⟩) 0 0) (rng 0):=by
  rw[hW2]
  exact OwI_litN _ [] (w1.heap.size+1) (by simp) (fun _ h=>by cases h) (by simp) (Nat.le_refl _)
 have G0:Hid (W2.cell? ⟨w1.heap.size,0,none⟩=some (.int .i64 r)):=hDD (by rw[hW2];simp[go_sem])
 have G1:Hid (W2.cell? ⟨w1.heap.size,1,none⟩=some (.int .i64 N)):=hDD (by rw[hW2];simp[go_sem])
 have G2:Hid (W2.cell? ⟨w1.heap.size,2,none⟩=some (.slice A1 es.length cap1)):=hDD (by rw[hW2];simp[go_sem])
 have GF:Hid (∀j,W2.frozen? ⟨w1.heap.size,j,none⟩=false):=hDD fun j=>by rw[hW2];simp[go_sem]
 have hs2:W2.heap.size=w1.heap.size+1+1:=by rw[hW2];simp
 rw[←hW2] at bA⊢
 clear hW2
 have hig:=implIsGraph_any _ (r,(N:Int),es) W2 ((HG.out.below HB1.out).below bA)
 rw[HGR.out] at hig
 have HIG:=hDD hig
 clear hig
 refine HIG.out.mono ?_
 rintro e w3 ⟨rfl,b3⟩
 have s3:=b3.size
 have hg03:w1.heap.size<W2.heap.size:=by omega
 have bA3:=bA.trans (b3.mono (by omega))
 have BA3:=hDD bA3
 have B3:=hDD b3
 have OE3:=hDD (OE.out.below bA3)
 have O03:=hDD (o0.below b3)
 have QN:=hDD ((bA3.cell (p:=⟨w.heap.size,1,none⟩) hw1).trans q1)
 have G03:=hDD ((b3.cell (p:=⟨w1.heap.size,0,none⟩) hg03).trans G0.out)
 have G13:=hDD ((b3.cell (p:=⟨w1.heap.size,1,none⟩) hg03).trans G1.out)
 have G23:=hDD ((b3.cell (p:=⟨w1.heap.size,2,none⟩) hg03).trans G2.out)
 have GF3:Hid (∀j,w3.frozen? ⟨w1.heap.size,j,none⟩=false):=hDD fun j=>(b3.frozen (p:=⟨w1.heap.size,j,none⟩) hg03).trans (GF.out j)
 clear bA b3 bA3 o0 q0 q1 q2 G0 G1 G2 GF HIG
 go_wp2
 go_loopw [5,6] (fun l i wr=> ∃k:Nat,k≤N∧i= .int .i64 k∧OwI wr (w1.heap.size+1) l (rng k)∧Below (w1.heap.size+1) w3 wr) (fun _ i _=>N-(intOf i).toNat)
 case atStart=>exact⟨0,Nat.zero_le _,rfl,O03.out,Below.refl _ _⟩
 case round=>
  obtain⟨k,hk,rfl,hown,hbel⟩:=hrel
  have HO:=hDD hown
  have HB:=hDD hbel
  have hs:=hbel.size
  have qn:=(hbel.cell (p:=⟨w.heap.size,1,none⟩) (by show w.heap.size<w1.heap.size+1;omega)).trans QN.out
  have hlk:=rng_len k
  obtain⟨Al,capl,rfl,_⟩:=OwI.form hown
  clear hown hbel
  by_cases hlt:k<N
  ·have HK:Hid (I64 (k:Int)):=hDD ⟨by omega,by omega⟩
   have HRS:=hDD (rng_succ k)
   go_wp2_with (at_builtin;refine push_int rfl (.tmp 26) (.tmp 28) rfl _ _ _ (OwI.alloc HO.out _) rfl _ _ rfl (cell_new1 _ _ _) HK.out (by first | omega | (simp<;>omega)) (by first | omega | (simp<;>omega)) ?_;intro v9 wv9 o9 g9 p9)
   go_roundw
   case rel=>exact⟨k+1,by omega,by go_num,by rw[HRS.out];exact o9,bel_push HB.out (by omega) HO.out.1 (Nat.le_refl _) g9⟩
   case measure=>simp[intOf];omega
  ·obtain rfl:k=N:=by omega
   have GE:Hid (OwE wr W0.heap.size (.slice A1 es.length cap1) es):=hDD (OE3.out.keep fun b hb=>HB.out.block b (by have:=HLT1.out b hb;omega))
   have GC0:=hDD ((HB.out.cell (p:=⟨w1.heap.size,0,none⟩) (by show w1.heap.size<w1.heap.size+1;omega)).trans G03.out)
   have GC1:=hDD ((HB.out.cell (p:=⟨w1.heap.size,1,none⟩) (by show w1.heap.size<w1.heap.size+1;omega)).trans G13.out)
   have GC2:=hDD ((HB.out.cell (p:=⟨w1.heap.size,2,none⟩) (by show w1.heap.size<w1.heap.size+1;omega)).trans G23.out)
   have GCF:Hid (∀j,wr.frozen? ⟨w1.heap.size,j,none⟩=false):=hDD fun j=>(HB.out.frozen (p:=⟨w1.heap.size,j,none⟩) (by show w1.heap.size<w1.heap.size+1;omega)).trans (GF3.out j)
   have BB:Hid (Below w1.heap.size w1 wr):=hDD (BA3.out.trans (HB.out.mono (by omega)))
   have hwlt:w1.heap.size<wr.heap.size:=by omega
   clear G03 G13 G23 GF3 O03 OE3 BA3 B3 QN
   go_wp2
   go_loopw [5] (fun l wr=> ∃(gg:GrD) (xs:List Int) (A':Option Addr) (cap':Nat),grB gg=true∧R=trimF gg.2.1.toNat gg xs∧xs.length=gg.2.1.toNat∧OwI wr (w1.heap.size+1) l xs∧wr.cell? ⟨w1.heap.size,0,none⟩=some (.int .i64 gg.1)∧wr.cell? ⟨w1.heap.size,1,none⟩=some (.int .i64 gg.2.1)∧wr.cell? ⟨w1.heap.size,2,none⟩=some (.slice A' gg.2.2.length cap')∧(∀j,wr.frozen? ⟨w1.heap.size,j,none⟩=false)∧OwE wr W0.heap.size (.slice A' gg.2.2.length cap') gg.2.2∧(∀b,(Value.slice A' gg.2.2.length cap').ownBlock=some b→l.ownBlock≠some b)∧Below w1.heap.size w1 wr∧w1.heap.size<wr.heap.size) (fun l _=>slN l)
   case atStart=>exact⟨(r,(k:Int),es),rng k,A1,cap1,HGR.out,HT.out,hlk,HO.out,GC0.out,GC1.out,GC2.out,GCF.out,GE.out,fun b hb he=>by have h1:=HLT1.out b hb;have h2:=HO.out.1.lt b he;omega,BB.out,hwlt⟩
   case round=>
    clear HT HO GC0 GC1 GC2 GCF GE BB HLT1
    obtain⟨gg,xs,A',cap',hgg,hR,hxl,hown,hc0,hc1,hc2,hcf,hoe,hne,hbel,hlw⟩:=hrel
    obtain⟨wq,rfl⟩: ∃wq:World,wq=wr:=⟨_,rfl⟩
    obtain⟨hr2,hsz2,hle2,_⟩:=grB_parts hgg
    obtain⟨r2,n2,es2⟩:=gg
    simp only at hR hxl hc0 hc1 hc2 hoe hne hsz2 hle2 hr2
    obtain⟨M,rfl⟩: ∃M:Nat,n2=(M:Int):=⟨n2.toNat,by omega⟩
    simp only[Int.toNat_natCast] at hxl hR
    have hM1:1≤M:=by omega
    have hM2:M≤40:=by omega
    clear hsz2
    have HGG:=hDD hgg
    have HR:=hDD hR
    have HO:=hDD hown
    have HOE:=hDD hoe
    have HNE:=hDD hne
    have HCF:=hDD hcf
    have HBEL:=hDD hbel
    have hs:=hbel.size
    obtain⟨Al,capl,rfl,hlc,hml,_,hf⟩:=OwI.form hown
    obtain⟨gl,rfl,hgl1,hgl2⟩:=hf (by omega)
    have hcapE:es2.length≤cap':=by obtain⟨_,_,e,h1,_⟩:=OwE.form hoe;injection e with _ _ e3;subst e3;exact h1
    have HA:Hid (∀w',Below wq.heap.size wq w'→ArgG w' (.agg #[.int .i64 r2, .int .i64 M, .slice A' es2.length cap']) (r2,(M:Int),es2)):=hDD fun w' hb=>⟨_,rfl,by show I64 r2;unfold I64;omega,by show I64 (M:Int);unfold I64;omega,(HOE.out.below hb).arg⟩
    clear hgg hR hown hoe hne hcf hbel hf
    go_wp2_with fail
    refine(joined_any _ (r2,(M:Int),es2) wq (HA.out _ (Below.refl _ _)) HGG.out).mono ?_
    rintro e wj ⟨rj,rfl,oj,bj⟩
    obtain⟨Aj,capj,rfl,hjc,_,_,hfj⟩:=owns_form oj
    rw[joinL_len] at hfj hjc⊢
    simp only[Int.toNat_natCast] at hfj hjc⊢
    obtain⟨gj,rfl,hgj1,hgj2⟩:=hfj (by omega)
    have sj:=bj.size
    have HJC:Hid (∀k:Nat,k<M→wj.cell? ⟨gj,k,none⟩=some (.bool (hasB (reachL es2 0) k))):=hDD fun k hk=>by
     have h1:=OwB.cellAt oj k (by rw[joinL_len];simpa using hk)
     rw[joinL_get k (by simpa using hk)] at h1
     exact h1
    have HBJ:=hDD bj
    have d0:=hDD ((bj.cell (p:=⟨w1.heap.size,0,none⟩) hlw).trans hc0)
    have d1:=hDD ((bj.cell (p:=⟨w1.heap.size,1,none⟩) hlw).trans hc1)
    have d2:=hDD ((bj.cell (p:=⟨w1.heap.size,2,none⟩) hlw).trans hc2)
    have dF:Hid (∀j,wj.frozen? ⟨w1.heap.size,j,none⟩=false):=hDD fun j=>(bj.frozen (p:=⟨w1.heap.size,j,none⟩) hlw).trans (HCF.out j)
    have hlj:w1.heap.size<wj.heap.size:=by omega
    clear oj bj hfj hc0 hc1 hc2 HCF
    obtain⟨U,hU⟩: ∃U,U=leafV es2 M:=⟨_,rfl⟩
    have HU:=hDD hU
    have HLB:Hid (∀k:Nat,leafB es2 k=(decide (degL es2 k<2)|| !hasB (reachL es2 0) k)):=hDD fun k=>rfl
    clear hU
    go_wp2
    go_loopw [8,9] (fun a i wg=> ∃k:Nat,i= .int .i64 k∧1≤k∧k≤M∧((a= .int .i64 0∧leafFrom es2 M (M-k) k=U)∨(∃u:Nat,a= .int .i64 u∧U=(u:Int)∧1≤u∧u<M∧k=u+1))∧Below wj.heap.size wj wg) (fun _ i _=>M+1-(intOf i).toNat)
    case atStart=>exact⟨1,rfl,Nat.le_refl _,hM1, .inl ⟨rfl,by rw[HU.out];rfl⟩,Below.refl _ _⟩
    case round=>
     obtain⟨k,rfl,hk1,hk,hcase,hbg⟩:=hrel
     have HBG:=hDD hbg
     have hsg:=hbg.size
     have e0:=(hbg.cell (p:=⟨w1.heap.size,0,none⟩) hlj).trans d0.out
     have e1:=(hbg.cell (p:=⟨w1.heap.size,1,none⟩) hlj).trans d1.out
     have e2:=(hbg.cell (p:=⟨w1.heap.size,2,none⟩) hlj).trans d2.out
     clear hbg
     rcases hcase with ⟨rfl,hlf⟩ | ⟨u,rfl,hUu,hu1,huM,rfl⟩
     ·have HLF:=hDD hlf
      clear hlf
      by_cases hlt:k<M
      ·have hj0:=(HBG.out.cell (p:=⟨gj,k,none⟩) hgj2).trans (HJC.out k hlt)
       have LB:=hDD (HLB.out k)
       have hki:(k:Int)<(M:Int):=by omega
       have hdle:degL es2 k≤240:=by have:=degL_le es2 k es2.length;rw[List.take_length] at this;omega
       go_wp2_with fail
       refine(implDegreeOf_any _ (r2,(M:Int),es2) k _ (HA.out _ (HBJ.out.trans (HBG.out.mono sj))) (by simp only;omega)).mono ?_
       rintro e w7 ⟨rfl,b7⟩
       have B7:=hDD b7
       have s7:=b7.size
       have hj7:=(b7.cell (p:=⟨gj,k,none⟩) (by show gj<wr.heap.size;omega)).trans hj0
       clear b7 hj0
       simp only
       generalize degL es2 k=d at*
       by_cases hd:d<2
       ·have hdi:(d:Int)<2:=by omega
        have F:=hDD (leafFrom_hit hlt (by rw[LB.out];simp[hd]))
        go_wp2
        go_roundw
        case rel=>exact⟨k+1,by go_num,by omega,by omega, .inr ⟨k,rfl,by rw[←HLF.out,F.out],hk1,hlt,rfl⟩,HBG.out.trans (B7.out.mono hsg)⟩
        case measure=>simp[intOf];omega
       ·have hdi: ¬(d:Int)<2:=by omega
        rcases h1:hasB (reachL es2 0) k with _ | _
        ·have F:=hDD (leafFrom_hit hlt (by rw[LB.out,h1];simp))
         rw[h1] at hj7
         go_wp2
         go_roundw
         case rel=>exact⟨k+1,by go_num,by omega,by omega, .inr ⟨k,rfl,by rw[←HLF.out,F.out],hk1,hlt,rfl⟩,HBG.out.trans (B7.out.mono hsg)⟩
         case measure=>simp[intOf];omega
        ·have F:=hDD (leafFrom_miss hlt (by rw[LB.out,h1];simp[hd]))
         rw[h1] at hj7
         go_wp2
         go_roundw
         case rel=>exact⟨k+1,by go_num,by omega,by omega, .inl ⟨rfl,by rw[←F.out,HLF.out]⟩,HBG.out.trans (B7.out.mono hsg)⟩
         case measure=>simp[intOf];omega
      ·obtain rfl:k=M:=by omega
       have hUn:U= -1:=by rw[←HLF.out,leafFrom_end]
       have HE:Hid (R=((r2,(k:Int),es2),xs)):=hDD (by rw[HR.out];exact trimF_stop _ (show leafV es2 ((k:Int)).toNat<0 by rw[Int.toNat_natCast,←HU.out,hUn];decide) _)
       have bb:Hid (Below w1.heap.size w1 wr):=hDD (HBEL.out.trans ((HBJ.out.trans (HBG.out.mono sj)).mono (by omega)))
       have rq0:=(bb.out.cell (p:=⟨w.heap.size+1,0,none⟩) hw11).trans RQ0.out
       have rq1:=(bb.out.cell (p:=⟨w.heap.size+1,1,none⟩) hw11).trans RQ1.out
       have rq2:=(bb.out.cell (p:=⟨w.heap.size+1,2,none⟩) hw11).trans RQ2.out
       have rf0:=(bb.out.frozen (p:=⟨w.heap.size+1,0,none⟩) hw11).trans (RQF.out 0)
       have rf1:=(bb.out.frozen (p:=⟨w.heap.size+1,1,none⟩) hw11).trans (RQF.out 1)
       have rf2:=(bb.out.frozen (p:=⟨w.heap.size+1,2,none⟩) hw11).trans (RQF.out 2)
       have ow:=HOE.out.below (HBJ.out.trans (HBG.out.mono sj))
       have ol:=HO.out.below (HBJ.out.trans (HBG.out.mono sj))
       have OW:Hid (OwE (((wr.setCell ⟨w.heap.size+1,0,none⟩ (.int .i64 r2)).setCell ⟨w.heap.size+1,1,none⟩ (.int .i64 k)).setCell ⟨w.heap.size+1,2,none⟩ (.slice A' es2.length cap')) W0.heap.size (.slice A' es2.length cap') es2):=hDD
        (((ow.far (p:=⟨w.heap.size+1,0,none⟩) (by show w.heap.size+1<_;omega) _).far (p:=⟨w.heap.size+1,1,none⟩) (by show w.heap.size+1<_;omega) _).far (p:=⟨w.heap.size+1,2,none⟩) (by show w.heap.size+1<_;omega) _)
       have OL:Hid (OwI (((wr.setCell ⟨w.heap.size+1,0,none⟩ (.int .i64 r2)).setCell ⟨w.heap.size+1,1,none⟩ (.int .i64 k)).setCell ⟨w.heap.size+1,2,none⟩ (.slice A' es2.length cap')) (w1.heap.size+1) (.slice (some ⟨gl,0,none⟩) xs.length capl) xs):=hDD
        (((ol.far (p:=⟨w.heap.size+1,0,none⟩) (by show w.heap.size+1<_;omega) _).far (p:=⟨w.heap.size+1,1,none⟩) (by show w.heap.size+1<_;omega) _).far (p:=⟨w.heap.size+1,2,none⟩) (by show w.heap.size+1<_;omega) _)
       have BBW:=hDD (HB1.out.trans (bb.out.mono (show w.heap.size≤w1.heap.size by omega)))
       clear ow ol
       go_wp2
       obtain⟨c0,c1,c2⟩:=set3_cells wr (w.heap.size+1) (.int .i64 r2) (.int .i64 k) (.slice A' es2.length cap') rq0 rq1 rq2
       have bw:Below w.heap.size w (((wr.setCell ⟨w.heap.size+1,0,none⟩ (.int .i64 r2)).setCell ⟨w.heap.size+1,1,none⟩ (.int .i64 k)).setCell ⟨w.heap.size+1,2,none⟩ (.slice A' es2.length cap')):=(by repeat(first | exact Below.refl _ _ | (refine Below.setCell ?_ (by first | omega | (simp<;>omega)) _) | (refine bel_drewN ?_ _) | (refine Below.drew ?_) | (refine Below.alloc ?_ (by first | omega | (simp<;>omega)) _) | (refine Below.trans ?_ (Below.mono (Hid.out BBW) (by first | omega | (simp<;>omega))))))
       generalize ((wr.setCell ⟨w.heap.size+1,0,none⟩ (.int .i64 r2)).setCell ⟨w.heap.size+1,1,none⟩ (.int .i64 k)).setCell ⟨w.heap.size+1,2,none⟩ (.slice A' es2.length cap')=wf at*
       refine bodyPost_ret (v:= .tuple #[.agg #[.int .i64 r2, .int .i64 k, .slice A' es2.length cap'], .slice (some ⟨gl,0,none⟩) xs.length capl]) (by simp[results,Tryz.results108,go_sem,c0,c1,c2,hxl]) rfl ⟨_,_,rfl,?_,?_,bw⟩
       ·rw[HE.out]
        refine⟨.slice A' es2.length cap',rfl,?_,?_,OW.out.mono (by omega)⟩
        ·show I64 r2
         unfold I64
         omega
        ·show I64 (k:Int)
         unfold I64
         omega
       ·rw[HE.out]
        exact OL.out.mono (by omega)
     ·obtain⟨wg,rfl⟩: ∃wg:World,wg=wr:=⟨_,rfl⟩
      have HUu:Hid (leafV es2 M=(u:Int)):=hDD (by rw[←HU.out,hUu])
      have hok:OrdOk (M:Int) (delO M u):=delO_ok hM1 (by omega)
      have HOK:=hDD hok
      have hdl:(delO M u).length=M-1:=by rw[delO_len2,if_pos (by omega)]
      have HRN:Hid (rnG (r2,(M:Int),es2) (delO M u)=(r2,((M-1:Nat):Int),srt cmpE (rnL es2 (delO M u)))):=hDD (by rw[←hdl];rfl)
      have HR2:Hid (R=trimF (M-1) (r2,((M-1:Nat):Int),srt cmpE (rnL es2 (delO M u))) (xs.take u++xs.drop (u+1))):=hDD (by
       have h1:=trimF_step (g:=(r2,(M:Int),es2)) (u:=u) xs (by simpa using HUu.out) (by simpa using huM)
       simp only[Int.toNat_natCast] at h1
       rw[HRN.out] at h1
       simp only[Int.toNat_natCast] at h1
       rw[HR.out,h1])
      have HGB:Hid (grB (r2,((M-1:Nat):Int),srt cmpE (rnL es2 (delO M u)))=true):=hDD (by rw[←HRN.out];exact grB_rnG HGG.out hok)
      have hw5:(wg.alloc (Obj.cells #[] 3)).heap.size=wg.heap.size+1:=by simp
      have o5:OwI (wg.alloc (Obj.cells #[] 3)) wg.heap.size (.slice (some ⟨wg.heap.size,0,none⟩) 0 0) (delO 0 u):=OwI_lit wg [] (fun _ h=>by cases h) (by simp) (Nat.le_refl _)
      have O5:=hDD o5
      have B5:Hid (Below wg.heap.size wg (wg.alloc (Obj.cells #[] 3))):=hDD (by repeat(first | exact Below.refl _ _ | (refine Below.setCell ?_ (by first | omega | (simp<;>omega)) _) | (refine bel_drewN ?_ _) | (refine Below.drew ?_) | (refine Below.alloc ?_ (by first | omega | (simp<;>omega)) _)))
      have HW5:=hDD hw5
      have E0:=hDD e0
      have E1:=hDD e1
      have E2:=hDD e2
      have EF:Hid (∀j,wg.frozen? ⟨w1.heap.size,j,none⟩=false):=hDD fun j=>(HBG.out.frozen (p:=⟨w1.heap.size,j,none⟩) hlj).trans (dF.out j)
      have hlg:w1.heap.size<wg.heap.size:=by omega
      have g0:((u:Int)==0)=false:=by rw[beq_eq_false_iff_ne];omega
      clear hok o5 hw5 hUu hdl
      obtain⟨kk,hkk⟩: ∃kk:Int,((u+1:Nat):Int)=kk:=⟨_,rfl⟩
      rw[hkk]
      have hqc:kk<(M:Int)∨ ¬kk<(M:Int):=by omega
      clear hk hk1 hkk
      rcases hqc with hq | hq
      all_goals
       go_wp2
       generalize wg.alloc (Obj.cells #[] 3)=W5 at O5 B5 HW5⊢
       go_loopw [10,11] (fun o i wo=> ∃k:Nat,k≤M∧i= .int .i64 k∧OwI wo wg.heap.size o (delO k u)∧Below wg.heap.size wg wo) (fun _ i _=>M-(intOf i).toNat)
       case atStart=>exact⟨0,Nat.zero_le _,rfl,O5.out,B5.out⟩
       case round=>
        obtain⟨k,hk,rfl,hown,hbo⟩:=hrel
        have HOO:=hDD hown
        have HBO:=hDD hbo
        have hso:=hbo.size
        have e1':=(hbo.cell (p:=⟨w1.heap.size,1,none⟩) hlg).trans E1.out
        have e0':=(hbo.cell (p:=⟨w1.heap.size,0,none⟩) hlg).trans E0.out
        have e2':=(hbo.cell (p:=⟨w1.heap.size,2,none⟩) hlg).trans E2.out
        obtain⟨Ao,capo,rfl,_⟩:=OwI.form hown
        clear hown hbo
        by_cases hlt:k<M
        ·by_cases hku:k=u
         ·subst hku
          have F:Hid (delO (k+1) (k:Int)=delO k (k:Int)):=hDD (by rw[delO_succ];simp)
          go_wp2
          go_roundw
          case rel=>exact⟨k+1,by omega,by go_num,by rw[F.out];exact HOO.out,HBO.out⟩
          case measure=>simp[intOf];omega
         ·have hne1: ¬(k:Int)=(u:Int):=by omega
          have F:Hid (delO (k+1) (u:Int)=delO k (u:Int)++ [(k:Int)]):=hDD (by rw[delO_succ,if_pos hne1])
          have HK:Hid (I64 (k:Int)):=hDD ⟨by omega,by omega⟩
          have hdk:(delO k (u:Int)).length≤40:=by rw[delO_len2];split<;>omega
          go_wp2_with (at_builtin;refine push_int rfl (.tmp 68) (.tmp 70) rfl _ _ _ (OwI.alloc HOO.out _) rfl _ _ rfl (cell_new1 _ _ _) HK.out (by first | omega | (simp<;>omega)) (by first | omega | (simp<;>omega)) ?_;intro v9 wv9 o9 g9 p9)
          go_roundw
          case rel=>exact⟨k+1,by omega,by go_num,by rw[F.out];exact o9,bel_push HBO.out (by omega) HOO.out.1 (Nat.le_refl _) g9⟩
          case measure=>simp[intOf];omega
        ·obtain rfl:k=M:=by omega
         go_wp2_with fail
         refine(part_any _ _ (r2,(k:Int),es2) (delO k u) _ (HA.out _ ((HBJ.out.trans (HBG.out.mono sj)).trans (HBO.out.mono (by omega)))) HOO.out.rd HGG.out HOK.out).mono ?_
         rintro e w6 ⟨r6,rfl,o6,b6⟩
         rw[HRN.out] at o6
         obtain⟨s6,rfl,_,_,oe6⟩:=o6
         simp only at oe6⊢
         generalize srt cmpE (rnL es2 (delO k (u:Int)))=es6 at*
         generalize hm:k-1=m at*
         have HM:=hDD hm
         clear hm
         have B6:=hDD b6
         have s6':=b6.size
         have OE6:=hDD oe6
         obtain⟨A6,cap6,rfl,hcap6,hm6,_⟩:=OwE.form oe6
         have hE6: ∀b,(Value.slice A6 es6.length cap6).ownBlock=some b→wr.heap.size≤b∧b<w6.heap.size:=fun b hb=>oe6.1.lt b hb
         have HE6:=hDD hE6
         have f0:=(b6.cell (p:=⟨w1.heap.size,0,none⟩) (by show w1.heap.size<wr.heap.size;omega)).trans e0'
         have f1:=(b6.cell (p:=⟨w1.heap.size,1,none⟩) (by show w1.heap.size<wr.heap.size;omega)).trans e1'
         have f2:=(b6.cell (p:=⟨w1.heap.size,2,none⟩) (by show w1.heap.size<wr.heap.size;omega)).trans e2'
         have FF:Hid (∀j,w6.frozen? ⟨w1.heap.size,j,none⟩=false):=hDD fun j=>(b6.frozen (p:=⟨w1.heap.size,j,none⟩) (by show w1.heap.size<wr.heap.size;omega)).trans ((HBO.out.frozen (p:=⟨w1.heap.size,j,none⟩) hlg).trans (EF.out j))
         have ff0:=FF.out 0
         have ff1:=FF.out 1
         have ff2:=FF.out 2
         clear oe6 b6 hE6 e0' e1' e2'
         go_wp2
         obtain⟨c0,c1,c2⟩:=set3_cells w6 w1.heap.size (.int .i64 r2) (.int .i64 m) (.slice A6 es6.length cap6) f0 f1 f2
         have hB6:Hid (Below wq.heap.size wq w6):=hDD ((HBJ.out.trans (HBG.out.mono sj)).trans (((HBO.out.trans (B6.out.mono (by omega)))).mono (by omega)))
         have ol7:OwI (((w6.setCell ⟨w1.heap.size,0,none⟩ (.int .i64 r2)).setCell ⟨w1.heap.size,1,none⟩ (.int .i64 m)).setCell ⟨w1.heap.size,2,none⟩ (.slice A6 es6.length cap6)) (w1.heap.size+1) (.slice (some ⟨gl,0,none⟩) xs.length capl) xs:=
          ((((HO.out.below hB6.out).far (p:=⟨w1.heap.size,0,none⟩) (by show w1.heap.size<_;omega) _).far (p:=⟨w1.heap.size,1,none⟩) (by show w1.heap.size<_;omega) _).far (p:=⟨w1.heap.size,2,none⟩) (by show w1.heap.size<_;omega) _)
         have oe7:OwE (((w6.setCell ⟨w1.heap.size,0,none⟩ (.int .i64 r2)).setCell ⟨w1.heap.size,1,none⟩ (.int .i64 m)).setCell ⟨w1.heap.size,2,none⟩ (.slice A6 es6.length cap6)) wr.heap.size (.slice A6 es6.length cap6) es6:=
          (((OE6.out.far (p:=⟨w1.heap.size,0,none⟩) (by show w1.heap.size<_;omega) _).far (p:=⟨w1.heap.size,1,none⟩) (by show w1.heap.size<_;omega) _).far (p:=⟨w1.heap.size,2,none⟩) (by show w1.heap.size<_;omega) _)
         have hb7:Below w1.heap.size w1 (((w6.setCell ⟨w1.heap.size,0,none⟩ (.int .i64 r2)).setCell ⟨w1.heap.size,1,none⟩ (.int .i64 m)).setCell ⟨w1.heap.size,2,none⟩ (.slice A6 es6.length cap6)):=
          (((HBEL.out.trans (hB6.out.mono (by omega))).setCell (p:=⟨w1.heap.size,0,none⟩) (by show w1.heap.size≤_;exact Nat.le_refl _) _).setCell (p:=⟨w1.heap.size,1,none⟩) (by show w1.heap.size≤_;exact Nat.le_refl _) _).setCell (p:=⟨w1.heap.size,2,none⟩) (by show w1.heap.size≤_;exact Nat.le_refl _) _
         have fz7: ∀j,(((w6.setCell ⟨w1.heap.size,0,none⟩ (.int .i64 r2)).setCell ⟨w1.heap.size,1,none⟩ (.int .i64 m)).setCell ⟨w1.heap.size,2,none⟩ (.slice A6 es6.length cap6)).frozen? ⟨w1.heap.size,j,none⟩=false:=fun j=>by
          rw[World.frozen?_setCell,World.frozen?_setCell,World.frozen?_setCell];exact FF.out j
         have sz7:(((w6.setCell ⟨w1.heap.size,0,none⟩ (.int .i64 r2)).setCell ⟨w1.heap.size,1,none⟩ (.int .i64 m)).setCell ⟨w1.heap.size,2,none⟩ (.slice A6 es6.length cap6)).heap.size=w6.heap.size:=by simp
         generalize ((w6.setCell ⟨w1.heap.size,0,none⟩ (.int .i64 r2)).setCell ⟨w1.heap.size,1,none⟩ (.int .i64 m)).setCell ⟨w1.heap.size,2,none⟩ (.slice A6 es6.length cap6)=w7 at*
         have OL7:=hDD ol7
         have OE7:=hDD oe7
         have HB7:=hDD hb7
         have FZ7:=hDD fz7
         have C0:=hDD c0
         have C1:=hDD c1
         have C2:=hDD c2
         have hx1:u≤xs.length:=by omega
         have hx2:u+1≤xs.length:=by omega
         have OC:=hDD (owI_cut ol7 hx1)
         have RC:=hDD (RdI.cut (k:=u+1) (A:=some ⟨gl,0,none⟩) (cap:=capl) ol7.rd rfl hx2)
         clear ol7 oe7 hb7 fz7 c0 c1 c2 f0 f1 f2 ff0 ff1 ff2 FF
         have z1:(0:Int)≤(u:Int):=by omega
         have z2:(u:Int)≤(capl:Int):=by omega
         have z3:(u:Int)+1≤(k:Int):=by omega
         have z4:(k:Int)≤(capl:Int):=by omega
         have z5:(0:Int)≤(u:Int)+1:=by omega
         have z6:(u:Int)+1≤(capl:Int):=by omega
         have zw:IntKind.i64.wrap ((u:Int)+1)=(u:Int)+1:=by rw[IntKind.wrap_i64];omega
         have HC:Hid (∀(v9:Value) (w9:World),OwI w9 (w1.heap.size+1) v9 (xs.take u++xs.drop (u+1))→w7.drew.grownBy w9 (Value.slice (some ⟨gl,0,none⟩) u capl).ownBlock→(v9.ownBlock=(Value.slice (some ⟨gl,0,none⟩) u capl).ownBlock∨v9.ownBlock=some w7.drew.heap.size)→
           (∃(gg:GrD) (xs:List Int) (A':Option Addr) (cap':Nat),grB gg=true∧R=trimF gg.2.1.toNat gg xs∧xs.length=gg.2.1.toNat∧OwI w9 (w1.heap.size+1) v9 xs∧w9.cell? ⟨w1.heap.size,0,none⟩=some (.int .i64 gg.1)∧w9.cell? ⟨w1.heap.size,1,none⟩=some (.int .i64 gg.2.1)∧w9.cell? ⟨w1.heap.size,2,none⟩=some (.slice A' gg.2.2.length cap')∧(∀j,w9.frozen? ⟨w1.heap.size,j,none⟩=false)∧OwE w9 W0.heap.size (.slice A' gg.2.2.length cap') gg.2.2∧(∀b,(Value.slice A' gg.2.2.length cap').ownBlock=some b→v9.ownBlock≠some b)∧Below w1.heap.size w1 w9∧w1.heap.size<w9.heap.size)∧slN v9<k):=hDD (by
          intro v9 w9 o9 g9 p9
          have g9b: ∀b,b<w7.heap.size→b≠gl→w9.heap[b]? =w7.heap[b]? :=fun b hb hne=>g9.block b hb fun e=>hne (by simpa[Value.ownBlock] using e)
          have hs9:w7.heap.size≤w9.heap.size:=g9.size
          have hln:(xs.take u++xs.drop (u+1)).length=m:=by
           have:=HM.out
           rw[List.length_append,List.length_take,List.length_drop]
           omega
          have hb9:Below w1.heap.size w1 w9:=(HB7.out.drew).grown g9 (by show w1.heap.size≤w7.heap.size;omega) fun x hx=>by simp[Value.ownBlock] at hx;omega
          have cc: ∀o,w9.cell? ⟨w1.heap.size,o,none⟩=w7.cell? ⟨w1.heap.size,o,none⟩:=fun o=>World.cell?_of_block (g9b w1.heap.size (by omega) (by omega))
          have cf: ∀o,w9.frozen? ⟨w1.heap.size,o,none⟩=w7.frozen? ⟨w1.heap.size,o,none⟩:=fun o=>World.frozen?_of_block (g9b w1.heap.size (by omega) (by omega))
          obtain⟨A9,cap9,hv9,_⟩:=OwI.form o9
          refine⟨⟨(r2,(m:Int),es6),xs.take u++xs.drop (u+1),A6,cap6,HGB.out,by rw[HR2.out];simp,by rw[hln];simp,o9,(cc 0).trans C0.out,(cc 1).trans C1.out,(cc 2).trans C2.out,fun j=>(cf j).trans (FZ7.out j),(OE7.out.keep fun b hb=>g9b b (by have:=HE6.out b hb;omega) (by have:=HE6.out b hb;omega)).mono (by omega),fun b hb he=> ?_,hb9,by omega⟩,?_⟩
          ·have h1:=HE6.out b hb
           rcases p9 with p9 | p9
           ·rw[p9] at he
            simp[Value.ownBlock] at he
            omega
           ·rw[p9] at he
            have h2:w7.heap.size=b:=by simpa using he
            omega
          ·rw[hv9,hln]
           show m<k
           have:=HM.out
           omega)
         by_cases hcu:capl=u+1
         ·have RC':Hid (RdI w7 (.slice (some ⟨gl,0,none⟩) (k-(u+1)) 0) (xs.drop (u+1))):=hDD (by
           have h1:=RC.out
           rw[if_pos hcu,hxl,show capl-(u+1)=0 by omega] at h1
           exact h1)
          clear RC
          subst hcu
          have y1:(u:Int)≤(u:Int)+1:=by omega
          have y2:(k:Int)≤(u:Int)+1:=by omega
          clear z2 z4 z6
          go_region_held3 (fun w'=>True) (trivial)
           (first | (refine step_append_ints rfl (.tmp 77) (.tmp 81) rfl (w1.heap.size+1) _ (xs.take u) (OwI.drew OC.out) (by rfl) _ (xs.drop (u+1)) ?_ (by rfl) (by simp only[List.length_take,List.length_drop];omega) (by show _≤w7.heap.size;omega) ?_;(exact RC'.out.drew);intro v9 w9 o9 g9 p9;have X9:=hDD (HC.out v9 w9 o9 g9 p9);clear o9 g9 p9))
          clear HC
          obtain⟨X1,X2⟩:=X9.out
          clear X9
          have HX1:=hDD X1
          clear X1
          go_wp2
          go_roundw
          case rel=>exact HX1.out
          case measure=>(show slN v9<xs.length;omega)
         ·have RC':Hid (RdI w7 (.slice (some ⟨gl,u+1,none⟩) (k-(u+1)) (capl-(u+1))) (xs.drop (u+1))):=hDD (by
           have h1:=RC.out
           rw[if_neg hcu,hxl] at h1
           simpa[Addr.add] using h1)
          go_region_held3 (fun w'=>True) (trivial)
           (first | (refine step_append_ints rfl (.tmp 77) (.tmp 81) rfl (w1.heap.size+1) _ (xs.take u) (OwI.drew OC.out) (by rfl) _ (xs.drop (u+1)) ?_ (by rfl) (by simp only[List.length_take,List.length_drop];omega) (by show _≤w7.heap.size;omega) ?_;(exact RC'.out.drew);intro v9 w9 o9 g9 p9;have X9:=hDD (HC.out v9 w9 o9 g9 p9);clear o9 g9 p9))
          clear HC
          obtain⟨X1,X2⟩:=X9.out
          clear X9
          have HX1:=hDD X1
          clear X1
          go_wp2
          go_roundw
          case rel=>exact HX1.out
          case measure=>(show slN v9<xs.length;omega)
end Go.Proofs.YteobmaambgmdbaaGreat
namespace Go.Proofs.YteobmaambgmdbaaGreat
set_option maxRecDepth 20000
set_option linter.unusedVariables false
set_option linter.unusedSimpArgs false
open Go.RowKit
theorem walkF_cons (es:List EdD) (v x:Int) (w:List Int):walkF es v (x::w)=if nextV es v x<0 then-1 else walkF es (nextV es v x) w:=rfl
theorem walkF_app (es:List EdD): ∀(a:List Int) (v:Int) (b:List Int),0≤walkF es v a→walkF es v (a++b)=walkF es (walkF es v a) b
 | [],_,_,_=>rfl
 | x::a,v,b,h=>by
   rw[List.cons_append,walkF_cons,walkF_cons]
   rw[walkF_cons] at h
   split at h
   ·exact absurd h (by decide)
   ·rename_i hn
    rw[if_neg hn,if_neg hn]
    exact walkF_app es a _ b h
theorem walkF_one (es:List EdD) (v x:Int) (h:0≤nextV es v x):walkF es v [x]=nextV es v x:=by
 rw[walkF_cons,if_neg (by omega)];rfl
def invN (w:List Int):List Int:=(w.map fun x=> -x).reverse
theorem invN_inv (w:List Int):invN (invN w)=w:=by
 unfold invN
 rw[List.map_reverse,List.reverse_reverse,List.map_map]
 have:((fun x:Int=> -x)∘fun x:Int=> -x)=id:=by funext x;simp
 rw[this,List.map_id]
theorem invN_mem {w:List Int} {x:Int} (h:x∈invN w): -x∈w:=by
 unfold invN at h
 simp only[List.mem_reverse,List.mem_map] at h
 obtain⟨y,hy,rfl⟩:=h
 simpa using hy
def wst (es:List EdD) (u:Int) (wu:List Int) (tw:List (Int×List Int)) (x:Int):List (Int×List Int):=
 if 0≤nextV es u x then(if hasB (tw.map (·.1)) (nextV es u x) then tw else tw++ [(nextV es u x,wu++ [x])]) else tw
def wcF (es:List EdD) (ls:List Int):Nat→Nat→List (Int×List Int)→List (Int×List Int)
 | 0,_,tw=>tw
 | f+1,i,tw=>match tw[i]? with
   | none=>tw
   | some p=>wcF es ls f (i+1) (ls.foldl (wst es p.1 p.2) tw)
def wcO (g:GrD):List (Int×List Int):=wcF g.2.2 (lettersL g.1.toNat) 41 0 [(0,[])]
theorem wst_map (es:List EdD) (u:Int) (wu:List Int) (tw:List (Int×List Int)) (x:Int):(wst es u wu tw x).map (·.1)=cstep es u (tw.map (·.1)) x:=by
 unfold wst cstep
 by_cases h0:0≤nextV es u x
 ·rw[if_pos h0,if_pos h0]
  by_cases h1:hasB (tw.map (·.1)) (nextV es u x)=true
  ·rw[if_pos h1,if_pos h1]
  ·rw[if_neg h1,if_neg h1];simp
 ·rw[if_neg h0,if_neg h0]
theorem wfold_map (es:List EdD) (u:Int) (wu:List Int): ∀(ls:List Int) (tw:List (Int×List Int)),(ls.foldl (wst es u wu) tw).map (·.1)=ls.foldl (cstep es u) (tw.map (·.1))
 | [],_=>rfl
 | x::ls,tw=>by rw[List.foldl_cons,List.foldl_cons,wfold_map es u wu ls,wst_map]
theorem wcF_map (es:List EdD) (ls:List Int): ∀(f i:Nat) (tw:List (Int×List Int)),(wcF es ls f i tw).map (·.1)=canF es ls f i (tw.map (·.1))
 | 0,_,_=>rfl
 | f+1,i,tw=>by
   rw[wcF,canF,List.getElem?_map]
   cases tw[i]? with
   | none=>rfl
   | some p=>simp only[Option.map_some];rw[wcF_map es ls f,wfold_map]
theorem wcO_map (g:GrD):(wcO g).map (·.1)=canO g:=by unfold wcO canO;rw[wcF_map];rfl
theorem wcF_step (es:List EdD) (ls:List Int) (f i:Nat) (o:List (Int×List Int)) (h:i<o.length):wcF es ls (f+1) i o=wcF es ls f (i+1) (ls.foldl (wst es o[i].1 o[i].2) o):=by
 rw[wcF,List.getElem?_eq_getElem h]
theorem wst_prefix (es:List EdD) (u:Int) (wu:List Int) (x:Int) (o:List (Int×List Int)) (i:Nat) (y:Int×List Int) (h:o[i]? =some y):(wst es u wu o x)[i]? =some y:=by
 unfold wst
 split
 ·split
  ·exact h
  ·rw[List.getElem?_append_left (List.getElem?_eq_some_iff.1 h).1];exact h
 ·exact h
theorem wfold_prefix (es:List EdD) (u:Int) (wu:List Int): ∀(ls:List Int) (o:List (Int×List Int)) (i:Nat) (y:Int×List Int),o[i]? =some y→(ls.foldl (wst es u wu) o)[i]? =some y
 | [],_,_,_,h=>h
 | x::ls,o,i,y,h=>wfold_prefix es u wu ls _ i y (wst_prefix es u wu x o i y h)
theorem wfold_succ (es:List EdD) (u:Int) (wu:List Int) (ls:List Int) (o:List (Int×List Int)) (k:Nat) (h:k<ls.length):(ls.take (k+1)).foldl (wst es u wu) o=wst es u wu ((ls.take k).foldl (wst es u wu) o) ls[k]:=by
 rw[List.take_succ_eq_append_getElem h,List.foldl_append]
 rfl
theorem wcF_prefix (es:List EdD) (ls:List Int): ∀(f i:Nat) (o:List (Int×List Int)) (j:Nat) (y:Int×List Int),o[j]? =some y→(wcF es ls f i o)[j]? =some y
 | 0,_,_,_,_,h=>h
 | f+1,i,o,j,y,h=>by
   rw[wcF]
   cases o[i]? with
   | none=>exact h
   | some p=>exact wcF_prefix es ls f _ _ j y (wfold_prefix es _ _ ls o j y h)
structure TwI (es:List EdD) (ls:List Int) (tw:List (Int×List Int)):Prop where
 root:tw[0]? =some (0,[])
 par: ∀p∈tw,p=(0,[])∨ ∃q∈tw,∃x∈ls,p.2=q.2++ [x]∧nextV es q.1 x=p.1∧0≤p.1
 len: ∀p∈tw,p.2.length<tw.length
theorem TwI.step {es:List EdD} {ls:List Int} {tw:List (Int×List Int)} (h:TwI es ls tw) {u:Int} {wu:List Int} (hu:(u,wu)∈tw) {x:Int} (hx:x∈ls):TwI es ls (wst es u wu tw x)∧(u,wu)∈wst es u wu tw x:=by
 refine⟨⟨wst_prefix _ _ _ _ _ _ _ h.root,?_,?_⟩,?_⟩
 ·unfold wst
  split
  ·rename_i h0
   split
   ·exact h.par
   ·intro p hp
    rcases List.mem_append.1 hp with hp | hp
    ·rcases h.par p hp with e | ⟨q,hq,r⟩
     ·exact .inl e
     ·exact .inr ⟨q,List.mem_append.2 (.inl hq),r⟩
    ·rw[List.mem_singleton.1 hp]
     exact .inr ⟨(u,wu),List.mem_append.2 (.inl hu),x,hx,rfl,rfl,h0⟩
  ·exact h.par
 ·unfold wst
  split
  ·split
   ·exact h.len
   ·intro p hp
    rw[List.length_append]
    rcases List.mem_append.1 hp with hp | hp
    ·have:=h.len p hp;simp;omega
    ·rw[List.mem_singleton.1 hp]
     have:=h.len _ hu
     simp only[List.length_append,List.length_singleton] at this⊢
     omega
  ·exact h.len
 ·unfold wst
  split
  ·split
   ·exact hu
   ·exact List.mem_append.2 (.inl hu)
  ·exact hu
theorem TwI.fold {es:List EdD} {ls:List Int} {u:Int} {wu:List Int}: ∀(l2:List Int) {tw:List (Int×List Int)},TwI es ls tw→(u,wu)∈tw→(∀x∈l2,x∈ls)→TwI es ls (l2.foldl (wst es u wu) tw)
 | [],_,h,_,_=>h
 | x::l2,tw,h,hu,hs=>by
   have:=h.step hu (hs x (by simp))
   exact TwI.fold l2 this.1 this.2 fun y hy=>hs y (by simp[hy])
theorem TwI.bfs {es:List EdD} {ls:List Int}: ∀(f i:Nat) {tw:List (Int×List Int)},TwI es ls tw→TwI es ls (wcF es ls f i tw)
 | 0,_,_,h=>h
 | f+1,i,tw,h=>by
   rw[wcF]
   cases e:tw[i]? with
   | none=>exact h
   | some p=>exact TwI.bfs f _ (h.fold ls (List.mem_of_getElem? e) fun _ hx=>hx)
theorem TwI.one (es:List EdD) (ls:List Int):TwI es ls [(0,[])]:=⟨rfl,fun p hp=> .inl (List.mem_singleton.1 hp),fun p hp=>by rw[List.mem_singleton.1 hp];simp⟩
theorem wcO_ok (g:GrD):TwI g.2.2 (lettersL g.1.toNat) (wcO g):=(TwI.one _ _).bfs _ _
def lkW (tw:List (Int×List Int)) (v:Int):List Int:=match tw.find? (fun p=>decide (p.1=v)) with
 | some p=>p.2
 | none=> []
def wdO (g:GrD) (v:Int):List Int:=lkW (wcO g) v
theorem lkW_of {tw:List (Int×List Int)} (hn:(tw.map (·.1)).Nodup) {p:Int×List Int} (hp:p∈tw):lkW tw p.1=p.2:=by
 unfold lkW
 induction tw with
 | nil=>cases hp
 | cons q tw ih=>
   rw[List.map_cons,List.nodup_cons] at hn
   rw[List.find?_cons]
   rcases List.mem_cons.1 hp with rfl | hp
   ·simp
   ·have hne:q.1≠p.1:=fun e=>hn.1 (e▸List.mem_map.2 ⟨p,hp,rfl⟩)
    rw[show decide (q.1=p.1)=false by simp[hne]]
    exact ih hn.2 hp
section
variable {g:GrD}
theorem wcO_nodup (hg:grB g=true):((wcO g).map (·.1)).Nodup:=by rw[wcO_map];exact(canO_ok hg).1
theorem wd_of (hg:grB g=true) {p:Int×List Int} (hp:p∈wcO g):wdO g p.1=p.2:=lkW_of (wcO_nodup hg) hp
theorem wd_mem (hg:grB g=true) {v:Int} (hv:v∈canO g):(v,wdO g v)∈wcO g:=by
 rw[←wcO_map] at hv
 obtain⟨p,hp,rfl⟩:=List.mem_map.1 hv
 rw[wd_of hg hp]
 exact hp
theorem can_of {p:Int×List Int} (hp:p∈wcO g):p.1∈canO g:=by rw[←wcO_map];exact List.mem_map.2 ⟨p,hp,rfl⟩
theorem wd_zero (hg:grB g=true):wdO g 0= []:=wd_of hg (p:=(0,[])) (List.mem_of_getElem? (wcO_ok g).root)
theorem wd_par (hg:grB g=true) {v:Int} (hv:v∈canO g) (h0:v≠0): ∃u∈canO g,∃x∈lettersL g.1.toNat,wdO g v=wdO g u++ [x]∧nextV g.2.2 u x=v:=by
 rcases(wcO_ok g).par _ (wd_mem hg hv) with e | ⟨q,hq,x,hx,h1,h2,_⟩
 ·exact absurd (congrArg Prod.fst e) h0
 ·exact⟨q.1,can_of hq,x,hx,by rw[wd_of hg hq];exact h1,h2⟩
theorem wd_len (hg:grB g=true) {v:Int} (hv:v∈canO g):(wdO g v).length<40:=by
 have h1:=(wcO_ok g).len _ (wd_mem hg hv)
 have h2:=(canO_ok hg).len (grB_parts hg).2.1.2 (by have:=(grB_parts hg).2.1.1;omega)
 rw[←wcO_map,List.length_map] at h2
 simp only at h1
 omega
theorem let3 (hg:grB g=true) {x:Int} (hx:x∈lettersL g.1.toNat): -3≤x∧x≤3:=by
 have h1:=letters_mem.1 hx
 have h2:=(grB_parts hg).1
 omega
theorem wd_facts (hg:grB g=true): ∀(n:Nat) {v:Int},v∈canO g→(wdO g v).length≤n→walkF g.2.2 0 (wdO g v)=v∧ ∀x∈wdO g v,x∈lettersL g.1.toNat
 | n,v,hv,hn=>by
   by_cases h0:v=0
   ·subst h0;rw[wd_zero hg];exact⟨rfl,fun x hx=>by cases hx⟩
   ·obtain⟨u,hu,x,hx,e,hnx⟩:=wd_par hg hv h0
    have hv0:=(canO_ok hg).2.1 v hv
    have hu0:=(canO_ok hg).2.1 u hu
    rw[e] at hn⊢
    rw[List.length_append,List.length_singleton] at hn
    match n,hn with
    | n+1,hn=>
      have ih:=wd_facts hg n hu (by omega)
      refine⟨?_,fun y hy=> ?_⟩
      ·rw[walkF_app _ _ _ _ (by rw[ih.1];omega),ih.1,walkF_one _ _ _ (by omega),hnx]
      ·rcases List.mem_append.1 hy with hy | hy
       ·exact ih.2 y hy
       ·rw[List.mem_singleton.1 hy];exact hx
theorem wd_walk (hg:grB g=true) {v:Int} (hv:v∈canO g):walkF g.2.2 0 (wdO g v)=v:=(wd_facts hg _ hv (Nat.le_refl _)).1
theorem wd_let (hg:grB g=true) {v:Int} (hv:v∈canO g): ∀x∈wdO g v,x∈lettersL g.1.toNat:=(wd_facts hg _ hv (Nat.le_refl _)).2
theorem wd_let3 (hg:grB g=true) {v:Int} (hv:v∈canO g): ∀x∈wdO g v,-3≤x∧x≤3:=fun x hx=>let3 hg (wd_let hg hv x hx)
def NoB:List Int→Prop
 | []=>True
 | [_]=>True
 | a::b::l=>b≠ -a∧NoB (b::l)
theorem NoB.app: ∀ {a b:List Int},NoB a→NoB b→(∀x∈a.getLast?,∀y∈b.head?,y≠ -x)→NoB (a++b)
 | [],_,_,hb,_=>hb
 | [x],[],_,_,_=>trivial
 | [x],y::b,_,hb,h=>⟨h x rfl y rfl,hb⟩
 | x::y::a,b,ha,hb,h=>⟨ha.1,NoB.app (a:=y::a) ha.2 hb (by rw[List.getLast?_cons_cons] at h;exact h)⟩
theorem NoB.inv: ∀ {w:List Int},NoB w→NoB (invN w)
 | [],_=>trivial
 | [x],_=>trivial
 | x::y::w,h=>by
   have e:invN (x::y::w)=invN (y::w)++ [-x]:=by simp[invN]
   rw[e]
   refine NoB.app h.2.inv trivial fun a ha b hb=> ?_
   simp[invN] at ha hb
   have:=h.1
   omega
theorem wd_chain (hg:grB g=true) (hf:Fol g.2.2): ∀(n:Nat) {v:Int},v∈canO g→(wdO g v).length≤n→NoB (wdO g v)
 | n,v,hv,hn=>by
   by_cases h0:v=0
   ·subst h0;rw[wd_zero hg];exact trivial
   ·obtain⟨u,hu,x,hx,e,hnx⟩:=wd_par hg hv h0
    have hl:(wdO g v).length=(wdO g u).length+1:=by rw[e];simp
    match n,hn with
    | 0,hn=>omega
    | n+1,hn=>
      have ih:=wd_chain hg hf n hu (by omega)
      rw[e]
      refine NoB.app ih trivial fun a ha b hb=> ?_
      simp at hb
      subst hb
      intro hx'
      by_cases hu0:u=0
      ·subst hu0;rw[wd_zero hg] at ha;simp at ha
      ·obtain⟨t,ht,y,hy,e2,hny⟩:=wd_par hg hu hu0
       rw[e2] at ha
       simp at ha
       subst ha
       have hu1:=(canO_ok hg).2.1 u hu
       have hb:=nextV_back hg hf (let3 hg hy) (by rw[hny];omega)
       rw[hny,←hx',hnx] at hb
       subst hb
       rw[e2] at e
       have:=congrArg List.length e
       simp at this
theorem nextV_out (hg:grB g=true) (hf:Fol g.2.2) {e:EdD} (he:e∈g.2.2):nextV g.2.2 e.1 e.2.1=e.2.2:=by
 have h:=(edge_of_gr hg he).2.1
 exact nextV_of hf he (by unfold mt;rw[if_pos (by omega),if_pos ⟨rfl,rfl⟩])
theorem nextV_in (hg:grB g=true) (hf:Fol g.2.2) {e:EdD} (he:e∈g.2.2):nextV g.2.2 e.2.2 (-e.2.1)=e.1:=by
 have h:=(edge_of_gr hg he).2.1
 have h3:=(grB_parts hg).1
 have hb:=nextV_back hg hf (v:=e.1) (x:=e.2.1) (by omega) (by rw[nextV_out hg hf he];exact(edge_of_gr hg he).2.2.1)
 rwa [nextV_out hg hf he] at hb
theorem core_all (h:coreB g=true) {v:Int} (hv:0≤v∧v<g.2.1):v∈canO g:=by
 have hg:=coreB_grB h
 have hok:=canO_ok hg
 have hl:((canO g).length:Int)=g.2.1:=by
  unfold coreB at h
  simp only[Bool.and_eq_true,decide_eq_true_eq] at h
  have:=congrArg (fun g:GrD=>g.2.1) h.2
  exact this
 apply Classical.byContradiction
 intro hn
 have:=nodup_len g.2.1.toNat (v::canO g) (List.nodup_cons.2 ⟨hn,hok.1⟩) fun y hy=>by
  rcases List.mem_cons.1 hy with rfl | hy
  ·omega
  ·have:=hok.2.1 y hy;omega
 rw[List.length_cons] at this
 omega
theorem leaf_none (es:List EdD) (n:Nat): ∀(f v:Nat),v+f=n→leafFrom es n f v<0→ ∀u,v≤u→u<n→leafB es u=false
 | 0,v,h,_,u,h1,h2=>by omega
 | f+1,v,h,hl,u,h1,h2=>by
   unfold leafFrom at hl
   rw[if_pos (by omega)] at hl
   split at hl
   ·omega
   ·rename_i hb
    by_cases e:u=v
    ·subst e;simpa using hb
    ·exact leaf_none es n f (v+1) (by omega) hl u (by omega) h2
theorem degL_zero {v:Int}: ∀ {es:List EdD},(∀e∈es,degE v e=0)→degL es v=0
 | [],_=>rfl
 | e::es,h=>by
   have h1:=degL_zero (es:=es) fun e he=>h e (by simp[he])
   have h2:=h e (by simp)
   unfold degL at h1⊢
   rw[List.map_cons,List.sum_cons,h1,h2]
theorem deg_one {v l0:Int}: ∀ {es:List EdD},Fol es→(∀e∈es,1≤e.2.1)→(∀e∈es,(e.1=v→e.2.1=l0)∧(e.2.2=v→ -e.2.1=l0))→degL es v≤1
 | [],_,_,_=>by simp[degL]
 | e::es,hf,hl,h=>by
   have p:=List.pairwise_cons.1 hf
   have ih:=deg_one p.2 (fun e he=>hl e (by simp[he])) fun e he=>h e (by simp[he])
   have he:=h e (by simp)
   have hle:=hl e (by simp)
   have hsum:degL (e::es) v=degE v e+degL es v:=by simp[degL]
   rw[hsum]
   by_cases ht:e.1=v∨e.2.2=v
   ·have hz:degL es v=0:=by
     refine degL_zero fun e' he'=> ?_
     have h':=h e' (by simp[he'])
     have hl':=hl e' (by simp[he'])
     have hc:=p.1 e' he'
     unfold clash at hc
     have hne: ¬(e'.1=v∨e'.2.2=v):=by
      rintro(ha | ha)
      ·rcases ht with ht | ht
       ·have a1:=he.1 ht;have a2:=h'.1 ha
        rw[show(e.2.1==e'.2.1)=true by simp;omega,show(e.1==e'.1)=true by simp;omega] at hc
        simp at hc
       ·have a1:=he.2 ht;have a2:=h'.1 ha;omega
      ·rcases ht with ht | ht
       ·have a1:=he.1 ht;have a2:=h'.2 ha;omega
       ·have a1:=he.2 ht;have a2:=h'.2 ha
        rw[show(e.2.1==e'.2.1)=true by simp;omega,show(e.2.2==e'.2.2)=true by simp;omega] at hc
        simp at hc
     unfold degE
     rw[if_neg fun q=>hne (.inl q),if_neg fun q=>hne (.inr q)]
    rw[hz]
    unfold degE
    by_cases a:e.1=v
    ·rw[if_pos a]
     by_cases b:e.2.2=v
     ·have a1:=he.1 a;have a2:=he.2 b;omega
     ·rw[if_neg b];omega
    ·rw[if_neg a]
     by_cases b:e.2.2=v
     ·rw[if_pos b];omega
     ·rw[if_neg b];omega
   ·have:degE v e=0:=by
     unfold degE
     rw[if_neg fun q=>ht (.inl q),if_neg fun q=>ht (.inr q)]
    omega
end
def imgW (a b:GrD) (v:Int):Int:=walkF b.2.2 0 (wdO a v)
section
variable {a b:GrD}
end
def TwS (g:GrD) (ls:List Int) (k:Nat) (o:List Int):Prop:= ∃tw,tw.map (·.1)=o∧wcO g=wcF g.2.2 ls (41-k) k tw
theorem TwS.zero (g:GrD):TwS g (lettersL g.1.toNat) 0 [0]:=⟨[(0,[])],rfl,rfl⟩
theorem TwS.step {g:GrD} {ls:List Int} {k:Nat} {o:List Int} (h:TwS g ls k o) {u:Int} (hk:o[k]? =some u) (h41:k<41):TwS g ls (k+1) (ls.foldl (cstep g.2.2 u) o):=by
 obtain⟨tw,rfl,h2⟩:=h
 have hlt:k<tw.length:=by have:=(List.getElem?_eq_some_iff.1 hk).1;simpa using this
 have hu:tw[k].1=u:=by rw[List.getElem?_map,List.getElem?_eq_getElem hlt] at hk;simpa using hk
 refine⟨ls.foldl (wst g.2.2 tw[k].1 tw[k].2) tw,by rw[wfold_map,hu],?_⟩
 rw[h2,show 41-k=(41-(k+1))+1 by omega,wcF_step _ _ _ _ _ hlt]
theorem TwS.new {g:GrD} (hg:grB g=true) {ls:List Int} {k:Nat} {o:List Int} (h:TwS g ls k o) {u:Int} (hk:o[k]? =some u) (h41:k<41) {m:Nat} (hm:m<ls.length)
  (h0:0≤nextV g.2.2 u ls[m]) (hn:hasB ((ls.take m).foldl (cstep g.2.2 u) o) (nextV g.2.2 u ls[m])=false):wdO g (nextV g.2.2 u ls[m])=wdO g u++ [ls[m]]:=by
 obtain⟨tw,rfl,h2⟩:=h
 have hlt:k<tw.length:=by have:=(List.getElem?_eq_some_iff.1 hk).1;simpa using this
 have hu:tw[k].1=u:=by rw[List.getElem?_map,List.getElem?_eq_getElem hlt] at hk;simpa using hk
 rw[show 41-k=(41-(k+1))+1 by omega] at h2
 have m1:tw[k]∈wcO g:=by rw[h2];exact List.mem_of_getElem? (wcF_prefix _ _ _ _ _ k _ (List.getElem?_eq_getElem hlt))
 have w1:=wd_of hg m1
 rw[hu] at w1
 rw[wcF_step _ _ _ _ _ hlt,hu] at h2
 have hmap:=wfold_map g.2.2 u tw[k].2 (ls.take m) tw
 have hst:wst g.2.2 u tw[k].2 ((ls.take m).foldl (wst g.2.2 u tw[k].2) tw) ls[m]=(ls.take m).foldl (wst g.2.2 u tw[k].2) tw++ [(nextV g.2.2 u ls[m],tw[k].2++ [ls[m]])]:=by
  rw[wst,if_pos h0,hmap,if_neg (by rw[hn];simp)]
 have hall:ls.foldl (wst g.2.2 u tw[k].2) tw=(ls.drop (m+1)).foldl (wst g.2.2 u tw[k].2) ((ls.take (m+1)).foldl (wst g.2.2 u tw[k].2) tw):=by
  rw[←List.foldl_append,List.take_append_drop]
 have m2:(nextV g.2.2 u ls[m],tw[k].2++ [ls[m]])∈wcO g:=by
  rw[h2,hall,wfold_succ _ _ _ _ _ _ hm,hst]
  refine List.mem_of_getElem? (wcF_prefix _ _ _ _ _ ((ls.take m).foldl (wst g.2.2 u tw[k].2) tw).length _ (wfold_prefix _ _ _ _ _ _ _ ?_))
  rw[List.getElem?_append_right (Nat.le_refl _),Nat.sub_self]
  rfl
 have w2:=wd_of hg m2
 rw[w2,w1]
theorem getLastD_snoc (l:List Int) (x:Int):(l++ [x]).getLastD 0=x:=by simp[List.getLastD_eq_getLast?]
end Go.Proofs.YteobmaambgmdbaaGreat
namespace Go.Proofs.YteobmaambgmdbaaGreat
set_option maxRecDepth 20000
set_option linter.unusedVariables false
set_option linter.unusedSimpArgs false
open Go.RowKit
abbrev FoD:=Int×Int
def fo2 (a b:EdD):List FoD:=
 (if a.2.1=b.2.1∧a.1=b.1 then [(min a.2.2 b.2.2,max a.2.2 b.2.2)] else [])++
 (if a.2.1=b.2.1∧a.2.2=b.2.2 then [(min a.1 b.1,max a.1 b.1)] else [])
def foAt (es:List EdD) (i k:Nat):List FoD:=((es.take k).drop (i+1)).flatMap (fo2 (es.getD i (0,0,0)))
def foUp (es:List EdD):Nat→List FoD
 | 0=> []
 | i+1=>foUp es i++foAt es i es.length
def foL (es:List EdD):List FoD:=foUp es es.length
theorem foAt_start (es:List EdD) (i:Nat):foAt es i (i+1)= []:=by
 unfold foAt
 rw[List.drop_eq_nil_of_le (by rw[List.length_take];omega)]
 rfl
theorem foAt_succ (es:List EdD) (i k:Nat) (hk:k<es.length) (hi:i<k):foAt es i (k+1)=foAt es i k++fo2 (es.getD i (0,0,0)) es[k]:=by
 unfold foAt
 rw[List.take_succ_eq_append_getElem hk,List.drop_append_of_le_length (by rw[List.length_take];omega),List.flatMap_append]
 simp
theorem fo2_len (a b:EdD):(fo2 a b).length≤2:=by
 unfold fo2
 rw[List.length_append]
 split<;>split<;>simp
theorem foAt_len (es:List EdD) (i k:Nat):(foAt es i k).length≤2*es.length:=by
 unfold foAt
 have h: ∀L:List EdD,(L.flatMap (fo2 (es.getD i (0,0,0)))).length≤2*L.length:=by
  intro L
  induction L with
  | nil=>simp
  | cons a L ih=>
    rw[List.flatMap_cons,List.length_append,List.length_cons]
    have:=fo2_len (es.getD i (0,0,0)) a
    omega
 have h1:=h ((es.take k).drop (i+1))
 rw[List.length_drop,List.length_take] at h1
 omega
theorem foUp_len (es:List EdD): ∀i,(foUp es i).length≤2*es.length*i
 | 0=>by simp[foUp]
 | i+1=>by
   have h1:=foUp_len es i
   have h2:=foAt_len es i es.length
   unfold foUp
   rw[List.length_append,Nat.mul_succ]
   omega
theorem foAt_mem {es:List EdD} {i k:Nat} (hi:i<k) (hk:k<es.length) {f:FoD} (h:f∈fo2 es[i] es[k]):f∈foAt es i es.length:=by
 unfold foAt
 rw[List.take_length]
 refine List.mem_flatMap.2 ⟨es[k],?_,by simpa[List.getD,show i<es.length by omega] using h⟩
 rw[List.mem_iff_getElem]
 exact⟨k-(i+1),by rw[List.length_drop];omega,by rw[List.getElem_drop];congr 1;omega⟩
theorem foUp_mem {es:List EdD} {i:Nat} {f:FoD} (h:f∈foAt es i es.length): ∀n,i<n→f∈foUp es n
 | 0,hn=>by omega
 | n+1,hn=>by
   unfold foUp
   by_cases e:i=n
   ·subst e;exact List.mem_append.2 (.inr h)
   ·exact List.mem_append.2 (.inl (foUp_mem h n (by omega)))
theorem foUp_from {es:List EdD} {f:FoD}: ∀n,f∈foUp es n→ ∃i,i<n∧f∈foAt es i es.length
 | 0,h=>by cases h
 | n+1,h=>by
   unfold foUp at h
   rcases List.mem_append.1 h with h | h
   ·obtain⟨i,hi,hf⟩:=foUp_from n h
    exact⟨i,by omega,hf⟩
   ·exact⟨n,by omega,h⟩
theorem foL_from {es:List EdD} {f:FoD} (h:f∈foL es): ∃i k,∃(hi:i<k) (hk:k<es.length),f∈fo2 (es[i]'(by omega)) es[k]:=by
 obtain⟨i,hi,hf⟩:=foUp_from _ h
 unfold foAt at hf
 rw[List.take_length] at hf
 obtain⟨b,hb,hf⟩:=List.mem_flatMap.1 hf
 obtain⟨j,hj,rfl⟩:=List.mem_iff_getElem.1 hb
 rw[List.length_drop] at hj
 rw[List.getElem_drop] at hf
 refine⟨i,i+1+j,by omega,by omega,?_⟩
 simpa[List.getD,hi] using hf
theorem fol_of_foL {es:List EdD} (h:foL es= []):Fol es:=by
 refine fol_of fun k hk i hi=> ?_
 rcases e:clash es[k] es[i] with _ | _
 ·rfl
 ·rw[clash_comm] at e
  have hm: ∃f,f∈fo2 es[i] es[k]:=by
   unfold clash at e
   simp only[Bool.and_eq_true,Bool.or_eq_true,beq_iff_eq] at e
   unfold fo2
   rcases e.2 with q | q
   ·exact⟨_,List.mem_append.2 (.inl (by rw[if_pos ⟨e.1,q⟩];exact List.mem_singleton.2 rfl))⟩
   ·exact⟨_,List.mem_append.2 (.inr (by rw[if_pos ⟨e.1,q⟩];exact List.mem_singleton.2 rfl))⟩
  obtain⟨f,hf⟩:=hm
  have:=foUp_mem (foAt_mem hi hk hf) es.length (by omega)
  rw[show foUp es es.length= [] from h] at this
  cases this
theorem gr_srt {g:GrD} (h:grB g=true):Srt cmpE g.2.2:=(gr_nodup h).1
theorem foL_ok {g:GrD} (h:grB g=true) {f:FoD} (hf:f∈foL g.2.2):0≤f.1∧f.1<f.2∧f.2<g.2.1:=by
 obtain⟨i,k,hi,hk,hm⟩:=foL_from hf
 have hne:g.2.2[i]≠g.2.2[k]:=fun e=>by
  have:=(List.pairwise_iff_getElem.1 (gr_srt h)) i k (by omega) hk hi
  rw[e,cmpE_zero.2 rfl] at this
  omega
 have e1:=edge_of_gr h (List.getElem_mem (show i<g.2.2.length by omega))
 have e2:=edge_of_gr h (List.getElem_mem hk)
 generalize g.2.2[i]'(by omega)=a at*
 generalize g.2.2[k]=b at*
 obtain⟨a1,a2,a3⟩:=a
 obtain⟨b1,b2,b3⟩:=b
 simp only at*
 unfold fo2 at hm
 rcases List.mem_append.1 hm with hm | hm
 ·split at hm
  ·rename_i q
   simp only at q
   have:a3≠b3:=fun e=>hne (by rw[q.1,q.2,e])
   rw[List.mem_singleton.1 hm]
   simp only
   omega
  ·cases hm
 ·split at hm
  ·rename_i q
   simp only at q
   have:a1≠b1:=fun e=>hne (by rw[q.1,q.2,e])
   rw[List.mem_singleton.1 hm]
   simp only
   omega
  ·cases hm
def plF (f:FoD) (v:Int):Int:=if v=f.2 then f.1 else if f.2<v then v-1 else v
def plE (f:FoD) (e:EdD):EdD:=(plF f e.1,e.2.1,plF f e.2.2)
def merG (g:GrD) (f:FoD):GrD:=(g.1,g.2.1-1,srt cmpE (g.2.2.map (plE f)))
theorem plF_range {f:FoD} {n v:Int} (hf:0≤f.1∧f.1<f.2∧f.2<n) (hv:0≤v∧v<n):0≤plF f v∧plF f v<n-1:=by
 unfold plF
 split
 ·omega
 ·split<;>omega
theorem grB_merG {g:GrD} {f:FoD} (hg:grB g=true) (hf:0≤f.1∧f.1<f.2∧f.2<g.2.1):grB (merG g f)=true:=by
 obtain⟨h1,h2,h3,_⟩:=grB_parts hg
 have hsp:=srt_spec cmpE_ord (g.2.2.map (plE f))
 refine grB_of h1 ⟨by show(1:Int)≤g.2.1-1;omega,by show g.2.1-1≤40;omega⟩ ?_ hsp.1 fun e he=> ?_
 ·have a:=srt_len (c:=cmpE) (g.2.2.map (plE f))
  rw[List.length_map] at a
  show(srt cmpE (g.2.2.map (plE f))).length≤120
  omega
 ·obtain⟨d,hd,rfl⟩:=List.mem_map.1 ((hsp.2 e).1 he)
  obtain⟨q1,q2,q3⟩:=edge_of_gr hg hd
  exact⟨plF_range hf q1,q2,plF_range hf q3⟩
def folF:Nat→GrD→GrD
 | 0,g=>g
 | n+1,g=>match foL g.2.2 with
   | []=>g
   | f::_=>folF n (merG g f)
def folA (g:GrD):GrD:=folF g.2.1.toNat g
theorem folF_nil {g:GrD} (h:foL g.2.2= []): ∀n,folF n g=g
 | 0=>rfl
 | n+1=>by unfold folF;rw[h]
theorem folF_cons {g:GrD} {f:FoD} {l:List FoD} (h:foL g.2.2=f::l) (n:Nat):folF (n+1) g=folF n (merG g f):=by
 show(match foL g.2.2 with | []=>g | f::_=>folF n (merG g f))=_
 rw[h]
theorem folF_ok: ∀(n:Nat) (g:GrD),grB g=true→g.2.1≤n→foldB (folF n g)=true
 | 0,g,hg,hn=>by have:=(grB_parts hg).2.1;omega
 | n+1,g,hg,hn=>by
   rcases e:foL g.2.2 with _ | ⟨f,l⟩
   ·rw[folF_nil e]
    unfold foldB
    rw[hg,decide_eq_true (fol_of_foL e)]
    rfl
   ·rw[folF_cons e]
    have hf:=foL_ok hg (f:=f) (by rw[e];simp)
    exact folF_ok n (merG g f) (grB_merG hg hf) (by show g.2.1-1≤n;omega)
theorem folA_ok {g:GrD} (hg:grB g=true):foldB (folA g)=true:=folF_ok _ g hg (by have:=(grB_parts hg).2.1;omega)
theorem fol_mem {es:List EdD} (h:Fol es) {a b:EdD} (ha:a∈es) (hb:b∈es) (hne:a≠b):clash a b=false:=by
 unfold Fol at h
 rw[List.pairwise_iff_getElem] at h
 obtain⟨i,hi,rfl⟩:=List.getElem_of_mem ha
 obtain⟨k,hk,rfl⟩:=List.getElem_of_mem hb
 rcases Nat.lt_trichotomy i k with q | q | q
 ·exact h i k hi hk q
 ·subst q;exact absurd rfl hne
 ·rw[clash_comm];exact h k i hk hi q
theorem fol_rnG {g:GrD} (o:List Int) (h:Fol g.2.2):Fol (rnG g o).2.2:=by
 have hsp:=srt_spec cmpE_ord (rnL g.2.2 o)
 show Fol (srt cmpE (rnL g.2.2 o))
 unfold Fol
 refine hsp.1.imp_of_mem fun {x y} hx hy hxy=> ?_
 obtain⟨a,ha,hxa⟩:=List.mem_filterMap.1 ((hsp.2 x).1 hx)
 obtain⟨b,hb,hyb⟩:=List.mem_filterMap.1 ((hsp.2 y).1 hy)
 have hne:a≠b:=fun e=>by
  subst e
  rw[hxa] at hyb
  injection hyb with e
  rw[e,cmpE_zero.2 rfl] at hxy
  omega
 have hc:=fol_mem h ha hb hne
 unfold rnE at hxa hyb
 split at hxa
 ·rename_i p1
  split at hyb
  ·rename_i p2
   injection hxa with hxa
   injection hyb with hyb
   subst hxa hyb
   unfold clash at hc⊢
   rw[Bool.eq_false_iff] at hc⊢
   intro q
   apply hc
   simp only[Bool.and_eq_true,Bool.or_eq_true,beq_iff_eq] at q⊢
   refine⟨q.1,?_⟩
   rcases q.2 with q | q
   ·exact .inl (plv_inj (o:=o) (by omega) (by omega))
   ·exact .inr (plv_inj (o:=o) (by omega) (by omega))
  ·cases hyb
 ·cases hxa
theorem foldB_rnGN {g:GrD} {o:List Int} (h:foldB g=true) (ho:OrdN g.2.1 o):foldB (rnG g o)=true:=by
 obtain⟨h1,h2⟩:=foldB_parts h
 unfold foldB
 rw[grB_rnGN h1 ho,decide_eq_true (fol_rnG o h2)]
 rfl
theorem foldB_rnG {g:GrD} {o:List Int} (h:foldB g=true) (ho:OrdOk g.2.1 o):foldB (rnG g o)=true:=foldB_rnGN h ho.toN
theorem trimF_fold: ∀(n:Nat) (g:GrD) (l:List Int),foldB g=true→foldB (trimF n g l).1=true
 | 0,g,l,h=>h
 | n+1,g,l,h=>by
   unfold trimF
   split
   ·exact h
   ·rename_i hv
    have hsz:=(grB_parts (foldB_parts h).1).2.1
    have hr:=leafV_range g.2.2 g.2.1.toNat
    refine trimF_fold n _ _ (foldB_rnG h ?_)
    have:=delO_ok (n:=g.2.1.toNat) (x:=leafV g.2.2 g.2.1.toNat) (by omega) (by omega)
    rwa [show((g.2.1.toNat:Nat):Int)=g.2.1 by omega] at this
theorem trimG_fold {g:GrD} (h:foldB g=true):foldB (trimG g).1=true:=trimF_fold _ _ _ h
def coreG (g:GrD):GrD:=canG (trimG (folA g)).1
end Go.Proofs.YteobmaambgmdbaaGreat
namespace Go.Proofs.YteobmaambgmdbaaGreat
set_option maxRecDepth 20000
set_option linter.unusedVariables false
set_option linter.unusedSimpArgs false
open Go.RowKit
def foC (f:FoD):List Value:= [.int .i64 f.1, .int .i64 f.2]
def foCs (l:List FoD):List Value:=(l.map foC).flatten
theorem foCs_snoc (l:List FoD) (f:FoD):foCs (l++ [f])=foCs l++foC f:=by simp[foCs]
def OwFo (w:World) (base:Nat) (v:Value) (l:List FoD):Prop:=w.ownsRow base 123 2 v l.length (foCs l)
section
variable {w w':World} {base:Nat} {v:Value} {l:List FoD}
theorem OwFo.below (h:OwFo w base v l) (hb:Below w.heap.size w w'):OwFo w' base v l:=ownsRow_below h hb
theorem OwFo.alloc (h:OwFo w base v l) (o:Obj):OwFo (w.alloc o) base v l:=World.ownsRow.alloc h o
theorem OwFo.mono {base':Nat} (h:OwFo w base v l) (hb:base'≤base):OwFo w base' v l:=by
 refine⟨h.1,?_⟩
 rcases h.2 with h0 | ⟨g,cap,cur,hv,hg,r⟩
 ·exact .inl h0
 ·exact .inr ⟨g,cap,cur,hv,Nat.le_trans hb hg,r⟩
theorem OwFo.form (h:OwFo w base v l): ∃A cap,v= .slice A l.length cap∧l.length≤cap∧cap≤maxLen∧(A=none→cap=0)∧(0<l.length→ ∃g,A=some ⟨g,0,none⟩∧base≤g∧g<w.heap.size):=owns_form h
end
theorem fold_info:(Tryz.prog.info? 123).map (fun i=>(i.zero,i.size,i.bytes))=some (some (.agg #[.int .i64 0, .int .i64 0]),2,16):=by kernel_rfl
theorem push_fold {w:World} {ops:Array Oper} {rest:List Oper} {o:Oper} {a:Act} {R:Exit→Act→World→Prop} (hgd:o.guard=none) (s x:Operand)
  (ho:o.op= .call {callee:= .builtin .append,args:= #[s,x],argTypes:= #[106,106]})
  (base:Nat) (v:Value) (l:List FoD) (hown:OwFo w base v l) (hs:a.eval s=v) (b:Nat) (f:FoD) (hx:a.eval x= .slice (some ⟨b,0,none⟩) 1 1)
  (hc: ∀j u,(foC f)[j]? =some u→w.cell? ⟨b,j,none⟩=some u) (hl:l.length≤1073741824) (hbase:base≤w.heap.size)
  (h: ∀v' w',OwFo w' base v' (l++ [f])→w.grownBy w' v.ownBlock→(v'.ownBlock=v.ownBlock∨v'.ownBlock=some w.heap.size)→wpList Tryz.prog ops R rest (a.put o.dst v') w'):
  wpList Tryz.prog ops R (o::rest) a w:=by
 obtain⟨i0,hi0,hz0,hz1,hz2⟩:=info_parts fold_info
 refine wpList_append_own_at _ hgd s x 106 ho base 123 i0 _ 2 16 Tryz.underlying106 hi0 hz0 hz1 hz2 rfl (by decide) v l.length (foCs l) hs hown ⟨b,0,none⟩ 1 1 (foC f) hx rfl ?_ ?_ (by unfold maxLen;omega) (by omega) hbase ?_
 ·intro j u hj
  rw[Addr.add_lit,Nat.zero_add]
  exact hc j u hj
 ·intro u hu
  simp[foC] at hu
  rcases hu with rfl | rfl<;>rfl
 ·intro v' w' h1 h2 h3 h5
  refine h v' w' ?_ h2 h5
  unfold OwFo
  rw[foCs_snoc,List.length_append]
  exact h1
theorem fo_lit (w:World) (a b:Value) (t:TypeId): ∀j u,[a,b][j]? =some u→(w.alloc (.cells #[a,b] t)).cell? ⟨w.heap.size,j,none⟩=some u:=by
 intro j u hj
 match j,hj with
 | 0,hj=>simp at hj;subst hj;simp[go_sem]
 | 1,hj=>simp at hj;subst hj;simp[go_sem]
theorem fo_litN (w:World) (N:Nat) (hN:w.heap.size=N) (a b:Value) (t:TypeId): ∀j u,[a,b][j]? =some u→(w.alloc (.cells #[a,b] t)).cell? ⟨N,j,none⟩=some u:=by
 subst hN;exact fo_lit w a b t
theorem grown_cellF {w w':World} {row:Option Nat} (hg:w.grownBy w' row) {b o:Nat} (hlt:b<w.heap.size) (hne: ∀c,row=some c→c≠b):w'.cell? ⟨b,o,none⟩=w.cell? ⟨b,o,none⟩:=
 World.cell?_of_block (hg.block b hlt fun e=>hne b e.symm rfl)
theorem OwFo_lit (w:World) {base:Nat} (h:base≤w.heap.size):OwFo (w.alloc (.cells #[] 123)) base (.slice (some ⟨w.heap.size,0,none⟩) 0 0) []:=by
 have:=World.ownsRow_lit (e:=123) (size:=2) (base:=base) w #[] 0 h (by unfold maxLen;omega) (by simp)
 simpa[OwFo,foCs] using this
set_option maxHeartbeats 1000000 in
theorem l7Folds_any (v:Value) (g:GrD) (w:World) (h:ArgG w v g) (hl:g.2.2.length≤120):
  Calls Tryz.prog 180 #[v] w fun e w'=> ∃r,e= .returned r∧OwFo w' w.heap.size r (foL g.2.2)∧Below w.heap.size w w':=by
 obtain⟨s,rfl,hi1,hi2,ha⟩:=h
 obtain⟨A,cap,rfl⟩:=ha.form
 obtain⟨g1,N,es⟩:=g
 simp only at*
 have HAE:=hDD ha
 clear ha
 have HUL:=hDD (foUp_len es)
 have HAL:=hDD (foAt_len es)
 go_enter Tryz.func180,Tryz.ntmps180
 have bx:Below w.heap.size w ((w.alloc (Obj.cells #[Value.int IntKind.i64 g1,Value.int IntKind.i64 N, .slice A es.length cap] 26)).alloc (.cells #[] 123)):=(by repeat(first | exact Below.refl _ _ | (refine Below.setCell ?_ (by first | omega | (simp<;>omega)) _) | (refine bel_drewN ?_ _) | (refine Below.drew ?_) | (refine Below.alloc ?_ (by first | omega | (simp<;>omega)) _)))
 have HOU:Hid (OwFo ((w.alloc (Obj.cells #[Value.int IntKind.i64 g1,Value.int IntKind.i64 N, .slice A es.length cap] 26)).alloc (.cells #[] 123)) (w.heap.size+1) (.slice (some ⟨w.heap.size+1,0,none⟩) 0 0) []):=hDD (by
  have:=OwFo_lit (base:=w.heap.size+1) (w.alloc (Obj.cells #[Value.int IntKind.i64 g1,Value.int IntKind.i64 N, .slice A es.length cap] 26)) (by simp)
  simpa using this)
 go_wp2
 obtain⟨W,hW⟩: ∃W,W=(w.alloc (Obj.cells #[Value.int IntKind.i64 g1,Value.int IntKind.i64 N, .slice A es.length cap] 26)).alloc (.cells #[] 123):=⟨_,rfl⟩
 rw[←hW] at bx HOU⊢
 have hsW:W.heap.size=w.heap.size+2:=by rw[hW];simp
 have L2:Hid (W.cell? ⟨w.heap.size,2,none⟩=some (.slice A es.length cap)):=hDD (by rw[hW];simp[go_sem])
 have BX:=hDD bx
 have HA:Hid (∀w',Below (w.heap.size+1) W w'→ArgE w' (.slice A es.length cap) es):=hDD fun w' hb=>HAE.out.below (BX.out.trans (hb.mono (by omega)))
 clear hW bx
 go_loopw [3,4] (fun out i wr=> ∃k:Nat,k≤es.length∧i= .int .i64 k∧OwFo wr (w.heap.size+1) out (foUp es k)∧Below (w.heap.size+1) W wr) (fun _ i _=>es.length-(intOf i).toNat)
 case atStart=>exact⟨0,Nat.zero_le _,rfl,HOU.out,(Below.refl W.heap.size W).mono (by omega)⟩
 case round=>
  obtain⟨i,hi,rfl,ho,hb⟩:=hrel
  have HO:=hDD ho
  have HB:=hDD hb
  obtain⟨wi,rfl⟩: ∃wi:World,wi=wr:=⟨_,rfl⟩
  clear ho hb
  have q2:=(HB.out.cell (p:=⟨w.heap.size,2,none⟩) (by show w.heap.size<w.heap.size+1;omega)).trans L2.out
  by_cases hlt:i<es.length
  ·have HO1:Hid (OwFo wi (w.heap.size+1) u3 (foUp es i++foAt es i (i+1))):=hDD (by rw[foAt_start,List.append_nil];exact HO.out)
   have HFU:=hDD (show foUp es (i+1)=foUp es i++foAt es i es.length from rfl)
   have hiI:(i:Int)<(es.length:Int):=by omega
   go_wp2
   go_loopw [3,5] (fun out k wr=> ∃j:Nat,i<j∧j≤es.length∧k= .int .i64 j∧OwFo wr (w.heap.size+1) out (foUp es i++foAt es i j)∧Below (w.heap.size+1) W wr) (fun _ k _=>es.length-(intOf k).toNat)
   case atStart=>exact⟨i+1,by omega,by omega,by go_num,HO1.out,HB.out⟩
   case round=>
    obtain⟨j,hij,hj,rfl,ho,hb⟩:=hrel
    have HO2:=hDD ho
    have HB2:=hDD hb
    obtain⟨wj,rfl⟩: ∃wj:World,wj=wr:=⟨_,rfl⟩
    clear ho hb q2
    have q2:=(HB2.out.cell (p:=⟨w.heap.size,2,none⟩) (by show w.heap.size<w.heap.size+1;omega)).trans L2.out
    by_cases hlt2:j<es.length
    ·obtain⟨b,off,rfl,hbw,a0,a1,a2,_⟩:=(HA.out wj HB2.out).at hlt
     obtain⟨b',off',hA,_,c0,c1,c2,_⟩:=(HA.out wj HB2.out).at hlt2
     injection hA with hA
     injection hA with e1 e2
     subst e1 e2
     have HST:=hDD (foAt_succ es i j hlt2 hij)
     rw[show es.getD i (0,0,0)=es[i] by simp[List.getD,hlt]] at HST
     have hln:(foUp es i++foAt es i j).length≤1000000:=by
      have h1:=HUL.out i
      have h2:=HAL.out i j
      have h3:2*es.length*i≤240*120:=Nat.mul_le_mul (by omega) (by omega)
      rw[List.length_append]
      omega
     have hbase:=HB2.out.size
     generalize es[i]=d at*
     generalize es[j]=d' at*
     obtain⟨d1,d2,d3⟩:=d
     obtain⟨f1,f2,f3⟩:=d'
     simp only at a0 a1 a2 c0 c1 c2
     have hjI:(j:Int)<(es.length:Int):=by omega
     generalize foAt es i j=FA at*
     have hwj:w.heap.size<wj.heap.size:=by omega
     have bA:Below wj.heap.size wj (wj.alloc (Obj.cells #[Value.int IntKind.i64 d1,Value.int IntKind.i64 d2,Value.int IntKind.i64 d3] 92)):=(Below.refl _ _).alloc (Nat.le_refl _) _
     have q2':=(bA.cell (p:=⟨w.heap.size,2,none⟩) hwj).trans q2
     have c0':=(bA.cell (p:=⟨b,off+j*3,none⟩) hbw).trans c0
     have c1':=(bA.cell (p:=⟨b,off+j*3+1,none⟩) hbw).trans c1
     have c2':=(bA.cell (p:=⟨b,off+j*3+2,none⟩) hbw).trans c2
     clear bA
     rcases e1:(d2==f2) with _ | _
     ·have HE:Hid (foAt es i (j+1)=FA):=hDD (by have hne:d2≠f2:=(by simpa using e1);rw[HST.out];simp[fo2,hne])
      go_wp2
      go_roundw
      case rel=>exact⟨j+1,by omega,by omega,by go_num,by rw[HE.out];exact(HO2.out.alloc _).alloc _,((HB2.out.alloc (by omega) _).alloc (by simp;omega) _)⟩
      case measure=>simp[intOf];omega
     have HBW:Hid (Below (w.heap.size+1) W ((wj.alloc (Obj.cells #[Value.int IntKind.i64 d1,Value.int IntKind.i64 d2,Value.int IntKind.i64 d3] 92)).alloc (Obj.cells #[Value.int IntKind.i64 f1,Value.int IntKind.i64 f2,Value.int IntKind.i64 f3] 92))):=hDD ((HB2.out.alloc (by omega) _).alloc (by simp;omega) _)
     rcases e2:(d1==f1) with _ | _
     ·rcases e3:(d3==f3) with _ | _
      ·have HE:Hid (foUp es i++foAt es i (j+1)=foUp es i++FA):=hDD (by have h1:d2=f2:=(by simpa using e1);have h2: ¬d1=f1:=(by simpa using e2);have h3: ¬d3=f3:=(by simpa using e3);rw[HST.out];simp[fo2,h1,h2,h3])
       go_wp2
       go_roundw
       case rel=>exact⟨j+1,by omega,by omega,by go_num,by rw[HE.out];exact(HO2.out.alloc _).alloc _,HBW.out⟩
       case measure=>simp[intOf];omega
      ·have HE:Hid (foUp es i++foAt es i (j+1)=(foUp es i++FA)++ [(min d1 f1,max d1 f1)]):=hDD (by have h1:d2=f2:=(by simpa using e1);have h2: ¬d1=f1:=(by simpa using e2);have h3:d3=f3:=(by simpa using e3);rw[HST.out];simp[fo2,h1,h2,h3])
       go_wp2_with (at_builtin;refine push_fold rfl (.tmp 73) (.tmp 85) rfl (w.heap.size+1) _ _ (((HO2.out.alloc _).alloc _).alloc _) rfl _ (min d1 f1,max d1 f1) rfl (fo_litN _ _ (by simp) _ _ _) (by omega) (by simp<;>omega) ?_;intro v6 w6 o6 g6 p6;have O6:=hDD o6;have B6:Hid (Below (w.heap.size+1) W w6):=hDD ((HBW.out.alloc (by simp<;>omega) (Obj.cells #[Value.int IntKind.i64 (min d1 f1),Value.int IntKind.i64 (max d1 f1)] 123)).grown g6 (by simp<;>omega) (fun k hk=>(HO2.out.lt k hk).1));clear o6 g6 p6)
       go_roundw
       case rel=>exact⟨j+1,by omega,by omega,by go_num,by rw[HE.out];exact O6.out,B6.out⟩
       case measure=>simp[intOf];omega
     ·rcases e3:(d3==f3) with _ | _
      ·have HE:Hid (foUp es i++foAt es i (j+1)=(foUp es i++FA)++ [(min d3 f3,max d3 f3)]):=hDD (by have h1:d2=f2:=(by simpa using e1);have h2:d1=f1:=(by simpa using e2);have h3: ¬d3=f3:=(by simpa using e3);rw[HST.out];simp[fo2,h1,h2,h3])
       go_wp2_with (at_builtin;refine push_fold rfl (.tmp 47) (.tmp 59) rfl (w.heap.size+1) _ _ (((HO2.out.alloc _).alloc _).alloc _) rfl _ (min d3 f3,max d3 f3) rfl (fo_litN _ _ (by simp) _ _ _) (by omega) (by simp<;>omega) ?_;intro v5 w5 o5 g5 p5;have k0:=(grown_cellF g5 (b:=wj.heap.size) (o:=0) (by simp<;>omega) (fun c hc=>by have:=(HO2.out.lt c hc).2;omega)).trans (show(((wj.alloc (Obj.cells #[Value.int IntKind.i64 d1,Value.int IntKind.i64 d2,Value.int IntKind.i64 d3] 92)).alloc (Obj.cells #[Value.int IntKind.i64 f1,Value.int IntKind.i64 f2,Value.int IntKind.i64 f3] 92)).alloc (Obj.cells #[Value.int IntKind.i64 (min d3 f3),Value.int IntKind.i64 (max d3 f3)] 123)).cell? _=some (.int .i64 d1) by simp[go_sem]);have k1:=(grown_cellF g5 (b:=wj.heap.size) (o:=1) (by simp<;>omega) (fun c hc=>by have:=(HO2.out.lt c hc).2;omega)).trans (show(((wj.alloc (Obj.cells #[Value.int IntKind.i64 d1,Value.int IntKind.i64 d2,Value.int IntKind.i64 d3] 92)).alloc (Obj.cells #[Value.int IntKind.i64 f1,Value.int IntKind.i64 f2,Value.int IntKind.i64 f3] 92)).alloc (Obj.cells #[Value.int IntKind.i64 (min d3 f3),Value.int IntKind.i64 (max d3 f3)] 123)).cell? _=some (.int .i64 d2) by simp[go_sem]);have k2:=(grown_cellF g5 (b:=wj.heap.size) (o:=2) (by simp<;>omega) (fun c hc=>by have:=(HO2.out.lt c hc).2;omega)).trans (show(((wj.alloc (Obj.cells #[Value.int IntKind.i64 d1,Value.int IntKind.i64 d2,Value.int IntKind.i64 d3] 92)).alloc (Obj.cells #[Value.int IntKind.i64 f1,Value.int IntKind.i64 f2,Value.int IntKind.i64 f3] 92)).alloc (Obj.cells #[Value.int IntKind.i64 (min d3 f3),Value.int IntKind.i64 (max d3 f3)] 123)).cell? _=some (.int .i64 d3) by simp[go_sem]);have k3:=(grown_cellF g5 (b:=wj.heap.size+1) (o:=0) (by simp<;>omega) (fun c hc=>by have:=(HO2.out.lt c hc).2;omega)).trans (show(((wj.alloc (Obj.cells #[Value.int IntKind.i64 d1,Value.int IntKind.i64 d2,Value.int IntKind.i64 d3] 92)).alloc (Obj.cells #[Value.int IntKind.i64 f1,Value.int IntKind.i64 f2,Value.int IntKind.i64 f3] 92)).alloc (Obj.cells #[Value.int IntKind.i64 (min d3 f3),Value.int IntKind.i64 (max d3 f3)] 123)).cell? _=some (.int .i64 f1) by simp[go_sem]);have k4:=(grown_cellF g5 (b:=wj.heap.size+1) (o:=1) (by simp<;>omega) (fun c hc=>by have:=(HO2.out.lt c hc).2;omega)).trans (show(((wj.alloc (Obj.cells #[Value.int IntKind.i64 d1,Value.int IntKind.i64 d2,Value.int IntKind.i64 d3] 92)).alloc (Obj.cells #[Value.int IntKind.i64 f1,Value.int IntKind.i64 f2,Value.int IntKind.i64 f3] 92)).alloc (Obj.cells #[Value.int IntKind.i64 (min d3 f3),Value.int IntKind.i64 (max d3 f3)] 123)).cell? _=some (.int .i64 f2) by simp[go_sem]);have k5:=(grown_cellF g5 (b:=wj.heap.size+1) (o:=2) (by simp<;>omega) (fun c hc=>by have:=(HO2.out.lt c hc).2;omega)).trans (show(((wj.alloc (Obj.cells #[Value.int IntKind.i64 d1,Value.int IntKind.i64 d2,Value.int IntKind.i64 d3] 92)).alloc (Obj.cells #[Value.int IntKind.i64 f1,Value.int IntKind.i64 f2,Value.int IntKind.i64 f3] 92)).alloc (Obj.cells #[Value.int IntKind.i64 (min d3 f3),Value.int IntKind.i64 (max d3 f3)] 123)).cell? _=some (.int .i64 f3) by simp[go_sem]);have O5:=hDD o5;have B5:Hid (Below (w.heap.size+1) W w5):=hDD ((HBW.out.alloc (by simp<;>omega) (Obj.cells #[Value.int IntKind.i64 (min d3 f3),Value.int IntKind.i64 (max d3 f3)] 123)).grown g5 (by simp<;>omega) (fun k hk=>(HO2.out.lt k hk).1));have hz5:=B5.out.size;clear o5 g5 p5)
       go_roundw
       case rel=>exact⟨j+1,by omega,by omega,by go_num,by rw[HE.out];exact O5.out,B5.out⟩
       case measure=>simp[intOf];omega
      ·have HE:Hid (foUp es i++foAt es i (j+1)=((foUp es i++FA)++ [(min d3 f3,max d3 f3)])++ [(min d1 f1,max d1 f1)]):=hDD (by have h1:d2=f2:=(by simpa using e1);have h2:d1=f1:=(by simpa using e2);have h3:d3=f3:=(by simpa using e3);rw[HST.out];simp[fo2,h1,h2,h3])
       go_wp2_with (first | (at_builtin;refine push_fold rfl (.tmp 47) (.tmp 59) rfl (w.heap.size+1) _ _ (((HO2.out.alloc _).alloc _).alloc _) rfl _ (min d3 f3,max d3 f3) rfl (fo_litN _ _ (by simp) _ _ _) (by omega) (by simp<;>omega) ?_;intro v5 w5 o5 g5 p5;have k0:=(grown_cellF g5 (b:=wj.heap.size) (o:=0) (by simp<;>omega) (fun c hc=>by have:=(HO2.out.lt c hc).2;omega)).trans (show(((wj.alloc (Obj.cells #[Value.int IntKind.i64 d1,Value.int IntKind.i64 d2,Value.int IntKind.i64 d3] 92)).alloc (Obj.cells #[Value.int IntKind.i64 f1,Value.int IntKind.i64 f2,Value.int IntKind.i64 f3] 92)).alloc (Obj.cells #[Value.int IntKind.i64 (min d3 f3),Value.int IntKind.i64 (max d3 f3)] 123)).cell? _=some (.int .i64 d1) by simp[go_sem]);have k1:=(grown_cellF g5 (b:=wj.heap.size) (o:=1) (by simp<;>omega) (fun c hc=>by have:=(HO2.out.lt c hc).2;omega)).trans (show(((wj.alloc (Obj.cells #[Value.int IntKind.i64 d1,Value.int IntKind.i64 d2,Value.int IntKind.i64 d3] 92)).alloc (Obj.cells #[Value.int IntKind.i64 f1,Value.int IntKind.i64 f2,Value.int IntKind.i64 f3] 92)).alloc (Obj.cells #[Value.int IntKind.i64 (min d3 f3),Value.int IntKind.i64 (max d3 f3)] 123)).cell? _=some (.int .i64 d2) by simp[go_sem]);have k2:=(grown_cellF g5 (b:=wj.heap.size) (o:=2) (by simp<;>omega) (fun c hc=>by have:=(HO2.out.lt c hc).2;omega)).trans (show(((wj.alloc (Obj.cells #[Value.int IntKind.i64 d1,Value.int IntKind.i64 d2,Value.int IntKind.i64 d3] 92)).alloc (Obj.cells #[Value.int IntKind.i64 f1,Value.int IntKind.i64 f2,Value.int IntKind.i64 f3] 92)).alloc (Obj.cells #[Value.int IntKind.i64 (min d3 f3),Value.int IntKind.i64 (max d3 f3)] 123)).cell? _=some (.int .i64 d3) by simp[go_sem]);have k3:=(grown_cellF g5 (b:=wj.heap.size+1) (o:=0) (by simp<;>omega) (fun c hc=>by have:=(HO2.out.lt c hc).2;omega)).trans (show(((wj.alloc (Obj.cells #[Value.int IntKind.i64 d1,Value.int IntKind.i64 d2,Value.int IntKind.i64 d3] 92)).alloc (Obj.cells #[Value.int IntKind.i64 f1,Value.int IntKind.i64 f2,Value.int IntKind.i64 f3] 92)).alloc (Obj.cells #[Value.int IntKind.i64 (min d3 f3),Value.int IntKind.i64 (max d3 f3)] 123)).cell? _=some (.int .i64 f1) by simp[go_sem]);have k4:=(grown_cellF g5 (b:=wj.heap.size+1) (o:=1) (by simp<;>omega) (fun c hc=>by have:=(HO2.out.lt c hc).2;omega)).trans (show(((wj.alloc (Obj.cells #[Value.int IntKind.i64 d1,Value.int IntKind.i64 d2,Value.int IntKind.i64 d3] 92)).alloc (Obj.cells #[Value.int IntKind.i64 f1,Value.int IntKind.i64 f2,Value.int IntKind.i64 f3] 92)).alloc (Obj.cells #[Value.int IntKind.i64 (min d3 f3),Value.int IntKind.i64 (max d3 f3)] 123)).cell? _=some (.int .i64 f2) by simp[go_sem]);have k5:=(grown_cellF g5 (b:=wj.heap.size+1) (o:=2) (by simp<;>omega) (fun c hc=>by have:=(HO2.out.lt c hc).2;omega)).trans (show(((wj.alloc (Obj.cells #[Value.int IntKind.i64 d1,Value.int IntKind.i64 d2,Value.int IntKind.i64 d3] 92)).alloc (Obj.cells #[Value.int IntKind.i64 f1,Value.int IntKind.i64 f2,Value.int IntKind.i64 f3] 92)).alloc (Obj.cells #[Value.int IntKind.i64 (min d3 f3),Value.int IntKind.i64 (max d3 f3)] 123)).cell? _=some (.int .i64 f3) by simp[go_sem]);have O5:=hDD o5;have B5:Hid (Below (w.heap.size+1) W w5):=hDD ((HBW.out.alloc (by simp<;>omega) (Obj.cells #[Value.int IntKind.i64 (min d3 f3),Value.int IntKind.i64 (max d3 f3)] 123)).grown g5 (by simp<;>omega) (fun k hk=>(HO2.out.lt k hk).1));have hz5:=B5.out.size;clear o5 g5 p5) | (at_builtin;refine push_fold rfl (.tmp 73) (.tmp 85) rfl (w.heap.size+1) _ _ (O5.out.alloc _) rfl _ (min d1 f1,max d1 f1) rfl (fo_litN _ _ (by simp) _ _ _) (by rw[List.length_append];simp only[List.length_singleton];omega) (by simp<;>omega) ?_;intro v6 w6 o6 g6 p6;have O6:=hDD o6;have B6:Hid (Below (w.heap.size+1) W w6):=hDD ((B5.out.alloc (by omega) (Obj.cells #[Value.int IntKind.i64 (min d1 f1),Value.int IntKind.i64 (max d1 f1)] 123)).grown g6 (by simp<;>omega) (fun k hk=>(O5.out.lt k hk).1));clear o6 g6 p6))
       go_roundw
       case rel=>exact⟨j+1,by omega,by omega,by go_num,by rw[HE.out];exact O6.out,B6.out⟩
       case measure=>simp[intOf];omega
    ·obtain rfl:j=es.length:=by omega
     go_wp2
     go_roundw
     case rel=>exact⟨i+1,by omega,by go_num,by rw[HFU.out];exact HO2.out,HB2.out⟩
     case measure=>simp[intOf];omega
  ·obtain rfl:i=es.length:=by omega
   obtain⟨Ao,co,hov,_⟩:=HO.out.form
   subst hov
   have HOF:=hDD (HO.out.mono (show w.heap.size≤w.heap.size+1 by omega))
   have HBF:Hid (Below w.heap.size w wi):=hDD (BX.out.trans (HB.out.mono (by omega)))
   go_wp2
   go_ret
   exact⟨_,rfl,HOF.out,HBF.out⟩
theorem cells2 {W:World} {b:Nat} {u0 u1:Value} (x y:Value) (h0:W.cell? ⟨b,0,none⟩=some u0) (h1:W.cell? ⟨b,1,none⟩=some u1):
  ((W.setCell ⟨b,0,none⟩ x).setCell ⟨b,1,none⟩ y).cell? ⟨b,0,none⟩=some x∧((W.setCell ⟨b,0,none⟩ x).setCell ⟨b,1,none⟩ y).cell? ⟨b,1,none⟩=some y:=
 ⟨by rw[World.cell?_setCell_other _ _ _ _ (by simp),World.cell?_setCell_same _ _ _ h0],World.cell?_setCell_same _ _ _ ((World.cell?_setCell_other _ _ _ _ (by simp)).trans h1)⟩
def firF (g:GrD):FoD×Bool:=if grB g=true then(match foL g.2.2 with | []=>((0,0),false) | f::_=>(f,true)) else((0,0),false)
theorem OwFo.head {w:World} {base g n cap:Nat} {f:FoD} {l:List FoD} (h:OwFo w base (.slice (some ⟨g,0,none⟩) n cap) (f::l)):w.cell? ⟨g,0,none⟩=some (.int .i64 f.1)∧w.cell? ⟨g,1,none⟩=some (.int .i64 f.2):=by
 obtain rfl:n=(f::l).length:=by
  obtain⟨_,_,hv,_⟩:=OwFo.form h
  injection hv
 have h':w.ownsRow base 123 2 (.slice (some ⟨g,0,none⟩) (f::l).length cap) (f::l).length (foCs (f::l)):=h
 have e0:=World.ownsRow.cellAt h' 0 (by simp<;>omega)
 have e1:=World.ownsRow.cellAt h' 1 (by simp<;>omega)
 exact⟨by rw[e0];rfl,by rw[e1];rfl⟩
set_option maxHeartbeats 1000000 in
theorem specFirstFold_any (v:Value) (g:GrD) (w:World) (h:ArgG w v g):
  Calls Tryz.prog 162 #[v] w fun e w'=>e= .returned (.tuple #[.agg #[.int .i64 (firF g).1.1, .int .i64 (firF g).1.2], .bool (firF g).2])∧Below w.heap.size w w':=by
 have HG:=hDD h
 obtain⟨s,rfl,hi1,hi2,ha⟩:=h
 obtain⟨A,cap,rfl⟩:=ha.form
 obtain⟨g1,N,es⟩:=g
 simp only at*
 clear ha
 go_enter Tryz.func162,Tryz.ntmps162
 have bx:Below w.heap.size w ((w.alloc (Obj.cells #[Value.int IntKind.i64 g1,Value.int IntKind.i64 N, .slice A es.length cap] 26)).alloc (Obj.cells #[Value.int IntKind.i64 0,Value.int IntKind.i64 0] 123)):=(by repeat(first | exact Below.refl _ _ | (refine Below.setCell ?_ (by first | omega | (simp<;>omega)) _) | (refine bel_drewN ?_ _) | (refine Below.drew ?_) | (refine Below.alloc ?_ (by first | omega | (simp<;>omega)) _)))
 go_wp2_with fail
 obtain⟨W,hW⟩: ∃W,W=(w.alloc (Obj.cells #[Value.int IntKind.i64 g1,Value.int IntKind.i64 N, .slice A es.length cap] 26)).alloc (Obj.cells #[Value.int IntKind.i64 0,Value.int IntKind.i64 0] 123):=⟨_,rfl⟩
 rw[←hW] at bx⊢
 have hsW:W.heap.size=w.heap.size+2:=by rw[hW];simp
 have L0:Hid (W.cell? ⟨w.heap.size,0,none⟩=some (.int .i64 g1)):=hDD (by rw[hW];simp[go_sem])
 have L1:Hid (W.cell? ⟨w.heap.size,1,none⟩=some (.int .i64 N)):=hDD (by rw[hW];simp[go_sem])
 have L2:Hid (W.cell? ⟨w.heap.size,2,none⟩=some (.slice A es.length cap)):=hDD (by rw[hW];simp[go_sem])
 have R0:Hid (W.cell? ⟨w.heap.size+1,0,none⟩=some (.int .i64 0)):=hDD (by rw[hW];simp[go_sem])
 have R1:Hid (W.cell? ⟨w.heap.size+1,1,none⟩=some (.int .i64 0)):=hDD (by rw[hW];simp[go_sem])
 have RF:Hid (∀j,W.frozen? ⟨w.heap.size+1,j,none⟩=false):=hDD fun j=>by rw[hW];simp[go_sem]
 have BX:=hDD bx
 have HA:Hid (∀w',Below W.heap.size W w'→ArgG w' (.agg #[.int .i64 g1, .int .i64 N, .slice A es.length cap]) (g1,N,es)):=hDD fun w' hb=>HG.out.below (BX.out.trans (hb.mono BX.out.size))
 clear hW bx
 refine(specIsGraph_any _ (g1,N,es) W (HA.out _ (Below.refl _ _))).mono ?_
 rintro e w1 ⟨rfl,b1⟩
 have B1:=hDD b1
 have hs1:=b1.size
 have q0:=(b1.cell (p:=⟨w.heap.size,0,none⟩) (by show w.heap.size<_;omega)).trans L0.out
 have q1:=(b1.cell (p:=⟨w.heap.size,1,none⟩) (by show w.heap.size<_;omega)).trans L1.out
 have q2:=(b1.cell (p:=⟨w.heap.size,2,none⟩) (by show w.heap.size<_;omega)).trans L2.out
 have r0:=(b1.cell (p:=⟨w.heap.size+1,0,none⟩) (by show w.heap.size+1<_;omega)).trans R0.out
 have r1:=(b1.cell (p:=⟨w.heap.size+1,1,none⟩) (by show w.heap.size+1<_;omega)).trans R1.out
 have f0:=(b1.frozen (p:=⟨w.heap.size+1,0,none⟩) (by show w.heap.size+1<_;omega)).trans (RF.out 0)
 have f1:=(b1.frozen (p:=⟨w.heap.size+1,1,none⟩) (by show w.heap.size+1<_;omega)).trans (RF.out 1)
 clear b1
 rcases eg:grB (g1,N,es) with _ | _
 ·have F:Hid (firF (g1,N,es)=((0,0),false)):=hDD (by unfold firF;rw[eg];rfl)
  clear eg
  go_wp2
  obtain⟨c0,c1⟩:=cells2 (.int .i64 0) (.int .i64 0) r0 r1
  rw[F.out]
  have HB:Hid (Below w.heap.size w ((w1.setCell ⟨w.heap.size+1,0,none⟩ (.int .i64 0)).setCell ⟨w.heap.size+1,1,none⟩ (.int .i64 0))):=hDD (((BX.out.trans (B1.out.mono BX.out.size)).setCell (by simp) _).setCell (by simp) _)
  exact bodyPost_ret (v:= .tuple #[.agg #[.int .i64 0, .int .i64 0], .bool false]) (by simp[results,Tryz.results162,go_sem,c0,c1]) rfl ⟨rfl,HB.out⟩
 have HGR:=hDD eg
 have h120:=(grB_parts eg).2.2.1
 simp only at h120
 go_wp2_with fail
 refine(l7Folds_any _ (g1,N,es) w1 (HA.out _ B1.out) h120).mono ?_
 rintro e w2 ⟨r,rfl,o2,b2⟩
 have O2:=hDD o2
 have B2:=hDD (B1.out.trans (b2.mono hs1))
 have hs2:=b2.size
 have k0:=(b2.cell (p:=⟨w.heap.size+1,0,none⟩) (by show w.heap.size+1<_;omega)).trans r0
 have k1:=(b2.cell (p:=⟨w.heap.size+1,1,none⟩) (by show w.heap.size+1<_;omega)).trans r1
 have j0:=(b2.frozen (p:=⟨w.heap.size+1,0,none⟩) (by show w.heap.size+1<_;omega)).trans f0
 have j1:=(b2.frozen (p:=⟨w.heap.size+1,1,none⟩) (by show w.heap.size+1<_;omega)).trans f1
 obtain⟨A2,c2,rfl,h2,_,_,hg2⟩:=o2.form
 clear o2 b2 q0 q1 q2 r0 r1 f0 f1
 rcases ef:foL es with _ | ⟨f,l⟩
 ·have F:Hid (firF (g1,N,es)=((0,0),false)):=hDD (by unfold firF;rw[if_pos HGR.out];simp only[ef])
  simp only[ef,List.length_nil] at*
  go_wp2
  obtain⟨c0,c1⟩:=cells2 (.int .i64 0) (.int .i64 0) k0 k1
  rw[F.out]
  have HB:Hid (Below w.heap.size w ((w2.setCell ⟨w.heap.size+1,0,none⟩ (.int .i64 0)).setCell ⟨w.heap.size+1,1,none⟩ (.int .i64 0))):=hDD (((BX.out.trans (B2.out.mono BX.out.size)).setCell (by simp) _).setCell (by simp) _)
  exact bodyPost_ret (v:= .tuple #[.agg #[.int .i64 0, .int .i64 0], .bool false]) (by simp[results,Tryz.results162,go_sem,c0,c1]) rfl ⟨rfl,HB.out⟩
 ·have F:Hid (firF (g1,N,es)=(f,true)):=hDD (by unfold firF;rw[if_pos HGR.out];simp only[ef])
  obtain⟨g',rfl,_,_⟩:=hg2 (by simp only[ef];simp)
  have O3:=O2.out
  simp only[ef] at O3
  obtain⟨p0,p1⟩:=O3.head
  have hne: ¬((foL es).length:Int)=0:=by rw[ef];simp;omega
  have hpos:(0:Int)<((foL es).length:Int):=by omega
  have HEF:=hDD ef
  obtain⟨fa,fb⟩:=f
  simp only at p0 p1
  clear ef O3
  generalize (foL es).length=nn at*
  go_wp2
  obtain⟨c0,c1⟩:=cells2 (.int .i64 fa) (.int .i64 fb) k0 k1
  rw[F.out]
  have HB:Hid (Below w.heap.size w ((w2.setCell ⟨w.heap.size+1,0,none⟩ (.int .i64 fa)).setCell ⟨w.heap.size+1,1,none⟩ (.int .i64 fb))):=hDD (((BX.out.trans (B2.out.mono BX.out.size)).setCell (by simp) _).setCell (by simp) _)
  exact bodyPost_ret (v:= .tuple #[.agg #[.int .i64 fa, .int .i64 fb], .bool true]) (by simp[results,Tryz.results162,go_sem,c0,c1]) rfl ⟨rfl,HB.out⟩
theorem gbox {w W:World} {a b c:Value} {t:TypeId} (hW:W=w.alloc (.cells #[a,b,c] t)):W.heap.size=w.heap.size+1∧Below w.heap.size w W∧
  (∀w',Below (w.heap.size+1) W w'→w'.cell? ⟨w.heap.size,0,none⟩=some a∧w'.cell? ⟨w.heap.size,1,none⟩=some b∧w'.cell? ⟨w.heap.size,2,none⟩=some c)∧ ∀j w',Below (w.heap.size+1) W w'→w'.frozen? ⟨w.heap.size,j,none⟩=false:=by
 have hs:W.heap.size=w.heap.size+1:=by rw[hW];simp
 have h0:W.cell? ⟨w.heap.size,0,none⟩=some a:=by rw[hW];simp[go_sem]
 have h1:W.cell? ⟨w.heap.size,1,none⟩=some b:=by rw[hW];simp[go_sem]
 have h2:W.cell? ⟨w.heap.size,2,none⟩=some c:=by rw[hW];simp[go_sem]
 refine⟨hs,by rw[hW];exact(Below.refl _ _).alloc (Nat.le_refl _) _,fun w' hb=>⟨(hb.cell (p:=⟨w.heap.size,0,none⟩) (Nat.lt_succ_self _)).trans h0,(hb.cell (p:=⟨w.heap.size,1,none⟩) (Nat.lt_succ_self _)).trans h1,(hb.cell (p:=⟨w.heap.size,2,none⟩) (Nat.lt_succ_self _)).trans h2⟩,fun j w' hb=>(hb.frozen (p:=⟨w.heap.size,j,none⟩) (Nat.lt_succ_self _)).trans ?_⟩
 rw[hW];simp[go_sem]
theorem cells3F {W:World} {b:Nat} {u0 u1 u2:Value} (x y z:Value) (h0:W.cell? ⟨b,0,none⟩=some u0) (h1:W.cell? ⟨b,1,none⟩=some u1) (h2:W.cell? ⟨b,2,none⟩=some u2):
  (((W.setCell ⟨b,0,none⟩ x).setCell ⟨b,1,none⟩ y).setCell ⟨b,2,none⟩ z).cell? ⟨b,0,none⟩=some x∧(((W.setCell ⟨b,0,none⟩ x).setCell ⟨b,1,none⟩ y).setCell ⟨b,2,none⟩ z).cell? ⟨b,1,none⟩=some y∧(((W.setCell ⟨b,0,none⟩ x).setCell ⟨b,1,none⟩ y).setCell ⟨b,2,none⟩ z).cell? ⟨b,2,none⟩=some z:=
 ⟨by rw[World.cell?_setCell_other _ _ _ _ (by simp),World.cell?_setCell_other _ _ _ _ (by simp),World.cell?_setCell_same _ _ _ h0],
  by rw[World.cell?_setCell_other _ _ _ _ (by simp)];exact World.cell?_setCell_same _ _ _ ((World.cell?_setCell_other _ _ _ _ (by simp)).trans h1),
  World.cell?_setCell_same _ _ _ ((World.cell?_setCell_other _ _ _ _ (by simp)).trans ((World.cell?_setCell_other _ _ _ _ (by simp)).trans h2))⟩
theorem mer_succ (es:List EdD) (f:FoD) (k:Nat) (h:k<es.length):srt cmpE ((es.take (k+1)).map (plE f))=insF cmpE (srt cmpE ((es.take k).map (plE f))) (plE f es[k]):=by
 rw[List.take_succ_eq_append_getElem h,List.map_append]
 unfold srt
 rw[List.foldl_append]
 rfl
theorem mer_len (es:List EdD) (f:FoD) (k:Nat):(srt cmpE ((es.take k).map (plE f))).length≤es.length:=by
 have:=srt_len (c:=cmpE) ((es.take k).map (plE f))
 rw[List.length_map,List.length_take] at this
 omega
theorem l7New_any (v:Int) (f:FoD) (w:World) (hv:0≤v∧v≤1000) (hf:0≤f.1∧f.1<f.2∧f.2≤1000):
  Calls Tryz.prog 181 #[.int .i64 v, .agg #[.int .i64 f.1, .int .i64 f.2]] w fun e w'=>e= .returned (.int .i64 (plF f v))∧Below w.heap.size w w':=by
 obtain⟨a,b⟩:=f
 simp only at hf⊢
 have hw:IntKind.i64.wrap (v-1)=v-1:=by rw[IntKind.wrap_i64];omega
 rcases e1:(v==b) with _ | _
 ·have h1: ¬v=b:=by simpa using e1
  rcases e2:decide (b<v) with _ | _
  ·have h2: ¬b<v:=by simpa using e2
   go_enter Tryz.func181,Tryz.ntmps181
   go_wp2
   go_ret
   exact⟨ret_int (by unfold plF;rw[if_neg h1,if_neg (show ¬b<v by omega)]),(by repeat(first | exact Below.refl _ _ | (refine Below.setCell ?_ (by first | omega | (simp<;>omega)) _) | (refine bel_drewN ?_ _) | (refine Below.drew ?_) | (refine Below.alloc ?_ (by first | omega | (simp<;>omega)) _)))⟩
  ·have h2:b<v:=by simpa using e2
   go_enter Tryz.func181,Tryz.ntmps181
   go_wp2
   go_ret
   exact⟨by simp[plF,h1,h2],(by repeat(first | exact Below.refl _ _ | (refine Below.setCell ?_ (by first | omega | (simp<;>omega)) _) | (refine bel_drewN ?_ _) | (refine Below.drew ?_) | (refine Below.alloc ?_ (by first | omega | (simp<;>omega)) _)))⟩
 ·have h1:v=b:=by simpa using e1
  have e2:decide (b<a)=false:=by simp;omega
  go_enter Tryz.func181,Tryz.ntmps181
  go_wp2
  go_ret
  exact⟨by simp[plF,h1],(by repeat(first | exact Below.refl _ _ | (refine Below.setCell ?_ (by first | omega | (simp<;>omega)) _) | (refine bel_drewN ?_ _) | (refine Below.drew ?_) | (refine Below.alloc ?_ (by first | omega | (simp<;>omega)) _)))⟩
set_option maxHeartbeats 1000000 in
theorem specMergeVertices_any (v:Value) (g:GrD) (f:FoD) (w:World) (h:ArgG w v g) (hg:grB g=true) (hf:0≤f.1∧f.1<f.2∧f.2<g.2.1):
  Calls Tryz.prog 163 #[v, .agg #[.int .i64 f.1, .int .i64 f.2]] w fun e w'=> ∃r,e= .returned (.tuple #[r, .bool true])∧OwG w' w.heap.size r (merG g f)∧Below w.heap.size w w':=by
 have HG:=hDD h
 have HGR:=hDD hg
 obtain⟨h13,h40,h120,_⟩:=grB_parts hg
 have HED:=hDD fun e (he:e∈g.2.2)=>edge_of_gr hg he
 obtain⟨s,rfl,hi1,hi2,ha⟩:=h
 obtain⟨A,cap,rfl⟩:=ha.form
 obtain⟨g1,N,es⟩:=g
 obtain⟨fa,fb⟩:=f
 simp only at*
 have HAE:=hDD ha
 clear ha hg
 have hN1:IntKind.i64.wrap (N-1)=N-1:=by rw[IntKind.wrap_i64];omega
 have hc1:decide (fa<0)=false:=by simp;omega
 have hc2:decide (fb≤fa)=false:=by simp;omega
 have hc3:decide (N≤fb)=false:=by simp;omega
 go_enter Tryz.func163,Tryz.ntmps163
 have bx:Below w.heap.size w (((w.alloc (Obj.cells #[Value.int IntKind.i64 g1,Value.int IntKind.i64 N, .slice A es.length cap] 26)).alloc (Obj.cells #[Value.int IntKind.i64 fa,Value.int IntKind.i64 fb] 123)).alloc (Obj.cells #[Value.int IntKind.i64 0,Value.int IntKind.i64 0, .slice none 0 0] 26)):=(by repeat(first | exact Below.refl _ _ | (refine Below.setCell ?_ (by first | omega | (simp<;>omega)) _) | (refine bel_drewN ?_ _) | (refine Below.drew ?_) | (refine Below.alloc ?_ (by first | omega | (simp<;>omega)) _)))
 go_wp2_with fail
 obtain⟨W,hW⟩: ∃W,W=(((w.alloc (Obj.cells #[Value.int IntKind.i64 g1,Value.int IntKind.i64 N, .slice A es.length cap] 26)).alloc (Obj.cells #[Value.int IntKind.i64 fa,Value.int IntKind.i64 fb] 123)).alloc (Obj.cells #[Value.int IntKind.i64 0,Value.int IntKind.i64 0, .slice none 0 0] 26)):=⟨_,rfl⟩
 rw[←hW] at bx⊢
 have hsW:W.heap.size=w.heap.size+3:=by rw[hW];simp
 have L0:Hid (W.cell? ⟨w.heap.size,0,none⟩=some (.int .i64 g1)):=hDD (by rw[hW];simp[go_sem])
 have L1:Hid (W.cell? ⟨w.heap.size,1,none⟩=some (.int .i64 N)):=hDD (by rw[hW];simp[go_sem])
 have L2:Hid (W.cell? ⟨w.heap.size,2,none⟩=some (.slice A es.length cap)):=hDD (by rw[hW];simp[go_sem])
 have M0:Hid (W.cell? ⟨w.heap.size+1,0,none⟩=some (.int .i64 fa)):=hDD (by rw[hW];simp[go_sem])
 have M1:Hid (W.cell? ⟨w.heap.size+1,1,none⟩=some (.int .i64 fb)):=hDD (by rw[hW];simp[go_sem])
 have R0:Hid (W.cell? ⟨w.heap.size+1+1,0,none⟩=some (.int .i64 0)):=hDD (by rw[hW];simp[go_sem])
 have R1:Hid (W.cell? ⟨w.heap.size+1+1,1,none⟩=some (.int .i64 0)):=hDD (by rw[hW];simp[go_sem])
 have R2:Hid (W.cell? ⟨w.heap.size+1+1,2,none⟩=some (.slice none 0 0)):=hDD (by rw[hW];simp[go_sem])
 have RF:Hid (∀j,W.frozen? ⟨w.heap.size+1+1,j,none⟩=false):=hDD fun j=>by rw[hW];simp[go_sem]
 have BX:=hDD bx
 have HA:Hid (∀w',Below W.heap.size W w'→ArgG w' (.agg #[.int .i64 g1, .int .i64 N, .slice A es.length cap]) (g1,N,es)):=hDD fun w' hb=>HG.out.below (BX.out.trans (hb.mono BX.out.size))
 have HA2:Hid (∀w',Below W.heap.size W w'→ArgE w' (.slice A es.length cap) es):=hDD fun w' hb=>HAE.out.below (BX.out.trans (hb.mono BX.out.size))
 clear hW bx
 have hgi:=specIsGraph_any _ (g1,N,es) W (HA.out _ (Below.refl _ _))
 rw[HGR.out] at hgi
 refine hgi.mono ?_
 rintro e w1 ⟨rfl,b1⟩
 have B1:=hDD b1
 have hs1:=b1.size
 clear b1 hgi
 have HCEL:Hid (∀wr,Below w1.heap.size w1 wr→wr.cell? ⟨w.heap.size,0,none⟩=some (.int .i64 g1)∧wr.cell? ⟨w.heap.size,1,none⟩=some (.int .i64 N)∧wr.cell? ⟨w.heap.size,2,none⟩=some (.slice A es.length cap)∧wr.cell? ⟨w.heap.size+1,0,none⟩=some (.int .i64 fa)∧wr.cell? ⟨w.heap.size+1,1,none⟩=some (.int .i64 fb)):=hDD fun wr hb=>by
  have hb2:Below W.heap.size W wr:=B1.out.trans (hb.mono hs1)
  exact⟨(hb2.cell (p:=⟨w.heap.size,0,none⟩) (by show w.heap.size<_;omega)).trans L0.out,(hb2.cell (p:=⟨w.heap.size,1,none⟩) (by show w.heap.size<_;omega)).trans L1.out,(hb2.cell (p:=⟨w.heap.size,2,none⟩) (by show w.heap.size<_;omega)).trans L2.out,(hb2.cell (p:=⟨w.heap.size+1,0,none⟩) (by show w.heap.size+1<_;omega)).trans M0.out,(hb2.cell (p:=⟨w.heap.size+1,1,none⟩) (by show w.heap.size+1<_;omega)).trans M1.out⟩
 obtain⟨q0,q1,q2,q3,q4⟩:=HCEL.out w1 (Below.refl _ _)
 have bX:Below w1.heap.size w1 (w1.alloc (Obj.cells #[Value.int IntKind.i64 g1,Value.int IntKind.i64 (N-1), .slice none 0 0] 26)):=(Below.refl _ _).alloc (Nat.le_refl _) _
 have BXX:=hDD bX
 have X0:Hid ((w1.alloc (Obj.cells #[Value.int IntKind.i64 g1,Value.int IntKind.i64 (N-1), .slice none 0 0] 26)).cell? ⟨w1.heap.size,0,none⟩=some (.int .i64 g1)):=hDD (by simp[go_sem])
 have X1:Hid ((w1.alloc (Obj.cells #[Value.int IntKind.i64 g1,Value.int IntKind.i64 (N-1), .slice none 0 0] 26)).cell? ⟨w1.heap.size,1,none⟩=some (.int .i64 (N-1))):=hDD (by simp[go_sem])
 have X2:Hid ((w1.alloc (Obj.cells #[Value.int IntKind.i64 g1,Value.int IntKind.i64 (N-1), .slice none 0 0] 26)).cell? ⟨w1.heap.size,2,none⟩=some (.slice none 0 0)):=hDD (by simp[go_sem])
 have XF:Hid (∀j,(w1.alloc (Obj.cells #[Value.int IntKind.i64 g1,Value.int IntKind.i64 (N-1), .slice none 0 0] 26)).frozen? ⟨w1.heap.size,j,none⟩=false):=hDD fun j=>by simp[go_sem]
 clear bX
 go_wp2
 obtain⟨w5,hw5⟩: ∃W,W=w1.alloc (Obj.cells #[Value.int IntKind.i64 g1,Value.int IntKind.i64 (N-1), .slice none 0 0] 26):=⟨_,rfl⟩
 have hs5:w5.heap.size=w1.heap.size+1:=by rw[hw5];simp
 rw[←hw5] at BXX X0 X1 X2 XF⊢
 clear hw5 q0 q1 q2 q3 q4
 go_loopw [7] (fun i wr=> ∃(k:Nat) (A2:Option Addr) (cap2:Nat),k≤es.length∧i= .int .i64 k∧wr.cell? ⟨w1.heap.size,2,none⟩=some (.slice A2 (srt cmpE ((es.take k).map (plE (fa,fb)))).length cap2)∧OwE wr (w1.heap.size+1) (.slice A2 (srt cmpE ((es.take k).map (plE (fa,fb)))).length cap2) (srt cmpE ((es.take k).map (plE (fa,fb))))∧Below w1.heap.size w1 wr∧
   wr.cell? ⟨w1.heap.size,0,none⟩=some (.int .i64 g1)∧wr.cell? ⟨w1.heap.size,1,none⟩=some (.int .i64 (N-1))∧(∀j,wr.frozen? ⟨w1.heap.size,j,none⟩=false)∧w1.heap.size<wr.heap.size) (fun i _=>es.length-(intOf i).toNat)
 case atStart=>exact⟨0,none,0,Nat.zero_le _,rfl,X2.out,OwE.nil,BXX.out,X0.out,X1.out,XF.out,by omega⟩
 case round=>
  obtain⟨k,A2,cap2,hk,rfl,hx2,how2,hbr,hx0,hx1,hxf,hxr⟩:=hrel
  have HX0:=hDD hx0
  have HX1:=hDD hx1
  have HX2:=hDD hx2
  have HXF:=hDD hxf
  have HOW2:=hDD how2
  have HBR:=hDD hbr
  have B4:=hDD (B1.out.trans (hbr.mono hs1))
  clear hx0 hx1 hx2 hxf how2 hbr
  obtain⟨q0,q1,q2,q3,q4⟩:=HCEL.out wr HBR.out
  by_cases hlt:k<es.length
  ·obtain⟨b,off,rfl,hbw,a0,a1,a2,he64⟩:=(HA2.out wr B4.out).at hlt
   have HST:=hDD (mer_succ es (fa,fb) k hlt)
   have hml:=mer_len es (fa,fb) k
   have hed:=HED.out es[k] (List.getElem_mem hlt)
   have HE64:=hDD he64
   have hkI:(k:Int)<(es.length:Int):=by omega
   generalize es[k]=d at*
   obtain⟨a,l,c⟩:=d
   simp only at a0 a1 a2 hed
   generalize srt cmpE ((es.take k).map (plE (fa,fb)))=L at*
   have bA:Below wr.heap.size wr (wr.alloc (Obj.cells #[Value.int IntKind.i64 a,Value.int IntKind.i64 l,Value.int IntKind.i64 c] 92)):=(Below.refl _ _).alloc (Nat.le_refl _) _
   have HPE:Hid (plE (fa,fb) (a,l,c)=(plF (fa,fb) a,l,plF (fa,fb) c)):=hDD rfl
   have HP1:=hDD (plF_range (f:=(fa,fb)) (n:=N) (v:=a) hf hed.1)
   have HP2:=hDD (plF_range (f:=(fa,fb)) (n:=N) (v:=c) hf hed.2.2)
   have HN:Hid (∀x:Int,0≤x∧x≤1000→ ∀W':World,Calls Tryz.prog 181 #[.int .i64 x, .agg #[.int .i64 fa, .int .i64 fb]] W' fun e w'=>e= .returned (.int .i64 (plF (fa,fb) x))∧Below W'.heap.size W' w'):=hDD fun x hx W'=>l7New_any x (fa,fb) W' hx ⟨hf.1,hf.2.1,by simp only;omega⟩
   have hda:0≤a∧a≤1000:=by omega
   have hdc:0≤c∧c≤1000:=by omega
   clear he64
   go_wp2_with fail
   have sA:wr.heap.size<(wr.alloc (Obj.cells #[Value.int IntKind.i64 a,Value.int IntKind.i64 l,Value.int IntKind.i64 c] 92)).heap.size:=by simp
   have l0:(wr.alloc (Obj.cells #[Value.int IntKind.i64 a,Value.int IntKind.i64 l,Value.int IntKind.i64 c] 92)).cell? ⟨wr.heap.size,0,none⟩=some (.int .i64 a):=by simp[go_sem]
   have l1:(wr.alloc (Obj.cells #[Value.int IntKind.i64 a,Value.int IntKind.i64 l,Value.int IntKind.i64 c] 92)).cell? ⟨wr.heap.size,1,none⟩=some (.int .i64 l):=by simp[go_sem]
   have l2:(wr.alloc (Obj.cells #[Value.int IntKind.i64 a,Value.int IntKind.i64 l,Value.int IntKind.i64 c] 92)).cell? ⟨wr.heap.size,2,none⟩=some (.int .i64 c):=by simp[go_sem]
   generalize wr.alloc (Obj.cells #[Value.int IntKind.i64 a,Value.int IntKind.i64 l,Value.int IntKind.i64 c] 92)=W9 at bA sA l0 l1 l2⊢
   have lx:=(bA.cell (p:=⟨w1.heap.size,2,none⟩) hxr).trans HX2.out
   have la:=(bA.cell (p:=⟨w.heap.size+1,0,none⟩) (by show w.heap.size+1<_;omega)).trans q3
   have lb:=(bA.cell (p:=⟨w.heap.size+1,1,none⟩) (by show w.heap.size+1<_;omega)).trans q4
   have LX0:=hDD ((bA.cell (p:=⟨w1.heap.size,0,none⟩) hxr).trans HX0.out)
   have LX1:=hDD ((bA.cell (p:=⟨w1.heap.size,1,none⟩) hxr).trans HX1.out)
   have LXF:Hid (∀j,W9.frozen? ⟨w1.heap.size,j,none⟩=false):=hDD fun j=>(bA.frozen (p:=⟨w1.heap.size,j,none⟩) hxr).trans (HXF.out j)
   have OW:=hDD (HOW2.out.below bA)
   have BW9:=hDD (HBR.out.trans (bA.mono (by omega)))
   have hXW:w1.heap.size<W9.heap.size:=by omega
   have hFW:w.heap.size+1<W9.heap.size:=by omega
   have hwX:wr.heap.size≠w1.heap.size:=by omega
   clear bA a0 a1 a2 q0 q1 q2 q3 q4
   have f0:=BelW.cell l0 sA
   have f1:=BelW.cell l1 sA
   have f2:=BelW.cell l2 sA
   have f3:=BelW.cell la hFW
   have f4:=BelW.cell lb hFW
   have f5:=BelW.cell lx hXW
   (refine wp_region_call3 13 (by kernel_rfl) (by kernel_rfl) (by kernel_rfl) (by kernel_rfl) (by rfl) (by rfl) ?_;dsimp only[dum3,dumO];(repeat(go_big_quiet_step ((go_at_call 181;exact Calls.bel_of (HN.out _ (by assumption) _)))));refine wpQuiet_nil ?_;refine⟨⟨_,fun _=>by rfl⟩,?_⟩;intro wq hw';obtain⟨pq,hw''⟩:=hw';have bq:=pq.h;rw[←hw''] at bq;clear hw'' pq;refine⟨_,_,by rfl,?_⟩)
   clear f0 f1 f2 f3 f4 f5
   simp only[List.map_toArray,List.map_cons,List.map_nil,Array.empty_append,Array.append_empty]
   refine(show Calls Tryz.prog 136 #[.slice A2 L.length cap2, .agg #[.int .i64 (plF (fa,fb) a), .int .i64 l, .int .i64 (plF (fa,fb) c)]] wq _ from ?_)
   have hp1:=HP1.out
   have hp2:=HP2.out
   refine(l4Put_any _ L (plF (fa,fb) a,l,plF (fa,fb) c) wq (OW.out.below bq).arg ⟨⟨by simp only;omega,by simp only;omega⟩,⟨by simp only;omega,by simp only;omega⟩,⟨by simp only;omega,by simp only;omega⟩⟩ (by omega)).mono ?_
   rintro e' w9 ⟨r9,rfl,o9,b9⟩
   have B9:=hDD (bq.trans (b9.mono bq.size))
   have qx:=(B9.out.cell (p:=⟨w1.heap.size,2,none⟩) hXW).trans lx
   have qf:=(B9.out.frozen (p:=⟨w1.heap.size,2,none⟩) hXW).trans (LXF.out 2)
   have s9:W9.heap.size≤w9.heap.size:=B9.out.size
   have O9:=hDD o9
   obtain⟨A9,cap9,rfl,_⟩:=o9.form
   clear o9 b9 hp1 hp2
   refine⟨_,rfl,?_⟩
   simp only[Act.put,List.setIfInBounds_toArray,List.set_cons_zero,List.set_cons_succ]
   go_wp2
   go_roundw
   case rel=>
    have F:=hDD (HST.out.trans (by rw[HPE.out]))
    refine⟨k+1,A9,cap9,by omega,by go_num,by rw[F.out];exact World.cell?_setCell_same _ _ _ qx,?_,(BW9.out.trans (B9.out.mono (by omega))).setCell (Nat.le_refl _) _,?_,?_,fun j=>by rw[World.frozen?_setCell];exact(B9.out.frozen (p:=⟨w1.heap.size,j,none⟩) hXW).trans (LXF.out j),by simp;omega⟩
    ·rw[F.out]
     exact(O9.out.mono (by show _≤wq.heap.size;have:=bq.size;omega)).far (show w1.heap.size<w1.heap.size+1 by omega) _
    ·rw[World.cell?_setCell_other _ _ _ _ (by simp)]
     exact(B9.out.cell (p:=⟨w1.heap.size,0,none⟩) hXW).trans LX0.out
    ·rw[World.cell?_setCell_other _ _ _ _ (by simp)]
     exact(B9.out.cell (p:=⟨w1.heap.size,1,none⟩) hXW).trans LX1.out
   case measure=>simp[intOf];omega
  ·obtain rfl:k=es.length:=by omega
   rw[List.take_length] at HX2 HOW2
   have HMG:Hid (merG (g1,N,es) (fa,fb)=(g1,N-1,srt cmpE (es.map (plE (fa,fb))))):=hDD rfl
   generalize srt cmpE (es.map (plE (fa,fb)))=L at*
   have hx0:=HX0.out
   have hx1:=HX1.out
   have hx2:=HX2.out
   have r0:=(B4.out.cell (p:=⟨w.heap.size+1+1,0,none⟩) (by show w.heap.size+1+1<_;omega)).trans R0.out
   have r1:=(B4.out.cell (p:=⟨w.heap.size+1+1,1,none⟩) (by show w.heap.size+1+1<_;omega)).trans R1.out
   have r2:=(B4.out.cell (p:=⟨w.heap.size+1+1,2,none⟩) (by show w.heap.size+1+1<_;omega)).trans R2.out
   have rf0:=(B4.out.frozen (p:=⟨w.heap.size+1+1,0,none⟩) (by show w.heap.size+1+1<_;omega)).trans (RF.out 0)
   have rf1:=(B4.out.frozen (p:=⟨w.heap.size+1+1,1,none⟩) (by show w.heap.size+1+1<_;omega)).trans (RF.out 1)
   have rf2:=(B4.out.frozen (p:=⟨w.heap.size+1+1,2,none⟩) (by show w.heap.size+1+1<_;omega)).trans (RF.out 2)
   have hRx:w.heap.size+1+1≠w1.heap.size:=by omega
   have HBF:=hDD (BX.out.trans (B4.out.mono BX.out.size))
   go_wp2
   obtain⟨c0,c1,c2⟩:=cells3F (.int .i64 g1) (.int .i64 (N-1)) (.slice A2 L.length cap2) r0 r1 r2
   have bw:Below w.heap.size w (((wr.setCell ⟨w.heap.size+1+1,0,none⟩ (.int .i64 g1)).setCell ⟨w.heap.size+1+1,1,none⟩ (.int .i64 (N-1))).setCell ⟨w.heap.size+1+1,2,none⟩ (.slice A2 L.length cap2)):=(((HBF.out.setCell (by simp<;>omega) _).setCell (by simp<;>omega) _).setCell (by simp<;>omega) _)
   have ow:OwE (((wr.setCell ⟨w.heap.size+1+1,0,none⟩ (.int .i64 g1)).setCell ⟨w.heap.size+1+1,1,none⟩ (.int .i64 (N-1))).setCell ⟨w.heap.size+1+1,2,none⟩ (.slice A2 L.length cap2)) (w1.heap.size+1) (.slice A2 L.length cap2) L:=((HOW2.out.far (by show w.heap.size+1+1<_;omega) _).far (by show w.heap.size+1+1<_;omega) _).far (by show w.heap.size+1+1<_;omega) _
   generalize (((wr.setCell ⟨w.heap.size+1+1,0,none⟩ (.int .i64 g1)).setCell ⟨w.heap.size+1+1,1,none⟩ (.int .i64 (N-1))).setCell ⟨w.heap.size+1+1,2,none⟩ (.slice A2 L.length cap2))=wf at*
   rw[HMG.out]
   exact bodyPost_ret (v:= .tuple #[.agg #[.int .i64 g1, .int .i64 (N-1), .slice A2 L.length cap2], .bool true]) (by simp[results,Tryz.results163,go_sem,c0,c1,c2]) rfl ⟨_,rfl,⟨.slice A2 L.length cap2,rfl,(by show I64 g1;unfold I64;omega),(by show I64 (N-1);unfold I64;omega),ow.mono (by omega)⟩,bw⟩
def onceG (g:GrD):GrD:=match foL g.2.2 with | []=>g | f::_=>merG g f
theorem setc_other {W:World} {b b' o o':Nat} {u:Value} {x:Option Value} (hne:b≠b') (h:W.cell? ⟨b,o,none⟩=x):(W.setCell ⟨b',o',none⟩ u).cell? ⟨b,o,none⟩=x:=
 (World.cell?_setCell_other _ _ _ _ (by simp[hne])).trans h
set_option maxHeartbeats 1000000 in
theorem specFoldOnce_any (v:Value) (g:GrD) (w:World) (h:ArgG w v g) (hg:grB g=true):
  Calls Tryz.prog 151 #[v] w fun e w'=> ∃r,e= .returned (.tuple #[r, .agg #[.int .i64 (firF g).1.1, .int .i64 (firF g).1.2], .bool (firF g).2])∧OwG w' w.heap.size r (onceG g)∧Below w.heap.size w w':=by
 have HG:=hDD h
 have HGR:=hDD hg
 have HFK:=hDD fun f (hf:f∈foL g.2.2)=>foL_ok hg hf
 have h120:=(grB_parts hg).2.2.1
 obtain⟨s,rfl,hi1,hi2,ha⟩:=h
 obtain⟨A,cap,rfl⟩:=ha.form
 obtain⟨g1,N,es⟩:=g
 simp only at*
 clear ha hg
 go_enter Tryz.func151,Tryz.ntmps151
 have bx:Below w.heap.size w (((w.alloc (Obj.cells #[Value.int IntKind.i64 g1,Value.int IntKind.i64 N, .slice A es.length cap] 26)).alloc (Obj.cells #[Value.int IntKind.i64 0,Value.int IntKind.i64 0, .slice none 0 0] 26)).alloc (Obj.cells #[Value.int IntKind.i64 0,Value.int IntKind.i64 0] 123)):=(by repeat(first | exact Below.refl _ _ | (refine Below.setCell ?_ (by first | omega | (simp<;>omega)) _) | (refine bel_drewN ?_ _) | (refine Below.drew ?_) | (refine Below.alloc ?_ (by first | omega | (simp<;>omega)) _)))
 go_wp2_with fail
 obtain⟨W,hW⟩: ∃W,W=(((w.alloc (Obj.cells #[Value.int IntKind.i64 g1,Value.int IntKind.i64 N, .slice A es.length cap] 26)).alloc (Obj.cells #[Value.int IntKind.i64 0,Value.int IntKind.i64 0, .slice none 0 0] 26)).alloc (Obj.cells #[Value.int IntKind.i64 0,Value.int IntKind.i64 0] 123)):=⟨_,rfl⟩
 rw[←hW] at bx⊢
 have hsW:W.heap.size=w.heap.size+3:=by rw[hW];simp
 have L0:Hid (W.cell? ⟨w.heap.size,0,none⟩=some (.int .i64 g1)):=hDD (by rw[hW];simp[go_sem])
 have L1:Hid (W.cell? ⟨w.heap.size,1,none⟩=some (.int .i64 N)):=hDD (by rw[hW];simp[go_sem])
 have L2:Hid (W.cell? ⟨w.heap.size,2,none⟩=some (.slice A es.length cap)):=hDD (by rw[hW];simp[go_sem])
 have R0:Hid (W.cell? ⟨w.heap.size+1,0,none⟩=some (.int .i64 0)):=hDD (by rw[hW];simp[go_sem])
 have R1:Hid (W.cell? ⟨w.heap.size+1,1,none⟩=some (.int .i64 0)):=hDD (by rw[hW];simp[go_sem])
 have R2:Hid (W.cell? ⟨w.heap.size+1,2,none⟩=some (.slice none 0 0)):=hDD (by rw[hW];simp[go_sem])
 have S0:Hid (W.cell? ⟨w.heap.size+1+1,0,none⟩=some (.int .i64 0)):=hDD (by rw[hW];simp[go_sem])
 have S1:Hid (W.cell? ⟨w.heap.size+1+1,1,none⟩=some (.int .i64 0)):=hDD (by rw[hW];simp[go_sem])
 have RF:Hid (∀j,W.frozen? ⟨w.heap.size+1,j,none⟩=false):=hDD fun j=>by rw[hW];simp[go_sem]
 have SF:Hid (∀j,W.frozen? ⟨w.heap.size+1+1,j,none⟩=false):=hDD fun j=>by rw[hW];simp[go_sem]
 have BX:=hDD bx
 have HA:Hid (∀w',Below W.heap.size W w'→ArgG w' (.agg #[.int .i64 g1, .int .i64 N, .slice A es.length cap]) (g1,N,es)):=hDD fun w' hb=>HG.out.below (BX.out.trans (hb.mono BX.out.size))
 have HCL:Hid (∀w',Below W.heap.size W w'→w'.cell? ⟨w.heap.size,0,none⟩=some (.int .i64 g1)∧w'.cell? ⟨w.heap.size,1,none⟩=some (.int .i64 N)∧w'.cell? ⟨w.heap.size,2,none⟩=some (.slice A es.length cap)):=hDD fun w' hb=>
  ⟨(hb.cell (p:=⟨w.heap.size,0,none⟩) (by show w.heap.size<_;omega)).trans L0.out,(hb.cell (p:=⟨w.heap.size,1,none⟩) (by show w.heap.size<_;omega)).trans L1.out,(hb.cell (p:=⟨w.heap.size,2,none⟩) (by show w.heap.size<_;omega)).trans L2.out⟩
 have HCR:Hid (∀w',Below W.heap.size W w'→w'.cell? ⟨w.heap.size+1,0,none⟩=some (.int .i64 0)∧w'.cell? ⟨w.heap.size+1,1,none⟩=some (.int .i64 0)∧w'.cell? ⟨w.heap.size+1,2,none⟩=some (.slice none 0 0)∧w'.cell? ⟨w.heap.size+1+1,0,none⟩=some (.int .i64 0)∧w'.cell? ⟨w.heap.size+1+1,1,none⟩=some (.int .i64 0)∧(∀j,w'.frozen? ⟨w.heap.size+1,j,none⟩=false)∧(∀j,w'.frozen? ⟨w.heap.size+1+1,j,none⟩=false)):=hDD fun w' hb=>
  ⟨(hb.cell (p:=⟨w.heap.size+1,0,none⟩) (by show w.heap.size+1<_;omega)).trans R0.out,(hb.cell (p:=⟨w.heap.size+1,1,none⟩) (by show w.heap.size+1<_;omega)).trans R1.out,(hb.cell (p:=⟨w.heap.size+1,2,none⟩) (by show w.heap.size+1<_;omega)).trans R2.out,(hb.cell (p:=⟨w.heap.size+1+1,0,none⟩) (by show w.heap.size+1+1<_;omega)).trans S0.out,(hb.cell (p:=⟨w.heap.size+1+1,1,none⟩) (by show w.heap.size+1+1<_;omega)).trans S1.out,fun j=>(hb.frozen (p:=⟨w.heap.size+1,j,none⟩) (by show w.heap.size+1<_;omega)).trans (RF.out j),fun j=>(hb.frozen (p:=⟨w.heap.size+1+1,j,none⟩) (by show w.heap.size+1+1<_;omega)).trans (SF.out j)⟩
 clear hW bx L0 L1 L2 R0 R1 R2 S0 S1 RF SF
 refine(specFirstFold_any _ (g1,N,es) W (HA.out _ (Below.refl _ _))).mono ?_
 rintro e w1 ⟨rfl,b1⟩
 have B1:=hDD b1
 have hs1:=b1.size
 clear b1
 rcases ef:foL es with _ | ⟨f,l⟩
 ·have F:Hid (firF (g1,N,es)=((0,0),false)):=hDD (by unfold firF;rw[if_pos HGR.out];simp only[ef])
  have FO:Hid (onceG (g1,N,es)=(g1,N,es)):=hDD (by unfold onceG;simp only[ef])
  clear ef
  rw[F.out]
  simp only
  have bA:Below w1.heap.size w1 (w1.alloc (Obj.cells #[Value.int IntKind.i64 0,Value.int IntKind.i64 0] 123)):=(Below.refl _ _).alloc (Nat.le_refl _) _
  have BA:=hDD (B1.out.trans (bA.mono hs1))
  obtain⟨q0,q1,q2⟩:=HCL.out _ BA.out
  go_wp2_with fail
  refine(l4Copy_any _ (g1,N,es) _ (HA.out _ BA.out) (by simp only;omega)).mono ?_
  rintro e w2 ⟨r,rfl,o2,b2⟩
  have B2:=hDD (BA.out.trans (b2.mono BA.out.size))
  have O2:=hDD o2
  obtain⟨s2,rfl,_,_,oe2⟩:=o2
  obtain⟨A2,c2,rfl,_⟩:=oe2.form
  have OE2:=hDD oe2
  have hsA:=BA.out.size
  obtain⟨r0,r1,r2,s0,s1,rf,sf⟩:=HCR.out w2 B2.out
  have rf0:=rf 0
  have rf1:=rf 1
  have rf2:=rf 2
  have sf0:=sf 0
  have sf1:=sf 1
  have HBF:=hDD (BX.out.trans (B2.out.mono BX.out.size))
  clear b2 oe2 rf sf q0 q1 q2 bA
  go_wp2
  obtain⟨c0,c1,c2'⟩:=cells3F (.int .i64 g1) (.int .i64 N) (.slice A2 es.length c2) r0 r1 r2
  have hne1:w.heap.size+1≠w.heap.size+1+1:=by omega
  have hne2:w.heap.size+1+1≠w.heap.size+1:=by omega
  have d0:=setc_other (o':=1) (u:= .int .i64 0) hne1 (setc_other (o':=0) (u:= .int .i64 0) hne1 c0)
  have d1:=setc_other (o':=1) (u:= .int .i64 0) hne1 (setc_other (o':=0) (u:= .int .i64 0) hne1 c1)
  have d2:=setc_other (o':=1) (u:= .int .i64 0) hne1 (setc_other (o':=0) (u:= .int .i64 0) hne1 c2')
  obtain⟨e0,e1⟩:=cells2 (.int .i64 0) (.int .i64 0) (setc_other (o':=2) (u:= .slice A2 es.length c2) hne2 (setc_other (o':=1) (u:= .int .i64 N) hne2 (setc_other (o':=0) (u:= .int .i64 g1) hne2 s0))) (setc_other (o':=2) (u:= .slice A2 es.length c2) hne2 (setc_other (o':=1) (u:= .int .i64 N) hne2 (setc_other (o':=0) (u:= .int .i64 g1) hne2 s1)))
  have bw:Below w.heap.size w (((((w2.setCell ⟨w.heap.size+1,0,none⟩ (.int .i64 g1)).setCell ⟨w.heap.size+1,1,none⟩ (.int .i64 N)).setCell ⟨w.heap.size+1,2,none⟩ (.slice A2 es.length c2)).setCell ⟨w.heap.size+1+1,0,none⟩ (.int .i64 0)).setCell ⟨w.heap.size+1+1,1,none⟩ (.int .i64 0)):=(((((HBF.out.setCell (by simp<;>omega) _).setCell (by simp<;>omega) _).setCell (by simp<;>omega) _).setCell (by simp<;>omega) _).setCell (by simp<;>omega) _)
  have ow:OwE (((((w2.setCell ⟨w.heap.size+1,0,none⟩ (.int .i64 g1)).setCell ⟨w.heap.size+1,1,none⟩ (.int .i64 N)).setCell ⟨w.heap.size+1,2,none⟩ (.slice A2 es.length c2)).setCell ⟨w.heap.size+1+1,0,none⟩ (.int .i64 0)).setCell ⟨w.heap.size+1+1,1,none⟩ (.int .i64 0)) _ (.slice A2 es.length c2) es:=(((((OE2.out.far (by show w.heap.size+1<_;omega) _).far (by show w.heap.size+1<_;omega) _).far (by show w.heap.size+1<_;omega) _).far (by show w.heap.size+1+1<_;omega) _).far (by show w.heap.size+1+1<_;omega) _)
  generalize (((((w2.setCell ⟨w.heap.size+1,0,none⟩ (.int .i64 g1)).setCell ⟨w.heap.size+1,1,none⟩ (.int .i64 N)).setCell ⟨w.heap.size+1,2,none⟩ (.slice A2 es.length c2)).setCell ⟨w.heap.size+1+1,0,none⟩ (.int .i64 0)).setCell ⟨w.heap.size+1+1,1,none⟩ (.int .i64 0))=wf at*
  rw[FO.out,F.out]
  exact bodyPost_ret (v:= .tuple #[.agg #[.int .i64 g1, .int .i64 N, .slice A2 es.length c2], .agg #[.int .i64 0, .int .i64 0], .bool false]) (by simp[results,Tryz.results151,go_sem,d0,d1,d2,e0,e1]) rfl ⟨_,rfl,⟨.slice A2 es.length c2,rfl,hi1,hi2,ow.mono (by omega)⟩,bw⟩
 ·have F:Hid (firF (g1,N,es)=(f,true)):=hDD (by unfold firF;rw[if_pos HGR.out];simp only[ef])
  have FO:Hid (onceG (g1,N,es)=merG (g1,N,es) f):=hDD (by unfold onceG;simp only[ef])
  have hfk:=HFK.out f (by rw[ef];simp)
  clear ef
  rw[F.out]
  obtain⟨fa,fb⟩:=f
  simp only
  have bA:Below w1.heap.size w1 (w1.alloc (Obj.cells #[Value.int IntKind.i64 fa,Value.int IntKind.i64 fb] 123)):=(Below.refl _ _).alloc (Nat.le_refl _) _
  have BA:=hDD (B1.out.trans (bA.mono hs1))
  obtain⟨q0,q1,q2⟩:=HCL.out _ BA.out
  go_wp2_with fail
  obtain⟨WA,hWA⟩: ∃W,W=w1.alloc (Obj.cells #[Value.int IntKind.i64 fa,Value.int IntKind.i64 fb] 123):=⟨_,rfl⟩
  have k0:Hid (WA.cell? ⟨w1.heap.size,0,none⟩=some (.int .i64 fa)):=hDD (by rw[hWA];simp[go_sem])
  have k1:Hid (WA.cell? ⟨w1.heap.size,1,none⟩=some (.int .i64 fb)):=hDD (by rw[hWA];simp[go_sem])
  have hsA:WA.heap.size=w1.heap.size+1:=by rw[hWA];simp
  rw[←hWA] at BA q0 q1 q2⊢
  clear hWA bA
  refine(specMergeVertices_any _ (g1,N,es) (fa,fb) WA (HA.out _ BA.out) HGR.out hfk).mono ?_
  rintro e w2 ⟨r,rfl,o2,b2⟩
  have B2:=hDD (BA.out.trans (b2.mono BA.out.size))
  have hs2:=b2.size
  obtain⟨s2,rfl,hj1,hj2,oe2⟩:=o2
  obtain⟨A2,c2,rfl,_⟩:=oe2.form
  have OE2:=hDD oe2
  have l0:=(b2.cell (p:=⟨w1.heap.size,0,none⟩) (by show w1.heap.size<_;omega)).trans k0.out
  have l1:=(b2.cell (p:=⟨w1.heap.size,1,none⟩) (by show w1.heap.size<_;omega)).trans k1.out
  clear b2 oe2 q0 q1 q2
  generalize hmg:merG (g1,N,es) (fa,fb)=M at*
  obtain⟨m1,m2,ms⟩:=M
  simp only at hj1 hj2
  have HMG:=hDD hmg
  clear hmg
  go_wp2_with fail
  have bB:Below w2.heap.size w2 (w2.alloc (Obj.cells #[Value.int IntKind.i64 m1,Value.int IntKind.i64 m2, .slice A2 ms.length c2] 26)):=(Below.refl _ _).alloc (Nat.le_refl _) _
  obtain⟨WB,hWB⟩: ∃W,W=w2.alloc (Obj.cells #[Value.int IntKind.i64 m1,Value.int IntKind.i64 m2, .slice A2 ms.length c2] 26):=⟨_,rfl⟩
  have x0:WB.cell? ⟨w2.heap.size,0,none⟩=some (.int .i64 m1):=by rw[hWB];simp[go_sem]
  have x1:WB.cell? ⟨w2.heap.size,1,none⟩=some (.int .i64 m2):=by rw[hWB];simp[go_sem]
  have x2:WB.cell? ⟨w2.heap.size,2,none⟩=some (.slice A2 ms.length c2):=by rw[hWB];simp[go_sem]
  have hsB:WB.heap.size=w2.heap.size+1:=by rw[hWB];simp
  rw[←hWB] at bB⊢
  clear hWB
  have y0:=(bB.cell (p:=⟨w1.heap.size,0,none⟩) (by show w1.heap.size<_;omega)).trans l0
  have y1:=(bB.cell (p:=⟨w1.heap.size,1,none⟩) (by show w1.heap.size<_;omega)).trans l1
  have BB:=hDD (B2.out.trans (bB.mono B2.out.size))
  have OEB:=hDD (OE2.out.below bB)
  obtain⟨r0,r1,r2,s0,s1,rf,sf⟩:=HCR.out WB BB.out
  have rf0:=rf 0
  have rf1:=rf 1
  have rf2:=rf 2
  have sf0:=sf 0
  have sf1:=sf 1
  have hne1:w.heap.size+1≠w2.heap.size:=by omega
  have hne2:w.heap.size+1+1≠w2.heap.size:=by omega
  have hne3:w.heap.size+1≠w1.heap.size:=by omega
  have hne4:w.heap.size+1+1≠w1.heap.size:=by omega
  have HBF:=hDD (BX.out.trans (BB.out.mono BX.out.size))
  clear rf sf l0 l1 bB
  go_region_held3 (fun w'=>w'.cell? ⟨w2.heap.size,0,none⟩=some (.int .i64 m1)∧w'.cell? ⟨w2.heap.size,1,none⟩=some (.int .i64 m2)∧w'.cell? ⟨w2.heap.size,2,none⟩=some (.slice A2 ms.length c2)∧w'.cell? ⟨w1.heap.size,0,none⟩=some (.int .i64 fa)∧w'.cell? ⟨w1.heap.size,1,none⟩=some (.int .i64 fb))
   (first | go_keep | (simp[go_sem, *];done))
   (fail)
  go_wp2
  obtain⟨c0,c1,c2'⟩:=cells3F (.int .i64 m1) (.int .i64 m2) (.slice A2 ms.length c2) r0 r1 r2
  have hnf1:w.heap.size+1≠w.heap.size+1+1:=by omega
  have hnf2:w.heap.size+1+1≠w.heap.size+1:=by omega
  have d0:=setc_other (o':=1) (u:= .int .i64 fb) hnf1 (setc_other (o':=0) (u:= .int .i64 fa) hnf1 c0)
  have d1:=setc_other (o':=1) (u:= .int .i64 fb) hnf1 (setc_other (o':=0) (u:= .int .i64 fa) hnf1 c1)
  have d2:=setc_other (o':=1) (u:= .int .i64 fb) hnf1 (setc_other (o':=0) (u:= .int .i64 fa) hnf1 c2')
  obtain⟨e0,e1⟩:=cells2 (.int .i64 fa) (.int .i64 fb) (setc_other (o':=2) (u:= .slice A2 ms.length c2) hnf2 (setc_other (o':=1) (u:= .int .i64 m2) hnf2 (setc_other (o':=0) (u:= .int .i64 m1) hnf2 s0))) (setc_other (o':=2) (u:= .slice A2 ms.length c2) hnf2 (setc_other (o':=1) (u:= .int .i64 m2) hnf2 (setc_other (o':=0) (u:= .int .i64 m1) hnf2 s1)))
  have bw:Below w.heap.size w (((((WB.setCell ⟨w.heap.size+1,0,none⟩ (.int .i64 m1)).setCell ⟨w.heap.size+1,1,none⟩ (.int .i64 m2)).setCell ⟨w.heap.size+1,2,none⟩ (.slice A2 ms.length c2)).setCell ⟨w.heap.size+1+1,0,none⟩ (.int .i64 fa)).setCell ⟨w.heap.size+1+1,1,none⟩ (.int .i64 fb)).drew:=(((((HBF.out.setCell (by simp<;>omega) _).setCell (by simp<;>omega) _).setCell (by simp<;>omega) _).setCell (by simp<;>omega) _).setCell (by simp<;>omega) _).drew
  have ow:OwE (((((WB.setCell ⟨w.heap.size+1,0,none⟩ (.int .i64 m1)).setCell ⟨w.heap.size+1,1,none⟩ (.int .i64 m2)).setCell ⟨w.heap.size+1,2,none⟩ (.slice A2 ms.length c2)).setCell ⟨w.heap.size+1+1,0,none⟩ (.int .i64 fa)).setCell ⟨w.heap.size+1+1,1,none⟩ (.int .i64 fb)).drew _ (.slice A2 ms.length c2) ms:=(((((OEB.out.far (by show w.heap.size+1<_;omega) _).far (by show w.heap.size+1<_;omega) _).far (by show w.heap.size+1<_;omega) _).far (by show w.heap.size+1+1<_;omega) _).far (by show w.heap.size+1+1<_;omega) _).drew
  generalize (((((WB.setCell ⟨w.heap.size+1,0,none⟩ (.int .i64 m1)).setCell ⟨w.heap.size+1,1,none⟩ (.int .i64 m2)).setCell ⟨w.heap.size+1,2,none⟩ (.slice A2 ms.length c2)).setCell ⟨w.heap.size+1+1,0,none⟩ (.int .i64 fa)).setCell ⟨w.heap.size+1+1,1,none⟩ (.int .i64 fb))=wf at*
  have d0':wf.drew.cell? ⟨w.heap.size+1,0,none⟩=some (.int .i64 m1):=d0
  have d1':wf.drew.cell? ⟨w.heap.size+1,1,none⟩=some (.int .i64 m2):=d1
  have d2':wf.drew.cell? ⟨w.heap.size+1,2,none⟩=some (.slice A2 ms.length c2):=d2
  have e0':wf.drew.cell? ⟨w.heap.size+1+1,0,none⟩=some (.int .i64 fa):=e0
  have e1':wf.drew.cell? ⟨w.heap.size+1+1,1,none⟩=some (.int .i64 fb):=e1
  generalize wf.drew=wg at*
  rw[FO.out,F.out]
  exact bodyPost_ret (v:= .tuple #[.agg #[.int .i64 m1, .int .i64 m2, .slice A2 ms.length c2], .agg #[.int .i64 fa, .int .i64 fb], .bool true]) (by simp[results,Tryz.results151,go_sem,d0',d1',d2',e0',e1']) rfl ⟨_,rfl,⟨.slice A2 ms.length c2,rfl,hj1,hj2,ow.mono (by omega)⟩,bw⟩
theorem once_folA {g:GrD} {f:FoD} {l:List FoD} (hg:grB g=true) (h:foL g.2.2=f::l):folA (merG g f)=folA g:=by
 have hf:=foL_ok hg (f:=f) (by rw[h];simp)
 unfold folA
 obtain⟨n,hn⟩: ∃n,g.2.1.toNat=n+1:=⟨g.2.1.toNat-1,by omega⟩
 rw[hn,folF_cons h,show(merG g f).2.1.toNat=n by show(g.2.1-1).toNat=n;omega]
theorem folA_nil {g:GrD} (h:foL g.2.2= []):folA g=g:=folF_nil h _
set_option maxHeartbeats 4000000 in
theorem specFoldAll_any (v:Value) (g:GrD) (w:World) (h:ArgG w v g) (hg:grB g=true):
  Calls Tryz.prog 125 #[v] w fun e w'=> ∃r o,e= .returned (.tuple #[r,o])∧OwG w' w.heap.size r (folA g)∧Below w.heap.size w w':=by
 have HG:=hDD h
 have HGR:=hDD hg
 obtain⟨h13,h40,h120,_⟩:=grB_parts hg
 obtain⟨s,rfl,hi1,hi2,ha⟩:=h
 obtain⟨A,cap,rfl⟩:=ha.form
 obtain⟨g1,N,es⟩:=g
 simp only at*
 clear ha hg
 go_enter Tryz.func125,Tryz.ntmps125
 have bx:Below w.heap.size w ((w.alloc (Obj.cells #[Value.int IntKind.i64 g1,Value.int IntKind.i64 N, .slice A es.length cap] 26)).alloc (Obj.cells #[Value.int IntKind.i64 0,Value.int IntKind.i64 0, .slice none 0 0] 26)):=(by repeat(first | exact Below.refl _ _ | (refine Below.setCell ?_ (by first | omega | (simp<;>omega)) _) | (refine bel_drewN ?_ _) | (refine Below.drew ?_) | (refine Below.alloc ?_ (by first | omega | (simp<;>omega)) _)))
 go_wp2_with fail
 obtain⟨W,hW⟩: ∃W,W=((w.alloc (Obj.cells #[Value.int IntKind.i64 g1,Value.int IntKind.i64 N, .slice A es.length cap] 26)).alloc (Obj.cells #[Value.int IntKind.i64 0,Value.int IntKind.i64 0, .slice none 0 0] 26)):=⟨_,rfl⟩
 rw[←hW] at bx⊢
 have hsW:W.heap.size=w.heap.size+2:=by rw[hW];simp
 have R0:Hid (W.cell? ⟨w.heap.size+1,0,none⟩=some (.int .i64 0)):=hDD (by rw[hW];simp[go_sem])
 have R1:Hid (W.cell? ⟨w.heap.size+1,1,none⟩=some (.int .i64 0)):=hDD (by rw[hW];simp[go_sem])
 have R2:Hid (W.cell? ⟨w.heap.size+1,2,none⟩=some (.slice none 0 0)):=hDD (by rw[hW];simp[go_sem])
 have RF:Hid (∀j,W.frozen? ⟨w.heap.size+1,j,none⟩=false):=hDD fun j=>by rw[hW];simp[go_sem]
 have BX:=hDD bx
 clear hW bx
 refine(l4Copy_any _ (g1,N,es) W (HG.out.below BX.out) (by simp only;omega)).mono ?_
 rintro e w1 ⟨r,rfl,o1,b1⟩
 have B1:=hDD b1
 have hs1:=b1.size
 obtain⟨s1,rfl,_,_,oe1⟩:=o1
 obtain⟨A1,c1,rfl,_⟩:=oe1.form
 simp only at*
 have OE1:=hDD oe1
 clear b1 oe1
 have HOU:Hid (OwFo ((w1.alloc (Obj.cells #[Value.int IntKind.i64 g1,Value.int IntKind.i64 N, .slice A1 es.length c1] 26)).alloc (.cells #[] 123)) (w1.heap.size+1) (.slice (some ⟨w1.heap.size+1,0,none⟩) 0 0) []):=hDD (by
  have:=OwFo_lit (base:=w1.heap.size+1) (w1.alloc (Obj.cells #[Value.int IntKind.i64 g1,Value.int IntKind.i64 N, .slice A1 es.length c1] 26)) (by simp)
  simpa using this)
 have bX:Below w1.heap.size w1 ((w1.alloc (Obj.cells #[Value.int IntKind.i64 g1,Value.int IntKind.i64 N, .slice A1 es.length c1] 26)).alloc (.cells #[] 123)):=(by repeat(first | exact Below.refl _ _ | (refine Below.setCell ?_ (by first | omega | (simp<;>omega)) _) | (refine bel_drewN ?_ _) | (refine Below.drew ?_) | (refine Below.alloc ?_ (by first | omega | (simp<;>omega)) _)))
 go_wp2
 obtain⟨W2,hW2⟩: ∃W,W=(w1.alloc (Obj.cells #[Value.int IntKind.i64 g1,Value.int IntKind.i64 N, .slice A1 es.length c1] 26)).alloc (.cells #[] 123):=⟨_,rfl⟩
 rw[←hW2] at bX HOU⊢
 have hsW2:W2.heap.size=w1.heap.size+2:=by rw[hW2];simp
 have X0:Hid (W2.cell? ⟨w1.heap.size,0,none⟩=some (.int .i64 g1)):=hDD (by rw[hW2];simp[go_sem])
 have X1:Hid (W2.cell? ⟨w1.heap.size,1,none⟩=some (.int .i64 N)):=hDD (by rw[hW2];simp[go_sem])
 have X2:Hid (W2.cell? ⟨w1.heap.size,2,none⟩=some (.slice A1 es.length c1)):=hDD (by rw[hW2];simp[go_sem])
 have XF:Hid (∀j,W2.frozen? ⟨w1.heap.size,j,none⟩=false):=hDD fun j=>by rw[hW2];simp[go_sem]
 have BX2:=hDD bX
 have OEX:Hid (OwE W2 (w.heap.size+2) (.slice A1 es.length c1) es):=hDD ((OE1.out.below bX).mono (by omega))
 have HNX:Hid (∀b,(Value.slice A1 es.length c1).ownBlock=some b→b≠w1.heap.size):=hDD fun b hb=>by have:=(OE1.out.1.lt b hb).2;omega
 clear hW2 bX OE1
 go_loopw [5,6] (fun out i wr=> ∃(k:Nat) (gk:GrD) (A2:Option Addr) (c2:Nat) (lo:List FoD),k≤40∧i= .int .i64 k∧grB gk=true∧folA gk=folA (g1,N,es)∧gk.2.1+k≤N∧lo.length≤k∧wr.cell? ⟨w1.heap.size,0,none⟩=some (.int .i64 gk.1)∧wr.cell? ⟨w1.heap.size,1,none⟩=some (.int .i64 gk.2.1)∧wr.cell? ⟨w1.heap.size,2,none⟩=some (.slice A2 gk.2.2.length c2)∧
   (∀j,wr.frozen? ⟨w1.heap.size,j,none⟩=false)∧OwE wr (w.heap.size+2) (.slice A2 gk.2.2.length c2) gk.2.2∧(∀b,(Value.slice A2 gk.2.2.length c2).ownBlock=some b→b≠w1.heap.size)∧OwFo wr (w1.heap.size+1) out lo∧Below w1.heap.size w1 wr∧w1.heap.size<wr.heap.size) (fun _ i _=>40-(intOf i).toNat)
 case atStart=>exact⟨0,(g1,N,es),A1,c1,[],Nat.zero_le _,rfl,HGR.out,rfl,by simp,by simp,X0.out,X1.out,X2.out,XF.out,OEX.out,HNX.out,HOU.out,BX2.out,by omega⟩
 case round=>
  obtain⟨k,gk,A2,c2,lo,hk,rfl,hgk,hfa,hsz,hlo,hx0,hx1,hx2,hxf,hoe,hnx,hof,hbr,hxr⟩:=hrel
  obtain⟨k13,k40,k120,_⟩:=grB_parts hgk
  have HGK:=hDD hgk
  have HFA:=hDD hfa
  have HOE:=hDD hoe
  have HNX2:=hDD hnx
  have HOF:=hDD hof
  have HBR:=hDD hbr
  have B4:=hDD (B1.out.trans (hbr.mono hs1))
  have HAK:Hid (ArgG wr (.agg #[.int .i64 gk.1, .int .i64 gk.2.1, .slice A2 gk.2.2.length c2]) gk):=hDD ⟨_,rfl,(by unfold I64;omega),(by unfold I64;omega),hoe.arg⟩
  obtain⟨wk,rfl⟩: ∃wk:World,wk=wr:=⟨_,rfl⟩
  clear hgk hfa hoe hnx hof hbr
  have hk40:k<40:=by omega
  have hkI:(k:Int)<40:=by omega
  go_wp2_with fail
  refine(specFoldOnce_any _ gk wk HAK.out HGK.out).mono ?_
  rintro e w5 ⟨r,rfl,o5,b5⟩
  have hs5:=b5.size
  have B5:=hDD (HBR.out.trans (b5.mono (by omega)))
  have z0:=(b5.cell (p:=⟨w1.heap.size,0,none⟩) hxr).trans hx0
  have z1:=(b5.cell (p:=⟨w1.heap.size,1,none⟩) hxr).trans hx1
  have z2:=(b5.cell (p:=⟨w1.heap.size,2,none⟩) hxr).trans hx2
  have ZF:Hid (∀j,w5.frozen? ⟨w1.heap.size,j,none⟩=false):=hDD fun j=>(b5.frozen (p:=⟨w1.heap.size,j,none⟩) hxr).trans (hxf j)
  have HOE5:=hDD (HOE.out.below b5)
  have HOF5:=hDD (HOF.out.below b5)
  clear hx0 hx1 hx2 hxf b5
  rcases ef:foL gk.2.2 with _ | ⟨f,l⟩
  ·have F:Hid (firF gk=((0,0),false)):=hDD (by unfold firF;rw[if_pos HGK.out];simp only[ef])
   have FO:Hid (onceG gk=gk):=hDD (by unfold onceG;simp only[ef])
   have FAG:Hid (folA (g1,N,es)=gk):=hDD (by rw[←HFA.out];exact folA_nil ef)
   clear ef
   rw[FO.out] at o5
   rw[F.out]
   simp only
   obtain⟨s5,rfl,hj1,hj2,oe5⟩:=o5
   obtain⟨A5,c5,rfl,_⟩:=oe5.form
   obtain⟨Ao,co,hov,_⟩:=HOF5.out.form
   subst hov
   have bY:Below w5.heap.size w5 ((w5.alloc (Obj.cells #[Value.int IntKind.i64 gk.1,Value.int IntKind.i64 gk.2.1, .slice A5 gk.2.2.length c5] 26)).alloc (Obj.cells #[Value.int IntKind.i64 0,Value.int IntKind.i64 0] 123)):=(by repeat(first | exact Below.refl _ _ | (refine Below.setCell ?_ (by first | omega | (simp<;>omega)) _) | (refine bel_drewN ?_ _) | (refine Below.drew ?_) | (refine Below.alloc ?_ (by first | omega | (simp<;>omega)) _)))
   obtain⟨WY,hWY⟩: ∃W,W=(w5.alloc (Obj.cells #[Value.int IntKind.i64 gk.1,Value.int IntKind.i64 gk.2.1, .slice A5 gk.2.2.length c5] 26)).alloc (Obj.cells #[Value.int IntKind.i64 0,Value.int IntKind.i64 0] 123):=⟨_,rfl⟩
   rw[←hWY] at bY
   have BY:=hDD (B5.out.trans (bY.mono (by omega)))
   have BYW:=hDD (B1.out.trans (BY.out.mono hs1))
   have y0:=(bY.cell (p:=⟨w1.heap.size,0,none⟩) (by show w1.heap.size<_;omega)).trans z0
   have y1:=(bY.cell (p:=⟨w1.heap.size,1,none⟩) (by show w1.heap.size<_;omega)).trans z1
   have y2:=(bY.cell (p:=⟨w1.heap.size,2,none⟩) (by show w1.heap.size<_;omega)).trans z2
   have r0:=(BYW.out.cell (p:=⟨w.heap.size+1,0,none⟩) (by show w.heap.size+1<_;omega)).trans R0.out
   have r1:=(BYW.out.cell (p:=⟨w.heap.size+1,1,none⟩) (by show w.heap.size+1<_;omega)).trans R1.out
   have r2:=(BYW.out.cell (p:=⟨w.heap.size+1,2,none⟩) (by show w.heap.size+1<_;omega)).trans R2.out
   have rf0:=(BYW.out.frozen (p:=⟨w.heap.size+1,0,none⟩) (by show w.heap.size+1<_;omega)).trans (RF.out 0)
   have rf1:=(BYW.out.frozen (p:=⟨w.heap.size+1,1,none⟩) (by show w.heap.size+1<_;omega)).trans (RF.out 1)
   have rf2:=(BYW.out.frozen (p:=⟨w.heap.size+1,2,none⟩) (by show w.heap.size+1<_;omega)).trans (RF.out 2)
   have hne1:w.heap.size+1≠w1.heap.size:=by omega
   have HBF:=hDD (BX.out.trans (BYW.out.mono BX.out.size))
   have OEY:=hDD (HOE5.out.below bY)
   rw[hWY] at y0 y1 y2 r0 r1 r2 rf0 rf1 rf2
   clear z0 z1 z2 oe5 bY
   go_wp2
   rw[←hWY] at y0 y1 y2 r0 r1 r2 rf0 rf1 rf2⊢
   obtain⟨e0,e1,e2⟩:=cells3F (.int .i64 gk.1) (.int .i64 gk.2.1) (.slice A2 gk.2.2.length c2) r0 r1 r2
   have bw:Below w.heap.size w (((WY.setCell ⟨w.heap.size+1,0,none⟩ (.int .i64 gk.1)).setCell ⟨w.heap.size+1,1,none⟩ (.int .i64 gk.2.1)).setCell ⟨w.heap.size+1,2,none⟩ (.slice A2 gk.2.2.length c2)):=(((HBF.out.setCell (by simp<;>omega) _).setCell (by simp<;>omega) _).setCell (by simp<;>omega) _)
   have ow:OwE (((WY.setCell ⟨w.heap.size+1,0,none⟩ (.int .i64 gk.1)).setCell ⟨w.heap.size+1,1,none⟩ (.int .i64 gk.2.1)).setCell ⟨w.heap.size+1,2,none⟩ (.slice A2 gk.2.2.length c2)) (w.heap.size+2) (.slice A2 gk.2.2.length c2) gk.2.2:=((OEY.out.far (by show w.heap.size+1<_;omega) _).far (by show w.heap.size+1<_;omega) _).far (by show w.heap.size+1<_;omega) _
   generalize (((WY.setCell ⟨w.heap.size+1,0,none⟩ (.int .i64 gk.1)).setCell ⟨w.heap.size+1,1,none⟩ (.int .i64 gk.2.1)).setCell ⟨w.heap.size+1,2,none⟩ (.slice A2 gk.2.2.length c2))=wf at*
   rw[FAG.out]
   exact bodyPost_ret (v:= .tuple #[.agg #[.int .i64 gk.1, .int .i64 gk.2.1, .slice A2 gk.2.2.length c2], .slice Ao lo.length co]) (by simp[results,Tryz.results125,go_sem,e0,e1,e2]) rfl ⟨_,_,rfl,⟨.slice A2 gk.2.2.length c2,rfl,hj1,hj2,ow.mono (by omega)⟩,bw⟩
  ·have F:Hid (firF gk=(f,true)):=hDD (by unfold firF;rw[if_pos HGK.out];simp only[ef])
   have FO:Hid (onceG gk=merG gk f):=hDD (by unfold onceG;simp only[ef])
   have hfk:=foL_ok HGK.out (f:=f) (by rw[ef];simp)
   have HGM:=hDD (grB_merG HGK.out hfk)
   have HFM:=hDD ((once_folA HGK.out ef).trans HFA.out)
   have hm2:(merG gk f).2.1=gk.2.1-1:=rfl
   clear ef
   rw[FO.out] at o5
   rw[F.out]
   obtain⟨fa,fb⟩:=f
   simp only
   generalize merG gk (fa,fb)=M at*
   obtain⟨m1,m2,ms⟩:=M
   simp only at hm2
   obtain⟨s5,rfl,hj1,hj2,oe5⟩:=o5
   obtain⟨A5,c5,rfl,_⟩:=oe5.form
   simp only at hj1 hj2 oe5
   have HM2:=hDD hm2
   clear hm2
   have bY:Below w5.heap.size w5 ((w5.alloc (Obj.cells #[Value.int IntKind.i64 m1,Value.int IntKind.i64 m2, .slice A5 ms.length c5] 26)).alloc (Obj.cells #[Value.int IntKind.i64 fa,Value.int IntKind.i64 fb] 123)):=(by repeat(first | exact Below.refl _ _ | (refine Below.setCell ?_ (by first | omega | (simp<;>omega)) _) | (refine bel_drewN ?_ _) | (refine Below.drew ?_) | (refine Below.alloc ?_ (by first | omega | (simp<;>omega)) _)))
   obtain⟨WY,hWY⟩: ∃W,W=(w5.alloc (Obj.cells #[Value.int IntKind.i64 m1,Value.int IntKind.i64 m2, .slice A5 ms.length c5] 26)).alloc (Obj.cells #[Value.int IntKind.i64 fa,Value.int IntKind.i64 fb] 123):=⟨_,rfl⟩
   have a0:WY.cell? ⟨w5.heap.size,0,none⟩=some (.int .i64 m1):=by rw[hWY];simp[go_sem]
   have a1:WY.cell? ⟨w5.heap.size,1,none⟩=some (.int .i64 m2):=by rw[hWY];simp[go_sem]
   have a2:WY.cell? ⟨w5.heap.size,2,none⟩=some (.slice A5 ms.length c5):=by rw[hWY];simp[go_sem]
   have a3:WY.cell? ⟨w5.heap.size+1,0,none⟩=some (.int .i64 fa):=by rw[hWY];simp[go_sem]
   have a4:WY.cell? ⟨w5.heap.size+1,1,none⟩=some (.int .i64 fb):=by rw[hWY];simp[go_sem]
   have hsY:WY.heap.size=w5.heap.size+2:=by rw[hWY];simp
   rw[←hWY] at bY
   have BY:=hDD (B5.out.trans (bY.mono (by omega)))
   have y0:=(bY.cell (p:=⟨w1.heap.size,0,none⟩) (by show w1.heap.size<_;omega)).trans z0
   have y1:=(bY.cell (p:=⟨w1.heap.size,1,none⟩) (by show w1.heap.size<_;omega)).trans z1
   have y2:=(bY.cell (p:=⟨w1.heap.size,2,none⟩) (by show w1.heap.size<_;omega)).trans z2
   have YF:Hid (∀j,WY.frozen? ⟨w1.heap.size,j,none⟩=false):=hDD fun j=>(bY.frozen (p:=⟨w1.heap.size,j,none⟩) (by show w1.heap.size<_;omega)).trans (ZF.out j)
   have yf0:=YF.out 0
   have yf1:=YF.out 1
   have yf2:=YF.out 2
   have OEM:=hDD (oe5.below bY)
   have OFY:=hDD (HOF5.out.below bY)
   obtain⟨e0,e1,e2⟩:=cells3F (.int .i64 m1) (.int .i64 m2) (.slice A5 ms.length c5) y0 y1 y2
   have e3:=setc_other (b':=w1.heap.size) (o':=2) (u:= .slice A5 ms.length c5) (show w5.heap.size+1≠w1.heap.size by omega) (setc_other (b':=w1.heap.size) (o':=1) (u:= .int .i64 m2) (show w5.heap.size+1≠w1.heap.size by omega) (setc_other (b':=w1.heap.size) (o':=0) (u:= .int .i64 m1) (show w5.heap.size+1≠w1.heap.size by omega) a3))
   have e4:=setc_other (b':=w1.heap.size) (o':=2) (u:= .slice A5 ms.length c5) (show w5.heap.size+1≠w1.heap.size by omega) (setc_other (b':=w1.heap.size) (o':=1) (u:= .int .i64 m2) (show w5.heap.size+1≠w1.heap.size by omega) (setc_other (b':=w1.heap.size) (o':=0) (u:= .int .i64 m1) (show w5.heap.size+1≠w1.heap.size by omega) a4))
   have BS:Hid (Below w1.heap.size w1 (((WY.setCell ⟨w1.heap.size,0,none⟩ (.int .i64 m1)).setCell ⟨w1.heap.size,1,none⟩ (.int .i64 m2)).setCell ⟨w1.heap.size,2,none⟩ (.slice A5 ms.length c5))):=hDD (((BY.out.setCell (Nat.le_refl _) _).setCell (Nat.le_refl _) _).setCell (Nat.le_refl _) _)
   have OES:Hid (OwE (((WY.setCell ⟨w1.heap.size,0,none⟩ (.int .i64 m1)).setCell ⟨w1.heap.size,1,none⟩ (.int .i64 m2)).setCell ⟨w1.heap.size,2,none⟩ (.slice A5 ms.length c5)) wk.heap.size (.slice A5 ms.length c5) ms):=hDD (((OEM.out.far (by show w1.heap.size<_;omega) _).far (by show w1.heap.size<_;omega) _).far (by show w1.heap.size<_;omega) _)
   have OFS:Hid (OwFo (((WY.setCell ⟨w1.heap.size,0,none⟩ (.int .i64 m1)).setCell ⟨w1.heap.size,1,none⟩ (.int .i64 m2)).setCell ⟨w1.heap.size,2,none⟩ (.slice A5 ms.length c5)) (w1.heap.size+1) u5 lo):=hDD (ownsRow_setCell_below (ownsRow_setCell_below (ownsRow_setCell_below OFY.out (by show w1.heap.size<_;omega) _) (by show w1.heap.size<_;omega) _) (by show w1.heap.size<_;omega) _)
   have ESF:Hid (∀j,((((WY.setCell ⟨w1.heap.size,0,none⟩ (.int .i64 m1)).setCell ⟨w1.heap.size,1,none⟩ (.int .i64 m2)).setCell ⟨w1.heap.size,2,none⟩ (.slice A5 ms.length c5))).frozen? ⟨w1.heap.size,j,none⟩=false):=hDD fun j=>by rw[World.frozen?_setCell,World.frozen?_setCell,World.frozen?_setCell];exact YF.out j
   have hsS:((((WY.setCell ⟨w1.heap.size,0,none⟩ (.int .i64 m1)).setCell ⟨w1.heap.size,1,none⟩ (.int .i64 m2)).setCell ⟨w1.heap.size,2,none⟩ (.slice A5 ms.length c5))).heap.size=WY.heap.size:=by simp
   clear z0 z1 z2 oe5 bY
   have E0:=hDD e0
   have E1:=hDD e1
   have E2:=hDD e2
   have E3:=hDD e3
   have E4:=hDD e4
   have HSS:=hDD hsS
   clear e0 e1 e2 a3 a4 hsS
   rw[hWY] at y0 y1 y2 yf0 yf1 yf2 a0 a1 a2 e3 e4
   have HWY:=hDD hWY
   clear hWY
   have hw5x:w1.heap.size≠w5.heap.size:=by omega
   have hw5y:w1.heap.size≠w5.heap.size+1:=by omega
   go_wp2_with (at_builtin;rw[←HWY.out];refine push_fold rfl (.tmp 28) (.tmp 30) rfl (w1.heap.size+1) _ lo (OFS.out.alloc _) rfl _ (fa,fb) rfl (fo_litN _ _ (by simp<;>omega) _ _ _) (by omega) (by simp<;>omega) ?_;intro v6 w6 o6 g6 p6;have O6:=hDD o6;have G6:=hDD g6;clear o6 g6 p6)
   have e0:=E0.out
   have e1:=E1.out
   have e2:=E2.out
   have bL:Below ((((WY.setCell ⟨w1.heap.size,0,none⟩ (.int .i64 m1)).setCell ⟨w1.heap.size,1,none⟩ (.int .i64 m2)).setCell ⟨w1.heap.size,2,none⟩ (.slice A5 ms.length c5))).heap.size (((WY.setCell ⟨w1.heap.size,0,none⟩ (.int .i64 m1)).setCell ⟨w1.heap.size,1,none⟩ (.int .i64 m2)).setCell ⟨w1.heap.size,2,none⟩ (.slice A5 ms.length c5)) ((((WY.setCell ⟨w1.heap.size,0,none⟩ (.int .i64 m1)).setCell ⟨w1.heap.size,1,none⟩ (.int .i64 m2)).setCell ⟨w1.heap.size,2,none⟩ (.slice A5 ms.length c5)).alloc (Obj.cells #[Value.int IntKind.i64 fa,Value.int IntKind.i64 fb] 123)):=(Below.refl _ _).alloc (Nat.le_refl _) _
   have hxL:w1.heap.size<((((WY.setCell ⟨w1.heap.size,0,none⟩ (.int .i64 m1)).setCell ⟨w1.heap.size,1,none⟩ (.int .i64 m2)).setCell ⟨w1.heap.size,2,none⟩ (.slice A5 ms.length c5))).heap.size:=by simp<;>omega
   have hxG:w1.heap.size<((((WY.setCell ⟨w1.heap.size,0,none⟩ (.int .i64 m1)).setCell ⟨w1.heap.size,1,none⟩ (.int .i64 m2)).setCell ⟨w1.heap.size,2,none⟩ (.slice A5 ms.length c5)).alloc (Obj.cells #[Value.int IntKind.i64 fa,Value.int IntKind.i64 fb] 123)).heap.size:=by simp<;>omega
   have hGO: ∀c,u5.ownBlock=some c→w1.heap.size+1≤c∧c<wk.heap.size:=fun c hc=>HOF.out.lt c hc
   have n0:=(grown_cellF (o:=0) G6.out hxG (fun c hc=>by have:=(hGO c hc).1;omega)).trans ((bL.cell (p:=⟨w1.heap.size,0,none⟩) hxL).trans e0)
   have n1:=(grown_cellF (o:=1) G6.out hxG (fun c hc=>by have:=(hGO c hc).1;omega)).trans ((bL.cell (p:=⟨w1.heap.size,1,none⟩) hxL).trans e1)
   have n2:=(grown_cellF (o:=2) G6.out hxG (fun c hc=>by have:=(hGO c hc).1;omega)).trans ((bL.cell (p:=⟨w1.heap.size,2,none⟩) hxL).trans e2)
   have nf: ∀j,w6.frozen? ⟨w1.heap.size,j,none⟩=false:=fun j=>(World.frozen?_of_block (G6.out.block w1.heap.size hxG fun e=>by have:=(hGO w1.heap.size e.symm).1;omega)).trans ((bL.frozen (p:=⟨w1.heap.size,j,none⟩) hxL).trans (ESF.out j))
   have NE:Hid (OwE w6 (w.heap.size+2) (.slice A5 ms.length c5) ms):=hDD (OwE.mono (OwE.keep OES.out fun b hb=>by
    have hb2:=OES.out.1.lt b hb
    exact(G6.out.block b (by have:=bL.size;omega) fun e=>by have:=(hGO b e.symm).2;omega).trans (bL.block b hb2.2)) (by omega))
   have NX:Hid (∀b,(Value.slice A5 ms.length c5).ownBlock=some b→b≠w1.heap.size):=hDD fun b hb=>by have:=(OES.out.1.lt b hb).1;omega
   have NB:Hid (Below w1.heap.size w1 w6):=hDD ((BS.out.trans (bL.mono (by omega))).grown G6.out (by omega) (fun c hc=>by have:=(hGO c hc).1;omega))
   have hs6:=G6.out.size
   go_roundw
   case rel=>exact⟨k+1,(m1,m2,ms),A5,c5,lo++ [(fa,fb)],by omega,by go_num,HGM.out,HFM.out,by have:=HM2.out;simp only;omega,by rw[List.length_append];simp only[List.length_singleton];omega,n0,n1,n2,nf,NE.out,NX.out,O6.out,NB.out,by omega⟩
   case measure=>simp[intOf];omega
end Go.Proofs.YteobmaambgmdbaaGreat
