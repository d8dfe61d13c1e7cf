/- Parts of the proof: CanS, Ren, RenQ, Tree, Read, AddP, CanG, GrS, RankS, Srt, Dup. -/
import Derived.Test.YtnjpoljbagfdnaaGreatV02
import Derived.Test.YtnjpoljbagfdnaaGreatV01
import Derived.Lib.SliceRun
import Derived.Shelf.SlSortCmp.WholeK
import Derived.Ground.SlsfProg
namespace Go.Proofs.YtnjpoljbagfdnaaGreat
set_option maxRecDepth 20000
set_option linter.unusedVariables false
set_option linter.unusedSimpArgs false
open Go.RowKit
def leafB (es:List EdD) (v:Nat):Bool:=decide (degL es v<2)|| !hasB (reachL es 0) v
def leafFrom (es:List EdD) (n:Nat):Nat→Nat→Int
 | 0,_=> -1
 | f+1,v=>if v<n then(if leafB es v then(v:Int) else leafFrom es n f (v+1)) else-1
def leafV (es:List EdD) (n:Nat):Int:=leafFrom es n (n-1) 1
theorem leafFrom_end (es:List EdD) (n f:Nat):leafFrom es n f n= -1:=by
 cases f with
 | zero=>rfl
 | succ f=>unfold leafFrom;rw[if_neg (Nat.lt_irrefl n)]
theorem leafFrom_hit {es:List EdD} {n v:Nat} (hv:v<n) (h:leafB es v=true):leafFrom es n (n-v) v=v:=by
 obtain⟨f,hf⟩: ∃f,n-v=f+1:=⟨n-v-1,by omega⟩
 rw[hf]
 unfold leafFrom
 rw[if_pos hv,if_pos h]
theorem leafFrom_miss {es:List EdD} {n v:Nat} (hv:v<n) (h:leafB es v=false):leafFrom es n (n-v) v=leafFrom es n (n-(v+1)) (v+1):=by
 obtain⟨f,hf⟩: ∃f,n-v=f+1:=⟨n-v-1,by omega⟩
 rw[hf]
 rw[leafFrom,if_pos hv,if_neg (by simp[h]),show n-(v+1)=f by omega]
set_option maxHeartbeats 2000000 in
theorem l8Leaf_any (v:Value) (g:GrD) (w:World) (h:ArgG w v g) (hg:grB g=true):
  Calls Tryz.prog 203 #[v] w fun e w'=>e= .returned (.int .i64 (leafV g.2.2 g.2.1.toNat))∧Below w.heap.size w w':=by
 have HG:=hDD h
 have HGR:=hDD hg
 obtain⟨_,hsz40,hl120,_⟩:=grB_parts hg
 have hu:inB 0 0 (wrap64 (g.2.1-1))=true:=by
  rw[IntWalk.wrap64_in _ ⟨by omega,by omega⟩]
  exact inB_iff.2 ⟨Int.le_refl _,by omega⟩
 have HU:=hDD hu
 obtain⟨N,hN⟩: ∃N:Nat,g.2.1=(N:Int):=⟨g.2.1.toNat,by omega⟩
 clear hu hg
 obtain⟨s,rfl,_,_,ha⟩:=h
 obtain⟨A,cap,rfl⟩:=ha.form
 obtain⟨r,n,es⟩:=g
 simp only at hN hsz40 hl120
 subst hN
 simp only[Int.toNat_natCast]
 have hN1:1≤N:=by omega
 have hN2:N≤40:=by omega
 obtain⟨R,hR⟩: ∃R,R=leafV es N:=⟨_,rfl⟩
 rw[←hR]
 have HR:=hDD hR
 clear hR ha hsz40
 have bx:Below w.heap.size w (w.alloc (Obj.cells #[Value.int IntKind.i64 r,Value.int IntKind.i64 N, .slice A es.length cap] 26)):=(by repeat(first | exact Below.refl _ _ | (refine Below.setCell ?_ (by first | omega | (simp<;>omega)) _) | (refine bel_drewN ?_ _) | (refine Below.drew ?_) | (refine Below.alloc ?_ (by first | omega | (simp<;>omega)) _)))
 have k0:(w.alloc (Obj.cells #[Value.int IntKind.i64 r,Value.int IntKind.i64 N, .slice A es.length cap] 26)).cell? ⟨w.heap.size,0,none⟩=some (.int .i64 r):=by simp[go_sem]
 have k1:(w.alloc (Obj.cells #[Value.int IntKind.i64 r,Value.int IntKind.i64 N, .slice A es.length cap] 26)).cell? ⟨w.heap.size,1,none⟩=some (.int .i64 N):=by simp[go_sem]
 have k2:(w.alloc (Obj.cells #[Value.int IntKind.i64 r,Value.int IntKind.i64 N, .slice A es.length cap] 26)).cell? ⟨w.heap.size,2,none⟩=some (.slice A es.length cap):=by simp[go_sem]
 have sx:w.heap.size<(w.alloc (Obj.cells #[Value.int IntKind.i64 r,Value.int IntKind.i64 N, .slice A es.length cap] 26)).heap.size:=by simp
 have BX:=hDD bx
 have K0:=hDD k0
 have K1:=hDD k1
 have K2:=hDD k2
 clear k0 k1 k2 bx
 go_enter Tryz.func203,Tryz.ntmps203
 go_wp2_with fail
 refine(reachedFrom_any _ (r,(N:Int),es) 0 _ (HG.out.below BX.out) HGR.out HU.out ⟨by decide,by decide⟩).mono ?_
 rintro e w1 ⟨rs,rfl,o1,b1⟩
 have HB:=hDD (BX.out.trans (b1.mono BX.out.size))
 have s1:=b1.size
 have hs0:w.heap.size<w1.heap.size:=by omega
 have q0:=(b1.cell (p:=⟨w.heap.size,0,none⟩) sx).trans K0.out
 have q1:=(b1.cell (p:=⟨w.heap.size,1,none⟩) sx).trans K1.out
 have q2:=(b1.cell (p:=⟨w.heap.size,2,none⟩) sx).trans K2.out
 have Q0:=hDD q0
 have Q1:=hDD q1
 have Q2:=hDD q2
 have O1:=hDD o1
 obtain⟨A1,cap1,rfl,_⟩:=o1.form
 have hrl:(reachL es 0).length≤100000:=by
  have:=iterR_len es 0 (es.length+1) hl120
  unfold reachL
  omega
 have HLB:Hid (∀v:Nat,leafB es v=(decide (degL es v<2)|| !hasB (reachL es 0) v)):=hDD fun v=>rfl
 clear q0 q1 q2 b1 o1 K0 K1 K2 s1 sx
 simp only at O1 hrl
 generalize reachL es 0=L at*
 go_wp2
 go_loopw [4] (fun i wr=> ∃k:Nat,1≤k∧k≤N∧i= .int .i64 k∧R=leafFrom es N (N-k) k∧Below w1.heap.size w1 wr) (fun i _=>N-(intOf i).toNat)
 case atStart=>exact⟨1,Nat.le_refl _,hN1,rfl,HR.out,Below.refl _ _⟩
 case round=>
  obtain⟨k,hk1,hk,rfl,hrem,hbel⟩:=hrel
  have HREM:=hDD hrem
  have HB2:=hDD hbel
  have HB3:=hDD (HB.out.trans (hbel.mono HB.out.size))
  have hsz:=hbel.size
  have p0:=(hbel.cell (p:=⟨w.heap.size,0,none⟩) hs0).trans Q0.out
  have p1:=(hbel.cell (p:=⟨w.heap.size,1,none⟩) hs0).trans Q1.out
  have p2:=(hbel.cell (p:=⟨w.heap.size,2,none⟩) hs0).trans Q2.out
  have OL:=hDD (O1.out.below hbel)
  clear hrem hbel
  by_cases hlt:k<N
  ·have hlti:(k:Int)<(N:Int):=by omega
   have hdle:degL es k≤240:=by have:=degL_le es k es.length;rw[List.take_length] at this;omega
   have LB:=hDD (HLB.out k)
   go_wp2_with fail
   refine(specDegreeOf_any _ (r,(N:Int),es) k _ (HG.out.below HB3.out) (by simp only;omega)).mono ?_
   rintro e w2 ⟨rfl,b2⟩
   have B2:=hDD b2
   have s2:=b2.size
   have OL2:=hDD (OL.out.below b2)
   clear b2
   simp only
   generalize degL es k=d at*
   by_cases hd:d<2
   ·have hdi:(d:Int)<2:=by omega
    have F:=hDD (leafFrom_hit hlt (by rw[LB.out];simp[hd]))
    go_wp2
    go_ret
    exact⟨ret_int (by rw[HREM.out,F.out]),HB3.out.trans (B2.out.mono (by omega))⟩
   ·have hdi: ¬(d:Int)<2:=by omega
    go_wp2_with fail
    refine(l4Has_any _ L k _ OL2.out.rd.arg (by omega)).mono ?_
    rintro e' w' ⟨rfl,rfl⟩
    rcases h1:hasB L k with _ | _
    ·have F:=hDD (leafFrom_hit hlt (by rw[LB.out,h1];simp))
     go_wp2
     go_ret
     exact⟨ret_int (by rw[HREM.out,F.out]),HB3.out.trans (B2.out.mono (by omega))⟩
    ·have F:=hDD (leafFrom_miss hlt (by rw[LB.out,h1];simp[hd]))
     go_wp2
     go_roundw
     case rel=>exact⟨k+1,by omega,by omega,by go_num,by rw[HREM.out,F.out],HB2.out.trans (B2.out.mono (by omega))⟩
     case measure=>simp[intOf];omega
  ·obtain rfl:k=N:=by omega
   have F:Hid (R= -1):=hDD (by rw[HREM.out,leafFrom_end])
   go_wp2
   go_ret
   exact⟨ret_int F.out.symm,HB3.out⟩
theorem cfold_take_ok {g:GrD} (hg:grB g=true) {u:Int} (ls:List Int) (k:Nat) {o:List Int} (h:OrdOk g.2.1 o):OrdOk g.2.1 ((ls.take k).foldl (cstep g.2.2 u) o):=cfold_ok hg _ h
theorem cstep_no {es:List EdD} {u x:Int} {o:List Int} (h: ¬0≤nextV es u x):cstep es u o x=o:=by unfold cstep;rw[if_neg h]
theorem cstep_in {es:List EdD} {u x:Int} {o:List Int} (h:0≤nextV es u x) (h1:hasB o (nextV es u x)=true):cstep es u o x=o:=by unfold cstep;rw[if_pos h,if_pos h1]
theorem cstep_new {es:List EdD} {u x:Int} {o:List Int} (h:0≤nextV es u x) (h1:hasB o (nextV es u x)=false):cstep es u o x=o++ [nextV es u x]:=by unfold cstep;rw[if_pos h,if_neg (by simp[h1])]
set_option maxHeartbeats 1000000 in
theorem specCanonicalOrder_any (v:Value) (g:GrD) (w:World) (h:ArgG w v g) (hf:foldB g=true):
  Calls Tryz.prog 214 #[v] w fun e w'=> ∃r,e= .returned r∧OwI w' w.heap.size r (canO g)∧Below w.heap.size w w':=by
 have HG:=hDD h
 obtain⟨hg,hfol⟩:=foldB_parts hf
 have HGR:=hDD hg
 have HF:=hDD hf
 have ONE:=hDD (steps_one hfol)
 obtain⟨hr13,hsz40,hl120,_⟩:=grB_parts hg
 obtain⟨A,cap,hv⟩: ∃A cap,v= .agg #[.int .i64 g.1, .int .i64 g.2.1, .slice A g.2.2.length cap]:=by
  obtain⟨s,hv,_,_,ha⟩:=h
  obtain⟨A,cap,rfl⟩:=ha.form
  exact⟨A,cap,hv⟩
 subst hv
 obtain⟨rn,hrn⟩: ∃rn:Nat,g.1=(rn:Int):=⟨g.1.toNat,by omega⟩
 have hrn1:1≤rn:=by omega
 have hrn3:rn≤3:=by omega
 have HCO:Hid (canO g=canF g.2.2 (lettersL rn) 41 0 [0]):=hDD (by unfold canO;rw[hrn];rfl)
 have OK0:=hDD (OrdOk.one (n:=g.2.1) (by omega))
 have OKS:Hid (∀(u:Int) (o:List Int) (k:Nat),OrdOk g.2.1 o→OrdOk g.2.1 (((lettersL rn).take k).foldl (cstep g.2.2 u) o)):=hDD fun u o k h=>cfold_take_ok hg _ k h
 have OKL:Hid (∀o:List Int,OrdOk g.2.1 o→o.length≤40):=hDD fun o h=>h.len (by omega) (by omega)
 have NV:Hid (∀u x,nextV g.2.2 u x= -1∨(0≤nextV g.2.2 u x∧nextV g.2.2 u x<41)):=hDD fun u x=>by
  rcases nextV_range hg u x with e | e
  ·exact .inl e
  ·exact .inr ⟨e.1,by omega⟩
 have HRN:=hDD hrn
 clear hg hf hfol h hrn
 have hr1:1≤g.1∧g.1≤3:=hr13
 clear hsz40 hl120 hr13
 have bx:Below w.heap.size w (w.alloc (Obj.cells #[Value.int IntKind.i64 g.1,Value.int IntKind.i64 g.2.1, .slice A g.2.2.length cap] 26)):=(by repeat(first | exact Below.refl _ _ | (refine Below.setCell ?_ (by first | omega | (simp<;>omega)) _) | (refine bel_drewN ?_ _) | (refine Below.drew ?_) | (refine Below.alloc ?_ (by first | omega | (simp<;>omega)) _)))
 have k0:(w.alloc (Obj.cells #[Value.int IntKind.i64 g.1,Value.int IntKind.i64 g.2.1, .slice A g.2.2.length cap] 26)).cell? ⟨w.heap.size,0,none⟩=some (.int .i64 g.1):=by simp[go_sem]
 have k1:(w.alloc (Obj.cells #[Value.int IntKind.i64 g.1,Value.int IntKind.i64 g.2.1, .slice A g.2.2.length cap] 26)).cell? ⟨w.heap.size,1,none⟩=some (.int .i64 g.2.1):=by simp[go_sem]
 have k2:(w.alloc (Obj.cells #[Value.int IntKind.i64 g.1,Value.int IntKind.i64 g.2.1, .slice A g.2.2.length cap] 26)).cell? ⟨w.heap.size,2,none⟩=some (.slice A g.2.2.length cap):=by simp[go_sem]
 have sx:w.heap.size<(w.alloc (Obj.cells #[Value.int IntKind.i64 g.1,Value.int IntKind.i64 g.2.1, .slice A g.2.2.length cap] 26)).heap.size:=by simp
 have BX:=hDD bx
 have K0:=hDD k0
 have K1:=hDD k1
 have K2:=hDD k2
 clear k0 k1 k2 bx
 go_enter Tryz.func214,Tryz.ntmps214
 go_wp2_with fail
 have hfo:=specIsFolded_any _ g _ (HG.out.below BX.out)
 rw[HF.out] at hfo
 have HFO:=hDD hfo
 clear hfo
 refine HFO.out.mono ?_
 rintro e w1 ⟨rfl,b1⟩
 clear HFO
 have HB:=hDD (BX.out.trans (b1.mono BX.out.size))
 have s1:=b1.size
 have hs0:w.heap.size<w1.heap.size:=by omega
 have q0:=(b1.cell (p:=⟨w.heap.size,0,none⟩) sx).trans K0.out
 have q1:=(b1.cell (p:=⟨w.heap.size,1,none⟩) sx).trans K1.out
 have q2:=(b1.cell (p:=⟨w.heap.size,2,none⟩) sx).trans K2.out
 clear b1 K0 K1 K2 s1 sx
 go_wp2_with fail
 have hb2:Below w1.heap.size w1 (w1.alloc (Obj.cells #[Value.int IntKind.i64 0] 3)):=(Below.refl _ _).alloc (Nat.le_refl _) _
 have o2:OwI (w1.alloc (Obj.cells #[Value.int IntKind.i64 0] 3)) w1.heap.size (.slice (some ⟨w1.heap.size,0,none⟩) 1 1) [0]:=OwI_lit w1 [0] (fun x hx=>by simp at hx;subst hx;exact⟨by decide,by decide⟩) (by simp) (Nat.le_refl _)
 have s2:w1.heap.size<(w1.alloc (Obj.cells #[Value.int IntKind.i64 0] 3)).heap.size:=by simp
 generalize w1.alloc (Obj.cells #[Value.int IntKind.i64 0] 3)=w2 at hb2 o2 s2⊢
 have hle:=l5Letters_any rn w2 (by omega)
 rw[←HRN.out] at hle
 have HLE:=hDD hle
 clear hle
 refine HLE.out.mono ?_
 rintro e w3 ⟨rl,rfl,ol,b3⟩
 have s3:=b3.size
 have hb13:=hb2.trans (b3.mono hb2.size)
 have HB3:=hDD (HB.out.trans (hb13.mono HB.out.size))
 have Q0:=hDD ((hb13.cell (p:=⟨w.heap.size,0,none⟩) hs0).trans q0)
 have Q1:=hDD ((hb13.cell (p:=⟨w.heap.size,1,none⟩) hs0).trans q1)
 have Q2:=hDD ((hb13.cell (p:=⟨w.heap.size,2,none⟩) hs0).trans q2)
 have O2:=hDD ((o2.below b3).mono (base':=w.heap.size+1) (by omega))
 have hll:=lettersL_len rn
 generalize lettersL rn=ls at*
 obtain⟨Al,capl,rfl,hcl,hml,_,hfl⟩:=ol.form
 obtain⟨bl,rfl,hbl1,hbl2⟩:=hfl (by omega)
 unfold maxLen at hml
 have OL:=hDD ol.rd
 have hblw:bl≠w1.heap.size:=by omega
 clear ol b3 hb2 o2 hb13 q0 q1 q2 hfl HLE
 go_wp2
 go_loopw [3,5] (fun out i wo=> ∃(k:Nat) (o:List Int),k≤o.length∧i= .int .i64 k∧OrdOk g.2.1 o∧canO g=canF g.2.2 ls (41-k) k o∧OwI wo (w.heap.size+1) out o∧RdI wo (.slice (some ⟨bl,0,none⟩) ls.length capl) ls∧out.ownBlock≠some bl∧bl<wo.heap.size∧Below (w.heap.size+1) w3 wo) (fun _ i _=>41-(intOf i).toNat)
 case atStart=>exact⟨0,[0],by simp,rfl,OK0.out,HCO.out,O2.out,OL.out,by simp[Value.ownBlock];omega,hbl2,Below.refl _ _⟩
 case round=>
  obtain⟨k,o,hk,rfl,hok,hco,hown,hrd,hne,hblt,hbel⟩:=hrel
  obtain⟨wo,rfl⟩: ∃wo:World,wo=wr:=⟨_,rfl⟩
  have hol:=OKL.out o hok
  have HOK:=hDD hok
  have HC:=hDD hco
  have HO:=hDD hown
  have HRD:=hDD hrd
  have HNE:=hDD hne
  have HB2:=hDD hbel
  have hsz:=hbel.size
  obtain⟨A1,cap1,rfl,_⟩:=hown.form
  clear hok hco hown hrd hne hbel
  by_cases hlt:k<o.length
  ·obtain⟨u,hu⟩: ∃u,o[k]? =some u:=⟨o[k],by simp⟩
   have hku:o[k]=u:=by rw[List.getElem?_eq_getElem hlt] at hu;injection hu
   have HCF:Hid (canO g=canF g.2.2 ls (41-(k+1)) (k+1) (ls.foldl (cstep g.2.2 u) o)):=hDD (by
    rw[HC.out,show 41-k=(41-(k+1))+1 by omega,canF_step _ _ _ _ _ hlt,hku])
   have HPU:Hid (∀m:Nat,(((ls.take m).foldl (cstep g.2.2 u) o))[k]? =some u):=hDD fun m=>cfold_prefix _ _ _ _ _ _ hu
   have HSU:Hid (∀(m:Nat) (hm:m<ls.length),(ls.take (m+1)).foldl (cstep g.2.2 u) o=cstep g.2.2 u ((ls.take m).foldl (cstep g.2.2 u) o) ls[m]):=hDD fun m hm=>cfold_succ _ _ _ _ _ hm
   have HOKm:Hid (∀m:Nat,OrdOk g.2.1 ((ls.take m).foldl (cstep g.2.2 u) o)):=hDD fun m=>OKS.out u o m HOK.out
   clear hu hku
   go_wp2
   go_loopw [3,6] (fun out j wr=> ∃m:Nat,m≤ls.length∧j= .int .i64 m∧OwI wr (w.heap.size+1) out ((ls.take m).foldl (cstep g.2.2 u) o)∧RdI wr (.slice (some ⟨bl,0,none⟩) ls.length capl) ls∧out.ownBlock≠some bl∧bl<wr.heap.size∧Below (w.heap.size+1) wo wr) (fun _ j _=>ls.length-(intOf j).toNat)
   case atStart=>exact⟨0,Nat.zero_le _,rfl,HO.out,HRD.out,HNE.out,hblt,Below.refl _ _⟩
   case round=>
    obtain⟨m,hm1,rfl,hown,hrd,hne,hblr,hbi⟩:=hrel
    have hsi:=hbi.size
    have HBI:=hDD hbi
    have HB4:=hDD (HB3.out.trans ((HB2.out.trans hbi).mono (by omega)))
    have hws:w.heap.size<wr.heap.size:=by omega
    have hbb:=HB2.out.trans hbi
    have p0:=(hbb.cell (p:=⟨w.heap.size,0,none⟩) (show w.heap.size<w.heap.size+1 by omega)).trans Q0.out
    have p1:=(hbb.cell (p:=⟨w.heap.size,1,none⟩) (show w.heap.size<w.heap.size+1 by omega)).trans Q1.out
    have p2:=(hbb.cell (p:=⟨w.heap.size,2,none⟩) (show w.heap.size<w.heap.size+1 by omega)).trans Q2.out
    have HRR:=hDD hrd
    have HNR:=hDD hne
    clear hbi hbb
    by_cases hlt2:m<ls.length
    ·have hokm:=HOKm.out m
     have hlm:=OKL.out _ hokm
     have hpu:=HPU.out m
     have HS:=hDD (HSU.out m hlt2)
     obtain⟨_,_,hAl,_,hcl⟩:=hrd.at (by omega)
     obtain⟨rfl,rfl⟩:bl=_∧0=_:=by simpa using hAl
     have c0:=hcl m hlt2
     rw[Nat.zero_add] at c0
     generalize ls[m]=x at c0 HS
     generalize (ls.take m).foldl (cstep g.2.2 u) o=om at*
     have hkm:k<om.length:=(List.getElem?_eq_some_iff.1 hpu).1
     have hkg:om[k]=u:=by rw[List.getElem?_eq_getElem hkm] at hpu;injection hpu
     have HOM:=hDD hown
     obtain⟨A2,cap2,rfl,_,_,_,hf2⟩:=hown.form
     obtain⟨b2,rfl,hb21,hb22⟩:=hf2 (by omega)
     have d0:=hown.cellAt k hkm
     rw[hkg] at d0
     have NX:=hDD (NV.out u x)
     have N0:=hDD (cstep_no (es:=g.2.2) (u:=u) (x:=x) (o:=om))
     have N1:=hDD (cstep_in (es:=g.2.2) (u:=u) (x:=x) (o:=om))
     have N2:=hDD (cstep_new (es:=g.2.2) (u:=u) (x:=x) (o:=om))
     have HNX:=hDD (fun W (h:ArgG W (.agg #[.int .i64 g.1, .int .i64 g.2.1, .slice A g.2.2.length cap]) g)=>specNextVertex_any _ g u x W h (ONE.out u x))
     clear hcl hAl hown hrd hf2 hpu hkg hokm
     go_wp2_with fail
     have f0:=BelW.cell p0 hws
     have f1:=BelW.cell p1 hws
     have f2:=BelW.cell p2 hws
     have f3:=BelW.cell c0 hblr
     have f4:=BelW.cell d0 hb22
     (refine wp_region_quiet_bel (by kernel_rfl) (by kernel_rfl) ?_;(repeat(go_big_quiet_step (first | (go_at_call 86;exact Calls.bel_of (HNX.out _ (HG.out.below (HB4.out.trans ((BelW.h _).mono (by omega)))))))));refine wpQuiet_nil ?_;intro wq hw';obtain⟨pq,hw''⟩:=hw';have bq:=pq.h;rw[←hw''] at bq;clear hw'' pq)
     clear f0 f1 f2 f3 f4 p0 p1 p2 c0 d0
     have sq:=bq.size
     have HQ:=hDD (HBI.out.trans (bq.mono (by omega)))
     have HOQ:=hDD (HOM.out.below bq)
     have HRQ:=hDD (HRR.out.below bq)
     clear bq
     generalize nextV g.2.2 u x=y at*
     rcases NX.out with hy | hy
     ·subst hy
      have F:=hDD (N0.out (by omega))
      go_wp2
      go_roundw
      case rel=>exact⟨m+1,by omega,by go_num,by rw[HS.out,F.out];exact HOQ.out,HRQ.out,HNR.out,by omega,HQ.out⟩
      case measure=>simp[intOf];omega
     ·have hy0:(0:Int)≤y:=hy.1
      have hy41:y<41:=hy.2
      go_wp2_with fail
      refine(l4Has_any _ om y _ HOQ.out.rd.arg (by omega)).mono ?_
      rintro e' w' ⟨rfl,rfl⟩
      rcases h1:hasB om y with _ | _
      ·have F:=hDD (N2.out hy0 h1)
       have HY:Hid (I64 y):=hDD ⟨by omega,by omega⟩
       go_wp2_with (at_builtin;refine push_int rfl (.tmp 46) (.tmp 48) rfl _ _ _ (OwI.alloc HOQ.out _) rfl _ _ rfl (cell_new1 _ _ _) HY.out (by first | omega | (simp<;>omega)) (by first | omega | (simp<;>omega)) ?_;intro v9 wv9 o9 g9 p9)
       have hz9:=g9.size
       simp at hz9
       go_roundw
       case rel=>
        refine⟨m+1,by omega,by go_num,by rw[HS.out,F.out];exact o9,(HRQ.out.alloc _).grown g9 (fun b hb hb'=> ?_),fun e=> ?_,by omega,bel_push HQ.out (by omega) HOQ.out.1 (Nat.le_refl _) g9⟩
        ·simp[Value.ownBlock] at hb hb'
         have:=HNR.out
         simp[Value.ownBlock] at this
         omega
        ·rcases p9 with p9 | p9
         ·rw[p9] at e;exact HNR.out e
         ·rw[p9] at e;simp at e;omega
       case measure=>simp[intOf];omega
      ·have F:=hDD (N1.out hy0 h1)
       go_wp2
       go_roundw
       case rel=>exact⟨m+1,by omega,by go_num,by rw[HS.out,F.out];exact HOQ.out,HRQ.out,HNR.out,by omega,HQ.out⟩
       case measure=>simp[intOf];omega
    ·obtain rfl:m=ls.length:=by omega
     rw[List.take_length] at hown
     have hokm:=HOKm.out ls.length
     rw[List.take_length] at hokm
     have HOKF:=hDD hokm
     have HOM:=hDD hown
     have hlen:k+1≤(ls.foldl (cstep g.2.2 u) o).length:=by
      have:=HPU.out ls.length
      rw[List.take_length] at this
      have:=(List.getElem?_eq_some_iff.1 this).1
      omega
     obtain⟨A2,cap2,rfl,_⟩:=hown.form
     clear hown hrd hne hokm p0 p1 p2
     go_wp2
     go_roundw
     case rel=>exact⟨k+1,_,hlen,by go_num,HOKF.out,HCF.out,HOM.out,HRR.out,HNR.out,hblr,HB2.out.trans HBI.out⟩
     case measure=>simp[intOf];omega
  ·obtain rfl:k=o.length:=by omega
   have F:Hid (canO g=o):=hDD (by rw[HC.out,canF_end])
   go_wp2
   go_ret
   exact⟨_,rfl,by rw[F.out];exact HO.out.mono (by omega),HB3.out.trans (HB2.out.mono (by omega))⟩
end Go.Proofs.YtnjpoljbagfdnaaGreat
namespace Go.Proofs.YtnjpoljbagfdnaaGreat
set_option maxRecDepth 20000
set_option linter.unusedVariables false
set_option linter.unusedSimpArgs false
open Go.RowKit
def plv:List Int→Int→Int
 | [],_=>0
 | u::o,v=>if u=v then 1 else if plv o v=0 then 0 else plv o v+1
theorem plv_range (o:List Int) (v:Int):0≤plv o v∧plv o v≤o.length:=by
 induction o with
 | nil=>simp[plv]
 | cons u o ih=>
   unfold plv
   simp only[List.length_cons]
   split
   ·omega
   ·split<;>omega
theorem plv_zero {o:List Int} {v:Int}:plv o v=0↔v∉o:=by
 induction o with
 | nil=>simp[plv]
 | cons u o ih=>
   unfold plv
   have:=plv_range o v
   split
   ·rename_i h
    simp[h]
   ·rename_i h
    rw[List.mem_cons]
    split
    ·rename_i h0
     constructor
     ·intro _
      rintro(e | e)
      ·exact h e.symm
      ·exact ih.1 h0 e
     ·intro _;rfl
    ·rename_i h0
     constructor
     ·intro e;omega
     ·intro hn
      exact absurd (ih.2 fun e=>hn (.inr e)) h0
theorem plv_snoc {o:List Int} {u:Int} (hu:u∉o) (v:Int):plv (o++ [u]) v=if v=u then(o.length:Int)+1 else plv o v:=by
 induction o with
 | nil=>
   simp only[List.nil_append,plv,List.length_nil]
   by_cases h:u=v
   ·simp[h]
   ·have h': ¬v=u:=fun e=>h e.symm
    simp[h,h']
 | cons a o ih=>
   have hu':u∉o:=fun e=>hu (by simp[e])
   have hau:a≠u:=fun e=>hu (by simp[e])
   have ih:=ih hu'
   simp only[List.cons_append,plv,List.length_cons]
   by_cases h:a=v
   ·rw[if_pos h,if_pos h,if_neg (fun e=>hau (h.trans e))]
   ·rw[if_neg h,if_neg h,ih]
    by_cases h2:v=u
    ·rw[if_pos h2,if_pos h2,if_neg (by omega)]
     omega
    ·rw[if_neg h2,if_neg h2]
theorem plv_inj {o:List Int} {v v':Int} (h:plv o v=plv o v') (h0:plv o v≠0):v=v':=by
 induction o with
 | nil=>exact absurd rfl h0
 | cons a o ih=>
   have r1:=plv_range o v
   have r2:=plv_range o v'
   unfold plv at h h0
   by_cases e1:a=v
   ·by_cases e2:a=v'
    ·rw[←e1,←e2]
    ·rw[if_pos e1,if_neg e2] at h
     split at h<;>omega
   ·by_cases e2:a=v'
    ·rw[if_neg e1,if_pos e2] at h
     split at h<;>omega
    ·rw[if_neg e1,if_neg e2] at h
     rw[if_neg e1] at h0
     by_cases z1:plv o v=0
     ·rw[if_pos z1] at h0;exact absurd rfl h0
     ·by_cases z2:plv o v'=0
      ·rw[if_neg z1,if_pos z2] at h;omega
      ·rw[if_neg z1,if_neg z2] at h
       exact ih (by omega) z1
def plc (n:Nat) (o:List Int) (d:Int):List Int:=(List.range n).map fun v=>plv o (v:Nat)-d
theorem plc_len (n:Nat) (o:List Int) (d:Int):(plc n o d).length=n:=by simp[plc]
theorem plc_get (n:Nat) (o:List Int) (d:Int) (v:Nat) (h:v<n):(plc n o d)[v]'(by rw[plc_len];exact h)=plv o v-d:=by simp[plc]
theorem plc_nil (n:Nat) (d:Int):plc n [] d=List.replicate n (-d):=by
 apply List.ext_getElem?
 intro i
 simp only[plc,plv,List.getElem?_map,List.getElem?_replicate]
 by_cases h:i<n
 ·simp[h]
 ·simp[h]
theorem plc_succ (n:Nat) (o:List Int) (d:Int) (k:Nat) (hk:k<o.length) (hd:o.Nodup) (u:Nat) (hu:o[k]=(u:Int)):
  (plc n (o.take k) d).set u ((k:Int)+1-d)=plc n (o.take (k+1)) d:=by
 have hn:(u:Int)∉o.take k:=by
  rw[←hu]
  intro hm
  obtain⟨j,hj,e⟩:=List.getElem_of_mem hm
  rw[List.getElem_take] at e
  have hjk:j<k:=by rw[List.length_take] at hj;omega
  have:=(List.pairwise_iff_getElem.1 hd) j k (by omega) hk hjk
  exact this e
 rw[List.take_succ_eq_append_getElem hk,hu]
 have hl:(o.take k).length=k:=by rw[List.length_take];omega
 apply List.ext_getElem?
 intro i
 rw[List.getElem?_set]
 simp only[plc,List.getElem?_map,List.length_map,List.length_range]
 by_cases hi:i<n
 ·simp only[List.getElem?_range hi,Option.map_some]
  rw[plv_snoc hn,hl]
  by_cases e:u=i
  ·subst e
   simp[hi]
  ·rw[if_neg e,if_neg (by omega)]
 ·simp only[List.getElem?_eq_none (show(List.range n).length≤i by simp;omega),Option.map_none]
  split
  ·rename_i e
   rw[if_neg (by omega)]
  ·rfl
def rnE (o:List Int) (e:EdD):Option EdD:=if 0<plv o e.1∧0<plv o e.2.2 then some (plv o e.1-1,e.2.1,plv o e.2.2-1) else none
def rnL (es:List EdD) (o:List Int):List EdD:=es.filterMap (rnE o)
def rnG (g:GrD) (o:List Int):GrD:=(g.1,o.length,srt cmpE (rnL g.2.2 o))
theorem rnL_succ (es:List EdD) (o:List Int) (k:Nat) (h:k<es.length):rnL (es.take (k+1)) o=rnL (es.take k) o++(rnE o es[k]).toList:=by
 unfold rnL
 rw[List.take_succ_eq_append_getElem h,List.filterMap_append]
 congr 1
theorem rnL_len (es:List EdD) (o:List Int):(rnL es o).length≤es.length:=List.length_filterMap_le _ _
theorem rnL_nodup {es:List EdD} (o:List Int) (h:es.Nodup):(rnL es o).Nodup:=by
 unfold rnL
 unfold List.Nodup at*
 rw[List.pairwise_filterMap]
 refine h.imp fun {a b} hab x hx y hy e=>hab ?_
 subst e
 unfold rnE at hx hy
 split at hx
 ·rename_i ha
  split at hy
  ·rename_i hb
   injection hx with hx
   injection hy with hy
   rw[←hy] at hx
   injection hx with e1 hx
   injection hx with e2 e3
   have i1:=plv_inj (o:=o) (v:=a.1) (v':=b.1) (by omega) (by omega)
   have i3:=plv_inj (o:=o) (v:=a.2.2) (v':=b.2.2) (by omega) (by omega)
   obtain⟨_,_,_⟩:=a
   obtain⟨_,_,_⟩:=b
   simp only at i1 e2 i3
   rw[i1,e2,i3]
  ·cases hy
 ·cases hx
theorem gr_nodup {g:GrD} (h:grB g=true):Srt cmpE g.2.2∧g.2.2.Nodup:=by
 obtain⟨_,_,_,h4⟩:=grB_parts h
 have adj: ∀k (hk:k+1<g.2.2.length),cmpE g.2.2[k] g.2.2[k+1]<0:=fun k hk=>by
  have:=h4 (k+1) hk
  rw[okE_pos (by omega) hk,Bool.and_eq_true] at this
  have h2:=this.2
  simp only[Bool.not_eq_true',decide_eq_false_iff_not,Nat.add_sub_cancel] at h2
  omega
 have all: ∀d k (hk:k+d+1<g.2.2.length),cmpE (g.2.2[k]'(by omega)) g.2.2[k+d+1]<0:=by
  intro d
  induction d with
  | zero=>intro k hk;exact adj k hk
  | succ d ih=>intro k hk;exact cmpE_ord.trans (ih k (by omega)) (adj (k+d+1) hk)
 have hs:Srt cmpE g.2.2:=by
  unfold Srt
  rw[List.pairwise_iff_getElem]
  intro i j hi hj hij
  have:=all (j-i-1) i (by omega)
  have e:i+(j-i-1)+1=j:=by omega
  simpa only[e] using this
 refine⟨hs,hs.imp fun {a b} hab e=> ?_⟩
 rw[e] at hab
 exact cmpE_ord.irrefl b hab
theorem grown_bel {w w':World} {row:Option Nat} (h:Below w.heap.size w w'):w.grownBy w' row:=⟨h.os,h.tape,h.output,h.size,fun b hb _=>h.block b hb⟩
theorem grown_cell {w w':World} {x b o:Nat} (h:w.grownBy w' (some x)) (hb:b<w.heap.size) (hne:b≠x):w'.cell? ⟨b,o,none⟩=w.cell? ⟨b,o,none⟩:=
 World.cell?_of_block (w:=w) (h.block b hb fun e=>hne (by injection e))
theorem grown_frozen {w w':World} {x b o:Nat} (h:w.grownBy w' (some x)) (hb:b<w.heap.size) (hne:b≠x):w'.frozen? ⟨b,o,none⟩=w.frozen? ⟨b,o,none⟩:=
 World.frozen?_of_block (w:=w) (h.block b hb fun e=>hne (by injection e))
theorem cell_set_other (w:World) (b o b' o':Nat) (u:Value) (h:b≠b'):(w.setCell ⟨b',o',none⟩ u).cell? ⟨b,o,none⟩=w.cell? ⟨b,o,none⟩:=
 World.cell?_of_block (w:=w) (Below.heap_setCell w _ u b h)
set_option maxHeartbeats 1000000 in
theorem specRenumber_anyN (v vo:Value) (g:GrD) (o:List Int) (w:World) (h:ArgG w v g) (ho:RdI w vo o) (hg:grB g=true) (hok:OrdN g.2.1 o):
  Calls Tryz.prog 163 #[v,vo] w fun e w'=> ∃r,e= .returned (.tuple #[r, .bool true])∧OwG w' w.heap.size r (rnG g o)∧Below w.heap.size w w':=by
 have HG:=hDD h
 have HGR:=hDD hg
 have HOK:=hDD hok
 have HOR:=hDD ho
 obtain⟨hr13,hsz40,hl120,_⟩:=grB_parts hg
 have HED:=hDD (fun e he=>edge_of_gr hg (e:=e) he)
 obtain⟨N,hN⟩: ∃N:Nat,g.2.1=(N:Int):=⟨g.2.1.toNat,by omega⟩
 have hol:o.length≤N:=nodup_len N o hok.1 fun y hy=>by have:=hok.2.1 y hy;omega
 have hol1:1≤o.length:=hok.2.2
 have HRANGE:Hid (∀k (hk:k<o.length),∃u:Nat,o[k]=(u:Int)∧u<N):=hDD fun k hk=>by
  have:=hok.2.1 o[k] (by simp)
  exact⟨o[k].toNat,by omega,by omega⟩
 have HND:=hDD hok.1
 clear hg hok h
 obtain⟨r,n,es⟩:=g
 simp only at hN hr13 hsz40 hl120
 subst hN
 have hN1:1≤N:=by omega
 have hN2:N≤40:=by omega
 have hN3:(N:Int)≤40:=by omega
 clear hsz40
 obtain⟨A,cap,rfl,HE⟩: ∃A cap,v= .agg #[.int .i64 r, .int .i64 N, .slice A es.length cap]∧Hid (ArgE w (.slice A es.length cap) es):=by
  obtain⟨s,hv,_,_,ha⟩:=HG.out
  obtain⟨A,cap,rfl⟩:=ha.form
  exact⟨A,cap,hv,hDD ha⟩
 obtain⟨Ao,capo,rfl,hco,hmo,_⟩:=ho.arg
 have hbndE:es.length≤cap∧cap≤maxLen:=by
  obtain⟨_,_,hv,h1,h2,_⟩:=HE.out
  injection hv with _ _ e3
  subst e3
  exact⟨h1,h2⟩
 obtain⟨hcap,hm⟩:=hbndE
 unfold maxLen at hmo hm
 clear ho
 have bx:Below w.heap.size w (((w.alloc (Obj.cells #[Value.int IntKind.i64 r,Value.int IntKind.i64 N, .slice A es.length cap] 26)).alloc (Obj.cells #[Value.int IntKind.i64 0,Value.int IntKind.i64 0, .slice none 0 0] 26)).alloc (Obj.cells #[Value.int IntKind.i64 r,Value.int IntKind.i64 o.length, .slice none 0 0] 26)):=(by repeat(first | exact Below.refl _ _ | (refine Below.setCell ?_ (by first | omega | (simp<;>omega)) _) | (refine bel_drewN ?_ _) | (refine Below.drew ?_) | (refine Below.alloc ?_ (by first | omega | (simp<;>omega)) _)))
 go_enter Tryz.func163,Tryz.ntmps163
 go_wp2_with fail
 obtain⟨W0,hW0⟩: ∃W,W=((w.alloc (Obj.cells #[Value.int IntKind.i64 r,Value.int IntKind.i64 N, .slice A es.length cap] 26)).alloc (Obj.cells #[Value.int IntKind.i64 0,Value.int IntKind.i64 0, .slice none 0 0] 26)).alloc (Obj.cells #[Value.int IntKind.i64 r,Value.int IntKind.i64 o.length, .slice none 0 0] 26):=⟨_,rfl⟩
 rw[←hW0] at bx⊢
 have hsW:W0.heap.size=w.heap.size+3:=by rw[hW0];simp
 have b0:W0.cell? ⟨w.heap.size,0,none⟩=some (.int .i64 r):=by rw[hW0];simp[go_sem]
 have b1:W0.cell? ⟨w.heap.size,1,none⟩=some (.int .i64 N):=by rw[hW0];simp[go_sem]
 have b2:W0.cell? ⟨w.heap.size,2,none⟩=some (.slice A es.length cap):=by rw[hW0];simp[go_sem]
 have r0: ∃u,W0.cell? ⟨w.heap.size+1,0,none⟩=some u:=⟨.int .i64 0,by rw[hW0];simp[go_sem]⟩
 have r1: ∃u,W0.cell? ⟨w.heap.size+1,1,none⟩=some u:=⟨.int .i64 0,by rw[hW0];simp[go_sem]⟩
 have r2: ∃u,W0.cell? ⟨w.heap.size+1,2,none⟩=some u:=⟨.slice none 0 0,by rw[hW0];simp[go_sem]⟩
 have rf: ∀j,W0.frozen? ⟨w.heap.size+1,j,none⟩=false:=fun j=>by rw[hW0];simp[go_sem]
 have x0:W0.cell? ⟨w.heap.size+1+1,0,none⟩=some (.int .i64 r):=by rw[hW0];simp[go_sem]
 have x1:W0.cell? ⟨w.heap.size+1+1,1,none⟩=some (.int .i64 o.length):=by rw[hW0];simp[go_sem]
 have x2:W0.cell? ⟨w.heap.size+1+1,2,none⟩=some (.slice none 0 0):=by rw[hW0];simp[go_sem]
 have xf: ∀j,W0.frozen? ⟨w.heap.size+1+1,j,none⟩=false:=fun j=>by rw[hW0];simp[go_sem]
 clear hW0
 have BX:=hDD bx
 have B0:=hDD b0
 have B1:=hDD b1
 have B2:=hDD b2
 have R0:=hDD r0
 have R1:=hDD r1
 have R2:=hDD r2
 have RF:=hDD rf
 have X0:=hDD x0
 have X1:=hDD x1
 have X2:=hDD x2
 have XF:=hDD xf
 have hgr:=specIsGraph_any _ (r,(N:Int),es) W0 (HG.out.below bx)
 rw[HGR.out] at hgr
 have HGRC:=hDD hgr
 clear hgr b0 b1 b2 r0 r1 r2 rf x0 x1 x2 xf
 refine HGRC.out.mono ?_
 rintro e w1 ⟨rfl,bW⟩
 clear HGRC
 have q1:=(bW.cell (p:=⟨w.heap.size,1,none⟩) (show w.heap.size<W0.heap.size by omega)).trans B1.out
 have s1:=bW.size
 have HB1:=hDD bW
 clear bW bx
 have g0:((o.length:Int)==0)=false:=by rw[beq_eq_false_iff_ne];omega
 have g1: ¬(N:Int)<(o.length:Int):=by omega
 obtain⟨i0,hi0,hz0,hz1,hz2⟩:=info_parts int_info
 go_wp2_with (at_make;refine wpList_make_full _ rfl _ _ 37 rfl w1.heap.size 3 i0 (.int .i64 0) 1 Tryz.underlying37 hi0 hz0 hz1 _ _ _ _ N rfl rfl rfl rfl (by rw[hz2];omega) (by unfold maxLen;omega) (Nat.le_refl _) ?_)
 intro w2 hown0 hgrow0
 have own0:OwI w2 w1.heap.size (.slice (some ⟨w1.heap.size,0,none⟩) N N) (plc N (o.take 0) 0):=by
  refine⟨?_,fun y hy=> ?_⟩
  ·rw[List.take_zero,plc_nil,List.length_replicate]
   have:ints (List.replicate N (-0))=List.replicate N (Value.int .i64 0):=by simp[ints]
   rw[this]
   simpa[toList_madeCells_one] using hown0
  ·rw[List.take_zero,plc_nil] at hy
   obtain⟨_,rfl⟩:=List.mem_replicate.1 hy
   exact⟨by decide,by decide⟩
 have HO0:=hDD own0
 have HB2:=hDD (HB1.out.grown hgrow0 s1 (fun k h=>by cases h))
 clear own0 hown0 hgrow0 q1 g0 g1
 go_wp2
 go_loopw [8] (fun i wr=> ∃k:Nat,k≤o.length∧i= .int .i64 k∧OwI wr w1.heap.size (.slice (some ⟨w1.heap.size,0,none⟩) N N) (plc N (o.take k) 0)∧Below W0.heap.size W0 wr) (fun i _=>o.length-(intOf i).toNat)
 case atStart=>exact⟨0,Nat.zero_le _,rfl,HO0.out,HB2.out⟩
 case round=>
  obtain⟨k,hk,rfl,hown,hbel⟩:=hrel
  have HB3:=hDD hbel
  have HBw:=hDD (BX.out.trans (hbel.mono (by omega)))
  have hsz:=hbel.size
  have hP:=(hown.1.lt w1.heap.size rfl).2
  have hq1:=(hbel.cell (p:=⟨w.heap.size,1,none⟩) (show w.heap.size<W0.heap.size by omega)).trans B1.out
  have HO:=hDD hown
  clear hbel
  by_cases hlt:k<o.length
  ·obtain⟨bo,offo,rfl,hbo,hco2⟩:=(HOR.out.below HBw.out).at (by omega)
   have c0:=hco2 k hlt
   obtain⟨u,hu,huN⟩:=HRANGE.out k hlt
   rw[hu] at c0
   have hcur:=hown.cellAt u (by rw[plc_len];exact huN)
   have hz:(plc N (o.take k) 0)[u]'(by rw[plc_len];exact huN)=0:=by
    rw[plc_get _ _ _ _ huN,plv_zero.2,Int.sub_zero]
    intro hm
    rw[←hu] at hm
    obtain⟨j,hj,e⟩:=List.getElem_of_mem hm
    rw[List.getElem_take] at e
    have hjk:j<k:=by rw[List.length_take] at hj;omega
    exact(List.pairwise_iff_getElem.1 HND.out) j k (by omega) hlt hjk e
   rw[hz] at hcur
   have hfz:=hown.free u
   have HSET:=hDD (hown.set u ((k:Int)+1) ⟨by omega,by omega⟩)
   have HSUC:Hid ((plc N (o.take k) 0).set u ((k:Int)+1)=plc N (o.take (k+1)) 0):=hDD (by
    have:=plc_succ N o 0 k hlt HND.out u hu
    rwa [Int.sub_zero] at this)
   have j0:(0:Int)≤(u:Int):=by omega
   have j1:(u:Int)<(N:Int):=by omega
   have hin:=fun w=>l1In_any (u:Int) 0 ((N:Int)-1) w
   have hib:inB (u:Int) 0 ((N:Int)-1)=true:=inB_iff.2 ⟨by omega,by omega⟩
   simp only[hib] at hin
   have HIN:=hDD hin
   have hws:w.heap.size<wr.heap.size:=by omega
   clear hco2 hu hz hown hin hib
   go_wp2_with fail
   have f0:=BelW.cell hq1 hws
   have f1:=BelW.cell c0 hbo
   have f2:=BelW.cell hcur hP
   (refine wp_region_quiet_bel (by kernel_rfl) (by kernel_rfl) ?_;(repeat(go_big_quiet_step (first | (go_at_call 138;exact Calls.bel_same (HIN.out _)))));refine wpQuiet_nil ?_;intro wq hw';obtain⟨pq,hw''⟩:=hw';have bq:=pq.h;rw[←hw''] at bq;clear hw'' pq)
   replace c0:=f1 ⟨wq,bq⟩
   replace hcur:=f2 ⟨wq,bq⟩
   simp only at c0 hcur
   clear f0 f1 f2
   have hfq:=(bq.frozen (p:=⟨w1.heap.size,u,none⟩) hP).trans hfz
   have sq:=bq.size
   have HOQ:=hDD ((HO.out.below bq).set u ((k:Int)+1) ⟨by omega,by omega⟩)
   have HBQ:=hDD (HB3.out.trans (bq.mono (by omega)))
   clear bq hfz hq1
   go_wp2
   go_roundw
   case rel=>exact⟨k+1,by omega,by go_num,by rw[←HSUC.out];exact HOQ.out.1,HBQ.out.grown HOQ.out.2 (by omega) (fun j hj=>by cases hj;omega)⟩
   case measure=>simp[intOf];omega
  ·obtain rfl:k=o.length:=by omega
   rw[List.take_length] at HO
   clear hown
   have HP:=hDD HO.out
   obtain⟨w5,rfl⟩: ∃w5:World,w5=wr:=⟨_,rfl⟩
   have hX:w.heap.size+1+1<w5.heap.size:=by omega
   have PX2:=hDD ((HB3.out.cell (p:=⟨w.heap.size+1+1,2,none⟩) (show w.heap.size+1+1<W0.heap.size by omega)).trans X2.out)
   have PX0:=hDD ((HB3.out.cell (p:=⟨w.heap.size+1+1,0,none⟩) (show w.heap.size+1+1<W0.heap.size by omega)).trans X0.out)
   have PX1:=hDD ((HB3.out.cell (p:=⟨w.heap.size+1+1,1,none⟩) (show w.heap.size+1+1<W0.heap.size by omega)).trans X1.out)
   have PXF:Hid (∀j,w5.frozen? ⟨w.heap.size+1+1,j,none⟩=false):=hDD fun j=>(HB3.out.frozen (p:=⟨w.heap.size+1+1,j,none⟩) (show w.heap.size+1+1<W0.heap.size by omega)).trans (XF.out j)
   clear hq1
   have HPL:Hid (∀(wr:World),w5.grownBy wr (some (w.heap.size+1+1))→ ∀u:Nat,u<N→wr.cell? ⟨w1.heap.size,u,none⟩=some (.int .i64 (plv o u))):=hDD fun wr hg u hu=>by
    rw[grown_cell hg hP (by omega),HP.out.cellAt u (by rw[plc_len];exact hu),plc_get _ _ _ _ hu,Int.sub_zero]
   have PLR:Hid (∀v:Int,0≤plv o v∧plv o v≤40):=hDD fun v=>by have:=plv_range o v;omega
   go_wp2
   go_loopw [9] (fun i wr=> ∃(k:Nat) (A2:Option Addr) (cap2:Nat),k≤es.length∧i= .int .i64 k∧wr.cell? ⟨w.heap.size+1+1,2,none⟩=some (.slice A2 (srt cmpE (rnL (es.take k) o)).length cap2)∧OwE wr (w.heap.size+1+1+1) (.slice A2 (srt cmpE (rnL (es.take k) o)).length cap2) (srt cmpE (rnL (es.take k) o))∧w5.grownBy wr (some (w.heap.size+1+1))∧wr.cell? ⟨w.heap.size+1+1,0,none⟩=some (.int .i64 r)∧wr.cell? ⟨w.heap.size+1+1,1,none⟩=some (.int .i64 o.length)∧ ∀j,wr.frozen? ⟨w.heap.size+1+1,j,none⟩=false) (fun i _=>es.length-(intOf i).toNat)
   case atStart=>exact⟨0,none,0,Nat.zero_le _,rfl,PX2.out,OwE.nil,World.grownBy.refl _ _,PX0.out,PX1.out,PXF.out⟩
   case round=>
    obtain⟨k,A2,cap2,hk2,rfl,hx2,hown2,hgr,hx0,hx1,hxf⟩:=hrel
    have HGW:=hDD hgr
    have hsz2:=hgr.size
    have HBw2:=hDD (HBw.out.grown hgr (by omega) (fun j hj=>by cases hj;omega))
    have b2:=(grown_cell (o:=2) hgr (show w.heap.size<w5.heap.size by omega) (by omega)).trans ((HB3.out.cell (p:=⟨w.heap.size,2,none⟩) (show w.heap.size<W0.heap.size by omega)).trans B2.out)
    have HX2:=hDD hx2
    have HX0:=hDD hx0
    have HX1:=hDD hx1
    have HXF:=hDD hxf
    clear hx0 hx1 hxf
    have HOW2:=hDD hown2
    clear hgr hown2
    by_cases hlt2:k<es.length
    ·obtain⟨be,offe,rfl,hbe,c0,c1,c2,he64⟩:=(HE.out.below HBw2.out).at hlt2
     obtain⟨e1,e2,e3⟩:=HED.out es[k] (by simp)
     have HS:=hDD (rnL_succ es o k hlt2)
     have HSS:Hid (∀x,rnE o es[k]=some x→srt cmpE (rnL (es.take (k+1)) o)=insF cmpE (srt cmpE (rnL (es.take k) o)) x):=hDD fun x hx=>by
      rw[HS.out,hx]
      unfold srt
      rw[List.foldl_append]
      rfl
     have HSN:Hid (rnE o es[k]=none→rnL (es.take (k+1)) o=rnL (es.take k) o):=hDD fun hx=>by rw[HS.out,hx];simp
     have hlr:(srt cmpE (rnL (es.take k) o)).length≤120:=by
      have h1:=srt_len (c:=cmpE) (rnL (es.take k) o)
      have h2:=rnL_len (es.take k) o
      rw[List.length_take] at h2
      omega
     have HE64:=hDD he64
     generalize es[k]=e at*
     obtain⟨f,l,t⟩:=e
     simp only at e1 e2 e3 c0 c1 c2
     obtain⟨a,rfl⟩: ∃a:Nat,f=(a:Int):=⟨f.toNat,by omega⟩
     obtain⟨c,rfl⟩: ∃c:Nat,t=(c:Int):=⟨t.toNat,by omega⟩
     have pa:=HPL.out wr HGW.out a (by omega)
     have pc:=HPL.out wr HGW.out c (by omega)
     obtain⟨ra1,ra2⟩:=PLR.out a
     obtain⟨rc1,rc2⟩:=PLR.out c
     have RN:Hid (rnE o ((a:Int),l,(c:Int))=if 0<plv o a∧0<plv o c then some (plv o a-1,l,plv o c-1) else none):=hDD rfl
     have ja:(a:Int)<(N:Int):=by omega
     have jc:(c:Int)<(N:Int):=by omega
     have ja0:(0:Int)≤(a:Int):=by omega
     have jc0:(0:Int)≤(c:Int):=by omega
     have hPr:w1.heap.size<wr.heap.size:=by omega
     have hXr:w.heap.size+1+1<wr.heap.size:=by omega
     have hl64:I64 l:=by unfold I64;omega
     have HL64:=hDD hl64
     generalize plv o a=pav at*
     generalize plv o c=pcv at*
     generalize hL:srt cmpE (rnL (es.take k) o)=L at*
     clear hl64 HS HE64 he64
     have bA:Below wr.heap.size wr (wr.alloc (Obj.cells #[Value.int IntKind.i64 a,Value.int IntKind.i64 l,Value.int IntKind.i64 c] 97)):=(Below.refl _ _).alloc (Nat.le_refl _) _
     by_cases t1:0<pav
     ·by_cases t2:0<pcv
      ·have F:=hDD (HSS.out _ (by rw[RN.out,if_pos ⟨t1,t2⟩]))
       go_wp2_with fail
       have sA:wr.heap.size<(wr.alloc (Obj.cells #[Value.int IntKind.i64 a,Value.int IntKind.i64 l,Value.int IntKind.i64 c] 97)).heap.size:=by simp
       have l0:(wr.alloc (Obj.cells #[Value.int IntKind.i64 a,Value.int IntKind.i64 l,Value.int IntKind.i64 c] 97)).cell? ⟨wr.heap.size,0,none⟩=some (.int .i64 a):=by simp[go_sem]
       have l1:(wr.alloc (Obj.cells #[Value.int IntKind.i64 a,Value.int IntKind.i64 l,Value.int IntKind.i64 c] 97)).cell? ⟨wr.heap.size,1,none⟩=some (.int .i64 l):=by simp[go_sem]
       have l2:(wr.alloc (Obj.cells #[Value.int IntKind.i64 a,Value.int IntKind.i64 l,Value.int IntKind.i64 c] 97)).cell? ⟨wr.heap.size,2,none⟩=some (.int .i64 c):=by simp[go_sem]
       generalize wr.alloc (Obj.cells #[Value.int IntKind.i64 a,Value.int IntKind.i64 l,Value.int IntKind.i64 c] 97)=W at bA sA l0 l1 l2⊢
       have la:=(bA.cell (p:=⟨w1.heap.size,a,none⟩) hPr).trans pa
       have lc:=(bA.cell (p:=⟨w1.heap.size,c,none⟩) hPr).trans pc
       have lx:=(bA.cell (p:=⟨w.heap.size+1+1,2,none⟩) hXr).trans HX2.out
       have LX0:=hDD ((bA.cell (p:=⟨w.heap.size+1+1,0,none⟩) hXr).trans HX0.out)
       have LX1:=hDD ((bA.cell (p:=⟨w.heap.size+1+1,1,none⟩) hXr).trans HX1.out)
       have LXF:Hid (∀j,W.frozen? ⟨w.heap.size+1+1,j,none⟩=false):=hDD fun j=>(bA.frozen (p:=⟨w.heap.size+1+1,j,none⟩) hXr).trans (HXF.out j)
       have OW:=hDD (HOW2.out.below bA)
       have GW:=hDD (HGW.out.trans (grown_bel bA))
       have hXW:w.heap.size+1+1<W.heap.size:=by omega
       have hPW:w1.heap.size<W.heap.size:=by omega
       have hPX:w1.heap.size≠w.heap.size+1+1:=by omega
       have hwX:wr.heap.size≠w.heap.size+1+1:=by omega
       clear bA pa pc hx2
       have wa1:IntKind.i64.wrap (pav-1)=pav-1:=by rw[IntKind.wrap_i64];omega
       have wc1:IntKind.i64.wrap (pcv-1)=pcv-1:=by rw[IntKind.wrap_i64];omega
       have f0:=BelW.cell l0 sA
       have f1:=BelW.cell l1 sA
       have f2:=BelW.cell l2 sA
       have f3:=BelW.cell la hPW
       have f4:=BelW.cell lc hPW
       have f5:=BelW.cell lx hXW
       (refine wp_region_call3 17 (by kernel_rfl) (by kernel_rfl) (by kernel_rfl) (by kernel_rfl) (by rfl) (by rfl) ?_;dsimp only[dum3,dumO];(repeat(go_big_quiet_step (fail)));refine wpQuiet_nil ?_;refine⟨⟨_,fun _=>by rfl⟩,?_⟩;intro wq hw';obtain⟨pq,hw''⟩:=hw';have bq:=pq.h;rw[←hw''] at bq;clear hw'' pq;refine⟨_,_,by rfl,?_⟩)
       clear f0 f1 f2 f3 f4 f5
       simp only[wa1,wc1,List.map_toArray,List.map_cons,List.map_nil,Array.empty_append,Array.append_empty]
       refine(show Calls Tryz.prog 166 #[.slice A2 L.length cap2, .agg #[.int .i64 (pav-1), .int .i64 l, .int .i64 (pcv-1)]] wq _ from ?_)
       refine(l4Put_any _ L (pav-1,l,pcv-1) wq (OW.out.below bq).arg ⟨⟨by simp only;omega,by simp only;omega⟩,HL64.out,⟨by simp only;omega,by simp only;omega⟩⟩ (by omega)).mono ?_
       rintro e' w9 ⟨r9,rfl,o9,b9⟩
       have B9:=hDD (bq.trans (b9.mono bq.size))
       have qx:=(B9.out.cell (p:=⟨w.heap.size+1+1,2,none⟩) hXW).trans lx
       have qf:=(B9.out.frozen (p:=⟨w.heap.size+1+1,2,none⟩) hXW).trans (LXF.out 2)
       have s9:W.heap.size≤w9.heap.size:=B9.out.size
       have O9:=hDD o9
       obtain⟨A9,cap9,rfl,_⟩:=o9.form
       clear o9 b9
       refine⟨_,rfl,?_⟩
       simp only[Act.put,List.setIfInBounds_toArray,List.set_cons_zero,List.set_cons_succ]
       go_wp2
       go_roundw
       case rel=>
        have g9:w5.grownBy w9 (some (w.heap.size+1+1)):=GW.out.trans (grown_bel B9.out)
        refine⟨k+1,A9,cap9,by omega,by go_num,by rw[F.out];exact World.cell?_setCell_same _ _ _ qx,?_,g9.trans (set_grown _ _ _ _),?_,?_,fun j=>by rw[World.frozen?_setCell];exact(B9.out.frozen (p:=⟨w.heap.size+1+1,j,none⟩) hXW).trans (LXF.out j)⟩
        ·rw[F.out]
         exact(O9.out.mono (by show _≤wq.heap.size;have:=bq.size;omega)).far (show w.heap.size+1+1<w.heap.size+1+1+1 by omega) _
        ·rw[World.cell?_setCell_other _ _ _ _ (by simp)]
         exact(B9.out.cell (p:=⟨w.heap.size+1+1,0,none⟩) hXW).trans LX0.out
        ·rw[World.cell?_setCell_other _ _ _ _ (by simp)]
         exact(B9.out.cell (p:=⟨w.heap.size+1+1,1,none⟩) hXW).trans LX1.out
       case measure=>simp[intOf];omega
      ·have F:=hDD (HSN.out (by rw[RN.out,if_neg (fun h=>t2 h.2)]))
       go_wp2
       go_roundw
       case rel=>exact⟨k+1,A2,cap2,by omega,by go_num,by rw[F.out,hL];exact(bA.cell (p:=⟨w.heap.size+1+1,2,none⟩) hXr).trans HX2.out,by rw[F.out,hL];exact HOW2.out.below bA,HGW.out.trans (grown_bel bA),(bA.cell (p:=⟨w.heap.size+1+1,0,none⟩) hXr).trans HX0.out,(bA.cell (p:=⟨w.heap.size+1+1,1,none⟩) hXr).trans HX1.out,fun j=>(bA.frozen (p:=⟨w.heap.size+1+1,j,none⟩) hXr).trans (HXF.out j)⟩
       case measure=>simp[intOf];omega
     ·have F:=hDD (HSN.out (by rw[RN.out,if_neg (fun h=>t1 h.1)]))
      go_wp2
      go_roundw
      case rel=>exact⟨k+1,A2,cap2,by omega,by go_num,by rw[F.out,hL];exact(bA.cell (p:=⟨w.heap.size+1+1,2,none⟩) hXr).trans HX2.out,by rw[F.out,hL];exact HOW2.out.below bA,HGW.out.trans (grown_bel bA),(bA.cell (p:=⟨w.heap.size+1+1,0,none⟩) hXr).trans HX0.out,(bA.cell (p:=⟨w.heap.size+1+1,1,none⟩) hXr).trans HX1.out,fun j=>(bA.frozen (p:=⟨w.heap.size+1+1,j,none⟩) hXr).trans (HXF.out j)⟩
      case measure=>simp[intOf];omega
    ·obtain rfl:k=es.length:=by omega
     rw[List.take_length] at hx2 HOW2
     have RR0:=(grown_cell (o:=0) HGW.out (show w.heap.size+1<w5.heap.size by omega) (by omega)).trans (HB3.out.cell (p:=⟨w.heap.size+1,0,none⟩) (show w.heap.size+1<W0.heap.size by omega))
     have RR1:=(grown_cell (o:=1) HGW.out (show w.heap.size+1<w5.heap.size by omega) (by omega)).trans (HB3.out.cell (p:=⟨w.heap.size+1,1,none⟩) (show w.heap.size+1<W0.heap.size by omega))
     have RR2:=(grown_cell (o:=2) HGW.out (show w.heap.size+1<w5.heap.size by omega) (by omega)).trans (HB3.out.cell (p:=⟨w.heap.size+1,2,none⟩) (show w.heap.size+1<W0.heap.size by omega))
     have rrf: ∀j,wr.frozen? ⟨w.heap.size+1,j,none⟩=false:=fun j=>((grown_frozen (o:=j) HGW.out (show w.heap.size+1<w5.heap.size by omega) (by omega)).trans (HB3.out.frozen (p:=⟨w.heap.size+1,j,none⟩) (show w.heap.size+1<W0.heap.size by omega))).trans (RF.out j)
     obtain⟨u0,hu0⟩:=R0.out
     obtain⟨u1,hu1⟩:=R1.out
     obtain⟨u2,hu2⟩:=R2.out
     have rr0:=RR0.trans hu0
     have rr1:=RR1.trans hu1
     have rr2:=RR2.trans hu2
     have hx0:=HX0.out
     have hx1:=HX1.out
     have rf0:=rrf 0
     have rf1:=rrf 1
     have rf2:=rrf 2
     have hRw:w.heap.size+1<wr.heap.size:=by omega
     clear RR0 RR1 RR2 hu0 hu1 hu2 rrf
     generalize hL:srt cmpE (rnL es o)=L at*
     have HLL:=hDD hL
     clear hL
     go_wp2
     have c0:(((wr.setCell ⟨w.heap.size+1,0,none⟩ (.int .i64 r)).setCell ⟨w.heap.size+1,1,none⟩ (.int .i64 o.length)).setCell ⟨w.heap.size+1,2,none⟩ (.slice A2 L.length cap2)).cell? ⟨w.heap.size+1,0,none⟩=some (.int .i64 r):=by
      rw[World.cell?_setCell_other _ _ _ _ (by simp),World.cell?_setCell_other _ _ _ _ (by simp),World.cell?_setCell_same _ _ _ rr0]
     have c1:(((wr.setCell ⟨w.heap.size+1,0,none⟩ (.int .i64 r)).setCell ⟨w.heap.size+1,1,none⟩ (.int .i64 o.length)).setCell ⟨w.heap.size+1,2,none⟩ (.slice A2 L.length cap2)).cell? ⟨w.heap.size+1,1,none⟩=some (.int .i64 o.length):=by
      rw[World.cell?_setCell_other _ _ _ _ (by simp)]
      exact World.cell?_setCell_same _ _ _ ((World.cell?_setCell_other _ _ _ _ (by simp)).trans rr1)
     have c2:(((wr.setCell ⟨w.heap.size+1,0,none⟩ (.int .i64 r)).setCell ⟨w.heap.size+1,1,none⟩ (.int .i64 o.length)).setCell ⟨w.heap.size+1,2,none⟩ (.slice A2 L.length cap2)).cell? ⟨w.heap.size+1,2,none⟩=some (.slice A2 L.length cap2):=
      World.cell?_setCell_same _ _ _ ((World.cell?_setCell_other _ _ _ _ (by simp)).trans ((World.cell?_setCell_other _ _ _ _ (by simp)).trans rr2))
     have bw:Below w.heap.size w (((wr.setCell ⟨w.heap.size+1,0,none⟩ (.int .i64 r)).setCell ⟨w.heap.size+1,1,none⟩ (.int .i64 o.length)).setCell ⟨w.heap.size+1,2,none⟩ (.slice A2 L.length cap2)):=(by repeat(first | exact Below.refl _ _ | (refine Below.setCell ?_ (by first | omega | (simp<;>omega)) _) | (refine bel_drewN ?_ _) | (refine Below.drew ?_) | (refine Below.alloc ?_ (by first | omega | (simp<;>omega)) _) | (refine Below.trans ?_ (Below.mono (Hid.out HBw2) (by first | omega | (simp<;>omega))))))
     have ow:OwE (((wr.setCell ⟨w.heap.size+1,0,none⟩ (.int .i64 r)).setCell ⟨w.heap.size+1,1,none⟩ (.int .i64 o.length)).setCell ⟨w.heap.size+1,2,none⟩ (.slice A2 L.length cap2)) (w.heap.size+1+1+1) (.slice A2 L.length cap2) L:=
      ((HOW2.out.far (by show w.heap.size+1<_;omega) _).far (by show w.heap.size+1<_;omega) _).far (by show w.heap.size+1<_;omega) _
     generalize ((wr.setCell ⟨w.heap.size+1,0,none⟩ (.int .i64 r)).setCell ⟨w.heap.size+1,1,none⟩ (.int .i64 o.length)).setCell ⟨w.heap.size+1,2,none⟩ (.slice A2 L.length cap2)=wf at*
     refine bodyPost_ret (v:= .tuple #[.agg #[.int .i64 r, .int .i64 o.length, .slice A2 L.length cap2], .bool true]) (by simp[results,Tryz.results163,go_sem,c0,c1,c2]) rfl ⟨_,rfl,⟨.slice A2 L.length cap2,?_,?_,?_,?_⟩,bw⟩
     ·rfl
     ·show I64 r
      unfold I64
      omega
     ·show I64 (o.length:Int)
      unfold I64
      omega
     ·show OwE wf w.heap.size (.slice A2 L.length cap2) (srt cmpE (rnL es o))
      rw[HLL.out]
      exact ow.mono (by omega)
theorem specRenumber_any (v vo:Value) (g:GrD) (o:List Int) (w:World) (h:ArgG w v g) (ho:RdI w vo o) (hg:grB g=true) (hok:OrdOk g.2.1 o):
  Calls Tryz.prog 163 #[v,vo] w fun e w'=> ∃r,e= .returned (.tuple #[r, .bool true])∧OwG w' w.heap.size r (rnG g o)∧Below w.heap.size w w':=specRenumber_anyN v vo g o w h ho hg hok.toN
end Go.Proofs.YtnjpoljbagfdnaaGreat
namespace Go.Proofs.YtnjpoljbagfdnaaGreat
set_option maxRecDepth 20000
set_option linter.unusedVariables false
set_option linter.unusedSimpArgs false
open Go.RowKit
theorem grB_of {g:GrD} (h1:1≤g.1∧g.1≤3) (h2:1≤g.2.1∧g.2.1≤40) (h3:g.2.2.length≤120) (hs:Srt cmpE g.2.2)
  (he: ∀e∈g.2.2,(0≤e.1∧e.1<g.2.1)∧(1≤e.2.1∧e.2.1≤g.1)∧(0≤e.2.2∧e.2.2<g.2.1)):grB g=true:=by
 have hw:wrap64 (g.2.1-1)=g.2.1-1:=by unfold wrap64;omega
 have ho: ∀k (hk:k<g.2.2.length),edgeOk g.1 g.2.1 g.2.2[k]=true:=fun k hk=>by
  obtain⟨⟨a1,a2⟩,⟨b1,b2⟩,c1,c2⟩:=he g.2.2[k] (by simp)
  unfold edgeOk
  rw[hw]
  simp only[Bool.and_eq_true]
  exact⟨⟨inB_iff.2 ⟨by omega,by omega⟩,inB_iff.2 ⟨by omega,by omega⟩⟩,inB_iff.2 ⟨by omega,by omega⟩⟩
 unfold grB
 simp only[Bool.and_eq_true,decide_eq_true_eq,List.all_eq_true,List.mem_range]
 refine⟨⟨⟨inB_iff.2 h1,inB_iff.2 h2⟩,h3⟩,fun k hk=> ?_⟩
 rcases Nat.eq_zero_or_pos k with rfl | h0
 ·rw[okE_zero hk];exact ho 0 hk
 ·rw[okE_pos h0 hk,ho k hk]
  have:=(List.pairwise_iff_getElem.1 hs) (k-1) k (by omega) hk (by omega)
  simp only[Bool.true_and,Bool.not_eq_true',decide_eq_false_iff_not]
  omega
theorem rnE_ok {o:List Int} {r n:Int} {e x:EdD} (he:(0≤e.1∧e.1<n)∧(1≤e.2.1∧e.2.1≤r)∧(0≤e.2.2∧e.2.2<n)) (h:rnE o e=some x):
  (0≤x.1∧x.1<o.length)∧(1≤x.2.1∧x.2.1≤r)∧(0≤x.2.2∧x.2.2<o.length):=by
 unfold rnE at h
 split at h
 ·rename_i hp
  injection h with h
  subst h
  have h1:=plv_range o e.1
  have h2:=plv_range o e.2.2
  simp only
  omega
 ·cases h
theorem grB_rnGN {g:GrD} {o:List Int} (hg:grB g=true) (ho:OrdN g.2.1 o):grB (rnG g o)=true:=by
 obtain⟨h1,h2,h3,_⟩:=grB_parts hg
 have hol:o.length≤g.2.1.toNat:=nodup_len g.2.1.toNat o ho.1 fun y hy=>by have:=ho.2.1 y hy;omega
 have hol1:1≤o.length:=ho.2.2
 have hsp:=srt_spec cmpE_ord (rnL g.2.2 o)
 refine grB_of h1 ⟨by show(1:Int)≤(o.length:Int);omega,by show(o.length:Int)≤40;omega⟩ ?_ hsp.1 fun e he=> ?_
 ·have a:=srt_len (c:=cmpE) (rnL g.2.2 o)
  have b:=rnL_len g.2.2 o
  show(srt cmpE (rnL g.2.2 o)).length≤120
  omega
 ·have hm:=(hsp.2 e).1 he
  unfold rnL at hm
  obtain⟨d,hd,hx⟩:=List.mem_filterMap.1 hm
  exact rnE_ok (edge_of_gr hg hd) hx
theorem grB_rnG {g:GrD} {o:List Int} (hg:grB g=true) (ho:OrdOk g.2.1 o):grB (rnG g o)=true:=grB_rnGN hg ho.toN
def delO (n:Nat) (x:Int):List Int:=((List.range n).map fun v=>((v:Nat):Int)).filter fun y=>decide (y≠x)
theorem delO_succ (n:Nat) (x:Int):delO (n+1) x=if(n:Int)≠x then delO n x++ [(n:Int)] else delO n x:=by
 unfold delO
 rw[List.range_succ,List.map_append,List.filter_append]
 by_cases h:(n:Int)=x<;>simp[h]
theorem delO_mem {n:Nat} {x y:Int}:y∈delO n x↔(0≤y∧y<n)∧y≠x:=by
 unfold delO
 simp only[List.mem_filter,List.mem_map,List.mem_range,decide_eq_true_eq]
 constructor
 ·rintro⟨⟨v,hv,rfl⟩,h⟩
  exact⟨⟨by omega,by omega⟩,h⟩
 ·rintro⟨⟨h0,h1⟩,h⟩
  exact⟨⟨y.toNat,by omega,by omega⟩,h⟩
theorem delO_nodup (n:Nat) (x:Int):(delO n x).Nodup:=by
 induction n with
 | zero=>exact List.nodup_nil
 | succ n ih=>
   rw[delO_succ]
   split
   ·rw[List.nodup_append]
    refine⟨ih,by simp,fun a ha b hb e=> ?_⟩
    have:=(delO_mem.1 ha).1.2
    simp only[List.mem_singleton] at hb
    omega
   ·exact ih
theorem delO_head {n:Nat} {x:Int} (hn:1≤n) (hx:1≤x):(delO n x)[0]? =some 0:=by
 obtain⟨m,rfl⟩: ∃m,n=m+1:=⟨n-1,by omega⟩
 induction m with
 | zero=>
   rw[delO_succ,if_pos (by omega)]
   rfl
 | succ m ih=>
   rw[delO_succ]
   have:=ih (by omega)
   split
   ·rw[List.getElem?_append_left (by
     cases h:delO (m+1) x with
     | nil=>rw[h] at this;cases this
     | cons _ _=>simp)]
    exact this
   ·exact this
theorem delO_ok {n:Nat} {x:Int} (hn:1≤n) (hx:1≤x):OrdOk (n:Int) (delO n x):=
 ⟨delO_nodup n x,fun y hy=>(delO_mem.1 hy).1,delO_head hn hx⟩
theorem delO_len {n:Nat} {x:Int} (hx:0≤x) (hxn:x<n):(delO n x).length+1≤n:=by
 have h1:(delO n x).length≤n-1:=by
  have hn:=delO_nodup n x
  have key:=nodup_len (n-1) ((delO n x).map fun y=>if y<x then y else y-1) ?_ ?_
  ·rwa [List.length_map] at key
  ·unfold List.Nodup at*
   rw[List.pairwise_map]
   refine hn.imp_of_mem fun {a b} ha hb hab e=>hab ?_
   have h1:=(delO_mem.1 ha).2
   have h2:=(delO_mem.1 hb).2
   split at e<;>split at e<;>omega
  ·intro y hy
   obtain⟨z,hz,rfl⟩:=List.mem_map.1 hy
   obtain⟨⟨a,b⟩,c⟩:=delO_mem.1 hz
   split<;>omega
 omega
theorem leafFrom_range (es:List EdD) (n:Nat): ∀f v:Nat,leafFrom es n f v= -1∨((v:Int)≤leafFrom es n f v∧leafFrom es n f v<n)
 | 0,v=> .inl rfl
 | f+1,v=>by
   unfold leafFrom
   split
   ·split
    ·right;omega
    ·rcases leafFrom_range es n f (v+1) with h | h
     ·exact .inl h
     ·right;omega
   ·exact .inl rfl
theorem leafV_range (es:List EdD) (n:Nat):leafV es n= -1∨(1≤leafV es n∧leafV es n<n):=by
 have:=leafFrom_range es n (n-1) 1
 unfold leafV
 omega
end Go.Proofs.YtnjpoljbagfdnaaGreat
namespace Go.Proofs.YtnjpoljbagfdnaaGreat
set_option maxRecDepth 20000
set_option linter.unusedVariables false
set_option linter.unusedSimpArgs false
open Go.RowKit
set_option maxHeartbeats 400000 in
theorem ins1_any (v:Value) (n:Int) (w:World) (hn:n=0∨n=1):
  Calls Tryz.prog 243 #[v, .int .i64 0, .int .i64 n] w fun e w'=>e= .returned (.tuple #[])∧w=w':=by
 rcases hn with rfl | rfl
 all_goals (
  go_enter Tryz.func243,Tryz.ntmps243
  go_wp2
  refine wp_loop_rounds 1 ?_
  rw[rounds_succ]
  go_wp2
  go_end0
  exact⟨rfl,rfl⟩)
set_option maxHeartbeats 1000000 in
theorem len64_any (n:Int) (w:World) (hn:n=0∨n=1):
  Calls Tryz.prog 253 #[.int .u64 n] w fun e w'=>(∃l:Int,e= .returned (.int .i64 l))∧w=w':=by
 rcases hn with rfl | rfl
 ·go_enter Tryz.func253,Tryz.ntmps253
  go_wp2
  go_ret
  exact⟨⟨_,rfl⟩,rfl⟩
 ·go_enter Tryz.func253,Tryz.ntmps253
  go_wp2
  go_ret
  exact⟨⟨_,rfl⟩,rfl⟩
set_option maxHeartbeats 400000 in
theorem len1_any (n:Int) (w:World) (hn:n=0∨n=1):
  Calls Tryz.prog 234 #[.int .u64 n] w fun e w'=>(∃l:Int,e= .returned (.int .i64 l))∧w=w':=by
 have h:=len64_any n w hn
 have HN:=hDD h
 clear h
 rcases hn with rfl | rfl
 all_goals (
  go_enter Tryz.func234,Tryz.ntmps234
  go_wp2_with fail
  refine HN.out.mono ?_
  rintro e w' ⟨⟨l,rfl⟩,rfl⟩
  go_wp2
  go_ret
  exact⟨⟨_,rfl⟩,rfl⟩)
set_option maxHeartbeats 400000 in
theorem pdq1_any (v:Value) (n:Int) (l:Int) (w:World) (hn:n=0∨n=1):
  Calls Tryz.prog 233 #[v, .int .i64 0, .int .i64 n, .int .i64 l] w fun e w'=>e= .returned (.tuple #[])∧w=w':=by
 have h:=ins1_any v n w hn
 have HN:=hDD h
 clear h
 rcases hn with rfl | rfl
 all_goals (
  go_enter Tryz.func233,Tryz.ntmps233
  go_wp2
  refine wp_loop_rounds 1 ?_
  rw[rounds_succ]
  go_wp2_with fail
  refine HN.out.mono ?_
  rintro e w' ⟨rfl,rfl⟩
  go_wp2
  exact bodyPost_ret (v:= .tuple #[]) (by simp[results,Tryz.results233,go_sem]) rfl ⟨rfl,rfl⟩)
set_option maxHeartbeats 400000 in
theorem sort1_any (v:Value) (xs:List Int) (w:World) (h:RdI w v xs) (hn:xs.length≤1):
  Calls Tryz.prog 209 #[v] w fun e w'=>e= .returned (.tuple #[])∧w=w':=by
 obtain⟨A,cap,rfl,_⟩:=h.arg
 have hn1:(xs.length:Int)=0∨(xs.length:Int)=1:=by omega
 have H1:=hDD (len1_any (xs.length:Int) w hn1)
 have H2:=hDD (fun l=>pdq1_any (.slice A xs.length cap) (xs.length:Int) l w hn1)
 have hw:IntKind.u64.wrap (xs.length:Int)=(xs.length:Int):=by
  rcases hn1 with h | h<;>rw[h]<;>decide+kernel
 clear hn1 h
 go_enter Tryz.func209,Tryz.ntmps209
 go_wp2_with fail
 refine H1.out.mono ?_
 rintro e w' ⟨⟨l,rfl⟩,rfl⟩
 go_wp2_with fail
 refine(H2.out l).mono ?_
 rintro e w' ⟨rfl,rfl⟩
 go_wp2
 go_end0
 exact⟨rfl,rfl⟩
set_option maxHeartbeats 400000 in
theorem compact1_any (A:Option Addr) (n cap:Nat) (w:World) (hn:n≤1):
  Calls Tryz.prog 210 #[.slice A n cap] w fun e w'=>e= .returned (.slice A n cap)∧w=w':=by
 have h1:(n:Int)<2:=by omega
 go_enter Tryz.func210,Tryz.ntmps210
 go_wp2
 go_ret
 exact⟨rfl,rfl⟩
set_option maxHeartbeats 2000000 in
theorem implStepsFrom_any (v:Value) (g:GrD) (u x:Int) (w:World) (h:ArgG w v g) (hone:(stepsL g.2.2 u x).length≤1) (hlet: ∀e∈g.2.2,1≤e.2.1):
  Calls Tryz.prog 161 #[v, .int .i64 u, .int .i64 x] w fun e w'=> ∃r,e= .returned r∧OwI w' w.heap.size r (stepsL g.2.2 u x)∧Below w.heap.size w w':=by
 obtain⟨s,rfl,_,_,ha⟩:=h
 have H:=hDD ha
 obtain⟨A,cap,rfl,hcap,hm,_,hr,_⟩:=ha
 have HR:=hDD hr
 unfold maxLen at hm
 clear hr
 have HLET:=hDD hlet
 clear hlet
 go_enter Tryz.func161,Tryz.ntmps161
 go_wp2
 have hb:Below w.heap.size w ((w.alloc (Obj.cells #[Value.int IntKind.i64 g.1,Value.int IntKind.i64 g.2.1, .slice A g.2.2.length cap] 26)).alloc (Obj.cells #[] 3)):=(by repeat(first | exact Below.refl _ _ | (refine Below.setCell ?_ (by first | omega | (simp<;>omega)) _) | (refine bel_drewN ?_ _) | (refine Below.drew ?_) | (refine Below.alloc ?_ (by first | omega | (simp<;>omega)) _)))
 have k2:((w.alloc (Obj.cells #[Value.int IntKind.i64 g.1,Value.int IntKind.i64 g.2.1, .slice A g.2.2.length cap] 26)).alloc (Obj.cells #[] 3)).cell? ⟨w.heap.size,2,none⟩=some (.slice A g.2.2.length cap):=by simp[go_sem]
 have hs0:w.heap.size+1<((w.alloc (Obj.cells #[Value.int IntKind.i64 g.1,Value.int IntKind.i64 g.2.1, .slice A g.2.2.length cap] 26)).alloc (Obj.cells #[] 3)).heap.size:=by simp
 have o0:OwI ((w.alloc (Obj.cells #[Value.int IntKind.i64 g.1,Value.int IntKind.i64 g.2.1, .slice A g.2.2.length cap] 26)).alloc (Obj.cells #[] 3)) (w.heap.size+1) (.slice (some ⟨w.heap.size+1,0,none⟩) 0 0) []:=OwI_litN (w.alloc (Obj.cells #[Value.int IntKind.i64 g.1,Value.int IntKind.i64 g.2.1, .slice A g.2.2.length cap] 26)) [] (w.heap.size+1) (by simp) I64s_nil (by simp) (Nat.le_refl _)
 generalize (w.alloc (Obj.cells #[Value.int IntKind.i64 g.1,Value.int IntKind.i64 g.2.1, .slice A g.2.2.length cap] 26)).alloc (Obj.cells #[] 3)=w1 at hb k2 hs0 o0⊢
 have HB:=hDD hb
 have K2:=hDD k2
 have O0:=hDD o0
 clear hb k2 o0
 go_loopw [7,14] (fun out i wr=> ∃k:Nat,k≤g.2.2.length∧i= .int .i64 k∧OwI wr (w.heap.size+1) out (stepsL (g.2.2.take k) u x)∧Below (w.heap.size+1) w1 wr) (fun _ i _=>g.2.2.length-(intOf i).toNat)
 case atStart=>exact⟨0,Nat.zero_le _,rfl,O0.out,Below.refl _ _⟩
 case round=>
  obtain⟨k,hk,rfl,hown,hbel⟩:=hrel
  have hsz:=hbel.size
  have HB3:=hDD (HB.out.trans (hbel.mono (by omega)))
  have p2:=(hbel.cell (p:=⟨w.heap.size,2,none⟩) (show w.heap.size<w.heap.size+1 by omega)).trans K2.out
  have HO:=hDD hown
  have HB2:=hDD hbel
  obtain⟨A1,cap1,rfl,hcap1,hm1,_,_⟩:=hown.form
  clear hbel
  by_cases hlt:k<g.2.2.length
  ·obtain⟨b,off,rfl,hbl,c0,c1,c2,_⟩:=(H.out.below HB3.out).at hlt
   have HS:=hDD (stepsL_succ g.2.2 u x k hlt)
   have HX:=hDD (HR.out g.2.2[k] (by simp))
   have HLE:=hDD (HLET.out g.2.2[k] (by simp))
   have hl1:=stepsL_take g.2.2 u x (k+1)
   have hl0:(stepsL (g.2.2.take k) u x).length≤1:=by have:=stepsL_take g.2.2 u x k;omega
   have HL1:Hid ((stepsL (g.2.2.take (k+1)) u x).length≤1):=hDD (by omega)
   clear hl1 hown
   generalize g.2.2[k]=e at*
   obtain⟨f,l,t⟩:=e
   simp only at c0 c1 c2
   have keep:mt u x (f,l,t)=none→stepsL (g.2.2.take (k+1)) u x=stepsL (g.2.2.take k) u x:=fun e=>by rw[HS.out,e];simp
   have KE:=hDD keep
   have put: ∀y,mt u x (f,l,t)=some y→stepsL (g.2.2.take k) u x= []∧stepsL (g.2.2.take (k+1)) u x= [y]:=fun y e=>by
    have h1:=HS.out
    have h2:=HL1.out
    rw[e] at h1
    rw[h1] at h2
    simp at h2
    refine⟨h2,by rw[h1,h2];rfl⟩
   have PU:=hDD put
   clear keep put
   by_cases hp:0<x
   ·have hn: ¬x<0:=by omega
    rcases e1:(l==x) with _ | _
    ·have F:=hDD (KE.out (by simp at e1;simp[mt,hp,e1]))
     go_wp2
     go_roundw
     case rel=>exact⟨k+1,by omega,by go_num,by rw[F.out];exact HO.out.alloc _,HB2.out.alloc (by omega) _⟩
     case measure=>simp[intOf];omega
    ·rcases e2:(f==u) with _ | _
     ·have F:=hDD (KE.out (by simp at e2;simp[mt,hp,e2]))
      go_wp2
      go_roundw
      case rel=>exact⟨k+1,by omega,by go_num,by rw[F.out];exact HO.out.alloc _,HB2.out.alloc (by omega) _⟩
      case measure=>simp[intOf];omega
     ·have F:=hDD (PU.out t (by simp at e1 e2;simp[mt,hp,e1,e2]))
      go_wp2_with (at_builtin;refine push_int rfl (.tmp 33) (.tmp 36) rfl _ _ _ (OwI.alloc (OwI.alloc HO.out _) _) rfl (wr.heap.size+1) t rfl (by simp[go_sem]) HX.out.2.2 (by omega) (by simp;omega) ?_;intro v9 wv9 o9 g9 p9)
      go_roundw
      case rel=>exact⟨k+1,by omega,by go_num,by have:=o9;rw[F.out.1] at this;rw[F.out.2];exact this,bel_push (B:=w.heap.size+1) (HB2.out.alloc (by omega) _) (by simp;omega) (OwI.alloc HO.out _).1 (Nat.le_refl _) g9⟩
      case measure=>simp[intOf];omega
   ·by_cases hn:x<0
    ·rcases e0:(x != -9223372036854775808) with _ | _
     ·have hx0:x= -9223372036854775808:=by simpa using e0
      have F:=hDD (KE.out (by
       have h1:wrap64 (-x)= -9223372036854775808:=by rw[hx0];decide+kernel
       have h2:=HLE.out
       unfold mt
       rw[if_neg hp,if_pos hn,h1,if_neg (fun h=>by have:=h.1;simp only at this;omega)]))
      go_wp2
      go_roundw
      case rel=>exact⟨k+1,by omega,by go_num,by rw[F.out];exact HO.out.alloc _,HB2.out.alloc (by omega) _⟩
      case measure=>simp[intOf];omega
     rcases e1:(l==wrap64 (-x)) with _ | _
     ·have F:=hDD (KE.out (by simp at e1;simp[mt,hp,hn,e1]))
      go_wp2
      go_roundw
      case rel=>exact⟨k+1,by omega,by go_num,by rw[F.out];exact HO.out.alloc _,HB2.out.alloc (by omega) _⟩
      case measure=>simp[intOf];omega
     ·rcases e2:(t==u) with _ | _
      ·have F:=hDD (KE.out (by simp at e2;simp[mt,hp,hn,e2]))
       go_wp2
       go_roundw
       case rel=>exact⟨k+1,by omega,by go_num,by rw[F.out];exact HO.out.alloc _,HB2.out.alloc (by omega) _⟩
       case measure=>simp[intOf];omega
      ·have F:=hDD (PU.out f (by simp at e1 e2;simp[mt,hp,hn,e1,e2]))
       go_wp2_with (at_builtin;refine push_int rfl (.tmp 58) (.tmp 61) rfl _ _ _ (OwI.alloc (OwI.alloc HO.out _) _) rfl (wr.heap.size+1) f rfl (by simp[go_sem]) HX.out.1 (by omega) (by simp;omega) ?_;intro v9 wv9 o9 g9 p9)
       go_roundw
       case rel=>exact⟨k+1,by omega,by go_num,by have:=o9;rw[F.out.1] at this;rw[F.out.2];exact this,bel_push (B:=w.heap.size+1) (HB2.out.alloc (by omega) _) (by simp;omega) (OwI.alloc HO.out _).1 (Nat.le_refl _) g9⟩
       case measure=>simp[intOf];omega
    ·have F:=hDD (KE.out (by simp[mt,hp,hn]))
     go_wp2
     go_roundw
     case rel=>exact⟨k+1,by omega,by go_num,by rw[F.out];exact HO.out.alloc _,HB2.out.alloc (by omega) _⟩
     case measure=>simp[intOf];omega
  ·obtain rfl:k=g.2.2.length:=by omega
   clear hown
   rw[List.take_length]
   rw[List.take_length] at HO hcap1
   have hn1:(stepsL g.2.2 u x).length≤1:=hone
   go_wp2_with fail
   refine(sort1_any _ _ _ HO.out.rd hn1).mono ?_
   rintro e wz ⟨rfl,rfl⟩
   go_wp2_with fail
   refine(compact1_any _ _ _ _ hn1).mono ?_
   rintro e wz ⟨rfl,rfl⟩
   go_wp2
   go_ret
   exact⟨_,rfl,HO.out.mono (base':=w.heap.size) (by omega),HB3.out⟩
set_option maxHeartbeats 1000000 in
theorem implNextVertex_any (v:Value) (g:GrD) (u x:Int) (w:World) (h:ArgG w v g) (hone:(stepsL g.2.2 u x).length≤1) (hlet: ∀e∈g.2.2,1≤e.2.1):
  Calls Tryz.prog 80 #[v, .int .i64 u, .int .i64 x] w fun e w'=>e= .returned (.int .i64 (nextV g.2.2 u x))∧Below w.heap.size w w':=by
 have H:=hDD h
 obtain⟨s,rfl,_,_,ha⟩:=h
 obtain⟨A,cap,rfl⟩:=ha.form
 obtain⟨R,hR⟩: ∃R,R=nextV g.2.2 u x:=⟨_,rfl⟩
 rw[←hR]
 unfold nextV at hR
 have HR:=hDD hR
 clear hR
 go_enter Tryz.func80,Tryz.ntmps80
 go_wp2_with fail
 have hb:Below w.heap.size w (w.alloc (Obj.cells #[Value.int IntKind.i64 g.1,Value.int IntKind.i64 g.2.1, .slice A g.2.2.length cap] 26)):=(by repeat(first | exact Below.refl _ _ | (refine Below.setCell ?_ (by first | omega | (simp<;>omega)) _) | (refine bel_drewN ?_ _) | (refine Below.drew ?_) | (refine Below.alloc ?_ (by first | omega | (simp<;>omega)) _)))
 refine(implStepsFrom_any _ g u x _ (H.out.below hb) hone hlet).mono ?_
 rintro e w1 ⟨r,rfl,o1,b1⟩
 have B1:=hDD (hb.trans (b1.mono hb.size))
 generalize stepsL g.2.2 u x=L at o1 HR
 clear hb b1 ha
 obtain⟨A1,cap1,rfl,hc1,hm1,_,_⟩:=o1.form
 match L,o1,HR with
 | [],o1,HR=>
   have F:Hid (R= -1):=HR
   clear o1
   go_wp2
   go_ret
   exact⟨ret_int F.out.symm,B1.out⟩
 | y::L,o1,HR=>
   obtain rfl:R=y:=HR.out
   clear HR
   obtain⟨b,off,rfl,hbl,hc⟩:=o1.rd.at (by simp)
   have c0:=hc 0 (by simp)
   simp only[List.getElem_cons_zero,Nat.add_zero] at c0
   clear o1 hc
   go_wp2
   go_ret
   exact⟨rfl,B1.out⟩
structure TreeW (bb P N:Nat) (w:World) (ord:Value) (o:List Int):Prop where
 ex: ∃vs:List Value,vs.length=N∧w.ownsRow bb 37 1 (.slice (some ⟨P,0,none⟩) N N) N vs∧ ∀(j:Nat) (hj:j<vs.length),
  ((j:Int)∉o∧vs[j]= .slice none 0 0)∨((j:Int)∈o∧ ∃(b cap:Nat) (ws:List Int),vs[j]= .slice (some ⟨b,0,none⟩) ws.length cap∧ws.length≤o.length∧RdI w vs[j] ws∧b≠P∧ord.ownBlock≠some b∧b<w.heap.size)
 ne:ord.ownBlock≠some P
section
variable {bb P N:Nat} {w w':World} {ord:Value} {o:List Int}
theorem TreeW.lt (h:TreeW bb P N w ord o):bb≤P∧P<w.heap.size:=by
 obtain⟨vs,_,h2,_⟩:=h.ex
 exact h2.lt P rfl
theorem TreeW.at_new (h:TreeW bb P N w ord o) {y:Nat} (hy:y<N) (hn:(y:Int)∉o):w.cell? ⟨P,y,none⟩=some (.slice none 0 0):=by
 obtain⟨vs,h1,h2,h3⟩:=h.ex
 rw[World.ownsRow.cellAt h2 y (by omega)]
 rcases h3 y (by omega) with ⟨_,h4⟩ | ⟨h4,_⟩
 ·rw[List.getElem?_eq_getElem (by omega),h4]
 ·exact absurd h4 hn
theorem TreeW.at_old (h:TreeW bb P N w ord o) {y:Nat} (hy:y<N) (hn:(y:Int)∈o):
  ∃(b cap:Nat) (ws:List Int),w.cell? ⟨P,y,none⟩=some (.slice (some ⟨b,0,none⟩) ws.length cap)∧ws.length≤o.length∧RdI w (.slice (some ⟨b,0,none⟩) ws.length cap) ws:=by
 obtain⟨vs,h1,h2,h3⟩:=h.ex
 rw[World.ownsRow.cellAt h2 y (by omega)]
 rcases h3 y (by omega) with ⟨h4,_⟩ | ⟨_,b,cap,ws,e1,e2,e3,_⟩
 ·exact absurd hn h4
 ·rw[e1] at e3
  exact⟨b,cap,ws,by rw[List.getElem?_eq_getElem (by omega),e1],e2,e3⟩
theorem TreeW.free (h:TreeW bb P N w ord o) (j:Nat):w.frozen? ⟨P,j,none⟩=false:=by
 obtain⟨vs,h1,h2,h3⟩:=h.ex
 exact World.ownsRow.frozenAt h2 j
theorem TreeW.below (h:TreeW bb P N w ord o) (hb:Below w.heap.size w w'):TreeW bb P N w' ord o:=by
 obtain⟨vs,h1,h2,h3⟩:=h.ex
 refine⟨⟨vs,h1,ownsRow_below h2 hb,fun j hj=> ?_⟩,h.ne⟩
 rcases h3 j hj with h4 | ⟨h4,b,cap,ws,e1,e2,e3,e4,e5,e6⟩
 ·exact .inl h4
 ·exact .inr ⟨h4,b,cap,ws,e1,e2,e3.below hb,e4,e5,by have:=hb.size;omega⟩
theorem TreeW.set (h:TreeW bb P N w ord o) {y:Nat} (hy:y<N) {b cap:Nat} {ws:List Int} (hr:RdI w (.slice (some ⟨b,0,none⟩) ws.length cap) ws) (hl:ws.length≤o.length+1) (hb:b≠P) (ho:ord.ownBlock≠some b) (hlt:b<w.heap.size):
  TreeW bb P N (w.setCell ⟨P,y,none⟩ (.slice (some ⟨b,0,none⟩) ws.length cap)) ord (o++ [(y:Int)]):=by
 obtain⟨vs,h1,h2,h3⟩:=h.ex
 obtain⟨s1,s2⟩:=World.ownsRow.stored h2 y (.slice (some ⟨b,0,none⟩) ws.length cap)
 have hsz:(w.setCell ⟨P,y,none⟩ (.slice (some ⟨b,0,none⟩) ws.length cap)).heap.size=w.heap.size:=by simp
 have hg:w.grownBy (w.setCell ⟨P,y,none⟩ (.slice (some ⟨b,0,none⟩) ws.length cap)) (some P):=set_grown _ _ _ _
 refine⟨⟨_,by simpa using h1,s1,fun j hj=> ?_⟩,h.ne⟩
 have hj':j<vs.length:=by simpa using hj
 by_cases hjy:j=y
 ·subst hjy
  refine .inr ⟨by simp,b,cap,ws,by simp,by simp;omega,?_,hb,ho,by omega⟩
  rw[List.getElem_set_self]
  exact hr.grown hg fun x hx hx'=>by simp[Value.ownBlock] at hx hx';omega
 ·rw[List.getElem_set_ne (Ne.symm hjy)]
  rcases h3 j hj' with ⟨h4,h5⟩ | ⟨h4,b',cap',ws',e1,e2,e3,e4,e5,e6⟩
  ·refine .inl ⟨?_,h5⟩
   rw[List.mem_append,List.mem_singleton]
   rintro(h6 | h6)
   ·exact h4 h6
   ·omega
  ·refine .inr ⟨List.mem_append_left _ h4,b',cap',ws',e1,by simp;omega,e3.grown hg fun x hx hx'=> ?_,e4,e5,by omega⟩
   rw[e1] at hx
   simp[Value.ownBlock] at hx hx'
   omega
theorem TreeW.lit (h:TreeW bb P N w (.slice none 0 0) o) (ob:Obj) (n c:Nat):TreeW bb P N (w.alloc ob) (.slice (some ⟨w.heap.size,0,none⟩) n c) o:=by
 have hlt:=h.lt
 obtain⟨vs,h1,h2,h3⟩:=h.ex
 refine⟨⟨vs,h1,ownsRow_below h2 ((Below.refl w.heap.size w).alloc (Nat.le_refl _) ob),fun j hj=> ?_⟩,by simp[Value.ownBlock];omega⟩
 rcases h3 j hj with h4 | ⟨h4,b,cap,ws,e1,e2,e3,e4,e5,e6⟩
 ·exact .inl h4
 ·exact .inr ⟨h4,b,cap,ws,e1,e2,e3.alloc _,e4,by simp[Value.ownBlock];omega,by simp;omega⟩
theorem TreeW.push (h:TreeW bb P N w ord o) {w9:World} {v9:Value} {ob:Obj} (hg:(w.alloc ob).grownBy w9 ord.ownBlock) (hp:v9.ownBlock=ord.ownBlock∨v9.ownBlock=some (w.alloc ob).heap.size):TreeW bb P N w9 v9 o:=by
 have hlt:=h.lt
 have h':=h.below ((Below.refl w.heap.size w).alloc (Nat.le_refl _) ob)
 obtain⟨vs,h1,h2,h3⟩:=h'.ex
 have hs:(w.alloc ob).heap.size=w.heap.size+1:=by simp
 have hs9:=hg.size
 refine⟨⟨vs,h1,h2.kept hg (.inr fun e=>h.ne e.symm),fun j hj=> ?_⟩,?_⟩
 ·rcases h3 j hj with h4 | ⟨h4,b,cap,ws,e1,e2,e3,e4,e5,e6⟩
  ·exact .inl h4
  ·refine .inr ⟨h4,b,cap,ws,e1,e2,e3.grown hg fun x hx hx'=> ?_,e4,?_,by omega⟩
   ·rw[e1] at hx
    simp only[Value.ownBlock,Option.some.injEq] at hx
    subst hx
    exact e5 hx'
   ·rcases hp with hp | hp
    ·rw[hp];exact e5
    ·rw[hp]
     intro e
     injection e with e
     omega
 ·rcases hp with hp | hp
  ·rw[hp];exact h.ne
  ·rw[hp]
   intro e
   injection e with e
   omega
end
theorem ints_info':(Tryz.prog.info? 37).map (fun i=>(i.zero,i.size,i.bytes))=some (some (.slice none 0 0),1,24):=by kernel_rfl
set_option maxHeartbeats 1000000 in
theorem tree_any (v:Value) (g:GrD) (w:World) (h:ArgG w v g) (hf:foldB g=true):
  Calls Tryz.prog 192 #[v, .int .i64 0] w fun e w'=> ∃r s,e= .returned (.tuple #[r,s])∧OwI w' w.heap.size r (canO g)∧Below w.heap.size w w':=by
 have HG:=hDD h
 obtain⟨hg,hfol⟩:=foldB_parts hf
 have ONE:=hDD (steps_one hfol)
 have LET:=hDD (let_of_gr hg)
 obtain⟨hr13,hsz40,hl120,_⟩:=grB_parts hg
 obtain⟨A,cap,hv⟩: ∃A cap,v= .agg #[.int .i64 g.1, .int .i64 g.2.1, .slice A g.2.2.length cap]:=by
  obtain⟨s,hv,_,_,ha⟩:=h
  obtain⟨A,cap,rfl⟩:=ha.form
  exact⟨A,cap,hv⟩
 subst hv
 obtain⟨N,hN⟩: ∃N:Nat,g.2.1=(N:Int):=⟨g.2.1.toNat,by omega⟩
 obtain⟨rn,hrn⟩: ∃rn:Nat,g.1=(rn:Int):=⟨g.1.toNat,by omega⟩
 have hrn1:1≤rn:=by omega
 have hrn3:rn≤3:=by omega
 have hN1:1≤N:=by omega
 have hN2:N≤40:=by omega
 have HCO:Hid (canO g=canF g.2.2 (lettersL rn) 41 0 [0]):=hDD (by unfold canO;rw[hrn];rfl)
 have OK0:=hDD (OrdOk.one (n:=g.2.1) (by omega))
 have OKS:Hid (∀(u:Int) (o:List Int) (k:Nat),OrdOk g.2.1 o→OrdOk g.2.1 (((lettersL rn).take k).foldl (cstep g.2.2 u) o)):=hDD fun u o k h=>cfold_take_ok hg _ k h
 have OKL:Hid (∀o:List Int,OrdOk g.2.1 o→o.length≤40):=hDD fun o h=>h.len (by omega) (by omega)
 have OKR:Hid (∀o:List Int,OrdOk g.2.1 o→ ∀y∈o,0≤y∧y<N):=hDD fun o h y hy=>by have:=h.2.1 y hy;omega
 have NV:Hid (∀u x,nextV g.2.2 u x= -1∨(0≤nextV g.2.2 u x∧nextV g.2.2 u x<N)):=hDD fun u x=>by
  rcases nextV_range hg u x with e | e
  ·exact .inl e
  ·exact .inr ⟨e.1,by omega⟩
 have hll:=lettersL_len rn
 have HLE:Hid (∀W:World,Calls Tryz.prog 79 #[.int .i64 g.1] W fun e w'=> ∃r,e= .returned r∧OwI w' W.heap.size r (lettersL rn)∧Below W.heap.size W w'):=hDD fun W=>by
  rw[hrn]
  exact letters_any rn W (by omega)
 generalize lettersL rn=ls at*
 rw[hN] at HG
 clear hg hf hfol h hrn
 have hr1:1≤g.1∧g.1≤3:=hr13
 clear hsz40 hl120 hr13
 rw[hN]
 have bx:Below w.heap.size w (w.alloc (Obj.cells #[Value.int IntKind.i64 g.1,Value.int IntKind.i64 N, .slice A g.2.2.length cap] 26)):=(by repeat(first | exact Below.refl _ _ | (refine Below.setCell ?_ (by first | omega | (simp<;>omega)) _) | (refine bel_drewN ?_ _) | (refine Below.drew ?_) | (refine Below.alloc ?_ (by first | omega | (simp<;>omega)) _)))
 have k0:(w.alloc (Obj.cells #[Value.int IntKind.i64 g.1,Value.int IntKind.i64 N, .slice A g.2.2.length cap] 26)).cell? ⟨w.heap.size,0,none⟩=some (.int .i64 g.1):=by simp[go_sem]
 have k1:(w.alloc (Obj.cells #[Value.int IntKind.i64 g.1,Value.int IntKind.i64 N, .slice A g.2.2.length cap] 26)).cell? ⟨w.heap.size,1,none⟩=some (.int .i64 N):=by simp[go_sem]
 have k2:(w.alloc (Obj.cells #[Value.int IntKind.i64 g.1,Value.int IntKind.i64 N, .slice A g.2.2.length cap] 26)).cell? ⟨w.heap.size,2,none⟩=some (.slice A g.2.2.length cap):=by simp[go_sem]
 have sx:w.heap.size<(w.alloc (Obj.cells #[Value.int IntKind.i64 g.1,Value.int IntKind.i64 N, .slice A g.2.2.length cap] 26)).heap.size:=by simp
 have ex:(w.alloc (Obj.cells #[Value.int IntKind.i64 g.1,Value.int IntKind.i64 N, .slice A g.2.2.length cap] 26)).heap.size=w.heap.size+1:=by simp
 have qT: ∀(w:World) (a:Option Addr) (n c n' c':Nat),(binOp .eql 37 (.slice a n c) (.slice none n' c')).run Tryz.prog w= .ok (.bool a.isNone) w:=fun w a n c n' c'=>Lib.run_eql_slice_nil w _ _ a n c n' c' Tryz.underlying37
 go_enter Tryz.func192,Tryz.ntmps192
 obtain⟨i0,hi0,hz0,hz1,hz2⟩:=info_parts ints_info'
 go_wp2_with (at_make;refine wpList_make_full _ rfl _ _ 69 rfl (w.heap.size+1) 37 i0 (.slice none 0 0) 1 Tryz.underlying69 hi0 hz0 hz1 _ _ _ _ N rfl rfl rfl rfl (by rw[hz2];omega) (by unfold maxLen;omega) (by simp) ?_)
 generalize w.alloc (Obj.cells #[Value.int IntKind.i64 g.1,Value.int IntKind.i64 N, .slice A g.2.2.length cap] 26)=w1 at bx k0 k1 k2 sx ex⊢
 rw[←ex]
 have BX:=hDD bx
 have K0:=hDD k0
 have K1:=hDD k1
 have K2:=hDD k2
 have EX:=hDD ex
 clear k0 k1 k2 bx ex
 intro w2 hown0 hgrow0
 have hP2:w1.heap.size<w2.heap.size:=(hown0.lt w1.heap.size rfl).2
 have B12:Below w1.heap.size w1 w2:=(Below.refl w1.heap.size w1).grown hgrow0 (Nat.le_refl _) (fun k h=>by cases h)
 have TW0:TreeW w1.heap.size w1.heap.size N w2 (.slice none 0 0) []:=⟨⟨List.replicate N (.slice none 0 0),by simp,by simpa[toList_madeCells_one] using hown0,fun j hj=> .inl ⟨by simp,by simp⟩⟩,by simp[Value.ownBlock]⟩
 have TW1:TreeW w1.heap.size w1.heap.size N (w2.alloc (.cells #[] 3)) (.slice none 0 0) []:=TW0.below ((Below.refl _ _).alloc (Nat.le_refl _) _)
 have oE:OwI (w2.alloc (.cells #[] 3)) w2.heap.size (.slice (some ⟨w2.heap.size,0,none⟩) 0 0) []:=OwI_lit w2 [] (fun _ h=>by cases h) (by simp) (Nat.le_refl _)
 have TW2:=TW1.set (y:=0) (by omega) (b:=w2.heap.size) (cap:=0) (ws:= []) oE.rd (by simp) (by omega) (by simp[Value.ownBlock]) (by simp)
 have hc0:=TW1.at_new (y:=0) (by omega) (by simp)
 have hf0:=TW1.free 0
 have j1:(0:Int)<(N:Int):=by omega
 have TWH:=hDD TW2
 have B13:Hid (Below w1.heap.size w1 ((w2.alloc (.cells #[] 3)).setCell ⟨w1.heap.size,0,none⟩ (.slice (some ⟨w2.heap.size,0,none⟩) 0 0))):=hDD ((B12.alloc (by omega) _).setCell (by show w1.heap.size≤w1.heap.size;omega) _)
 clear TW0 TW1 TW2 oE hown0 hgrow0 B12
 go_wp2
 have oO:OwI (((w2.alloc (.cells #[] 3)).setCell ⟨w1.heap.size,0,none⟩ (.slice (some ⟨w2.heap.size,0,none⟩) 0 0)).alloc (.cells #[Value.int IntKind.i64 0] 3)) (w1.heap.size+1) (.slice (some ⟨w2.heap.size+1,0,none⟩) 1 1) [0]:=OwI_litN _ [0] (w2.heap.size+1) (by simp) (fun x hx=>by simp at hx;subst hx;exact⟨by decide,by decide⟩) (by simp) (by omega)
 have TWL:=TWH.out.lit (.cells #[Value.int IntKind.i64 0] 3) 1 1
 have B14:Below w1.heap.size w1 (((w2.alloc (.cells #[] 3)).setCell ⟨w1.heap.size,0,none⟩ (.slice (some ⟨w2.heap.size,0,none⟩) 0 0)).alloc (.cells #[Value.int IntKind.i64 0] 3)):=B13.out.alloc (by simp;omega) _
 have e3:((w2.alloc (.cells #[] 3)).setCell ⟨w1.heap.size,0,none⟩ (.slice (some ⟨w2.heap.size,0,none⟩) 0 0)).heap.size=w2.heap.size+1:=by simp
 simp only[List.length_nil,List.nil_append] at TWL
 rw[e3] at TWL
 have hsw:(w2.alloc (.cells #[] 3)).setCell ⟨w1.heap.size,0,none⟩ (.slice (some ⟨w2.heap.size,0,none⟩) 0 0)=(w2.setCell ⟨w1.heap.size,0,none⟩ (.slice (some ⟨w2.heap.size,0,none⟩) 0 0)).alloc (.cells #[] 3):=World.setCell_alloc_past _ _ _ _ hP2
 rw[hsw] at oO TWL B14
 generalize ((w2.setCell ⟨w1.heap.size,0,none⟩ (.slice (some ⟨w2.heap.size,0,none⟩) 0 0)).alloc (.cells #[] 3)).alloc (.cells #[Value.int IntKind.i64 0] 3)=w3 at oO TWL B14⊢
 have OO:=hDD oO
 have TW:=hDD TWL
 have HB0:=hDD B14
 clear oO TWL B14 e3 hc0 hf0 TWH B13
 go_loopw [7,8] (fun out i wo=> ∃(k:Nat) (o:List Int),k≤o.length∧i= .int .i64 k∧OrdOk g.2.1 o∧canO g=canF g.2.2 ls (41-k) k o∧OwI wo (w1.heap.size+1) out o∧TreeW w1.heap.size w1.heap.size N wo out o∧Below w1.heap.size w1 wo) (fun _ i _=>41-(intOf i).toNat)
 case atStart=>exact⟨0,[0],by simp,rfl,OK0.out,HCO.out,OO.out,TW.out,HB0.out⟩
 case round=>
  obtain⟨k,o,hk,rfl,hok,hco,hown,htw,hbel⟩:=hrel
  obtain⟨wo,rfl⟩: ∃wo:World,wo=wr:=⟨_,rfl⟩
  have hol:=OKL.out o hok
  have HOK:=hDD hok
  have HC:=hDD hco
  have HO:=hDD hown
  have HTW:=hDD htw
  have HB2:=hDD hbel
  have hsz:=hbel.size
  have q0:=(hbel.cell (p:=⟨w.heap.size,0,none⟩) sx).trans K0.out
  obtain⟨A1,cap1,rfl,_,_,_,hf2⟩:=hown.form
  clear hok hco htw hbel
  by_cases hlt:k<o.length
  ·obtain⟨u,hu⟩: ∃u,o[k]? =some u:=⟨o[k],by simp⟩
   have hku:o[k]=u:=by rw[List.getElem?_eq_getElem hlt] at hu;injection hu
   have HCF:Hid (canO g=canF g.2.2 ls (41-(k+1)) (k+1) (ls.foldl (cstep g.2.2 u) o)):=hDD (by
    rw[HC.out,show 41-k=(41-(k+1))+1 by omega,canF_step _ _ _ _ _ hlt,hku])
   have HPU:Hid (∀m:Nat,(((ls.take m).foldl (cstep g.2.2 u) o))[k]? =some u):=hDD fun m=>cfold_prefix _ _ _ _ _ _ hu
   have HSU:Hid (∀(m:Nat) (hm:m<ls.length),(ls.take (m+1)).foldl (cstep g.2.2 u) o=cstep g.2.2 u ((ls.take m).foldl (cstep g.2.2 u) o) ls[m]):=hDD fun m hm=>cfold_succ _ _ _ _ _ hm
   have HOKm:Hid (∀m:Nat,OrdOk g.2.1 ((ls.take m).foldl (cstep g.2.2 u) o)):=hDD fun m=>OKS.out u o m HOK.out
   obtain⟨un,hun,hunN⟩: ∃un:Nat,u=(un:Int)∧un<N:=by
    have h1:=HOK.out.2.1 u (by rw[←hku];simp)
    exact⟨u.toNat,by omega,by omega⟩
   obtain⟨b1,rfl,_,hb1⟩:=hf2 (by omega)
   have ck:=hown.cellAt k hlt
   rw[hku] at ck
   have HUN:=hDD hun
   clear hf2 hu hku hown hun
   go_wp2_with fail
   refine(HLE.out wo).mono ?_
   rintro e wl ⟨rl,rfl,ol,bl⟩
   have sl:=bl.size
   obtain⟨Al,capl,rfl,hcl,hml,_,hfl⟩:=ol.form
   obtain⟨gl,rfl,hgl1,hgl2⟩:=hfl (by omega)
   unfold maxLen at hml
   have OL:=hDD ol.rd
   have BL:=hDD bl
   have HO3:=hDD (HO.out.below bl)
   have HT3:=hDD (HTW.out.below bl)
   have hne1:b1≠gl:=by omega
   clear hfl ol bl
   go_wp2
   go_loopw [7,36] (fun out j wr=> ∃m:Nat,m≤ls.length∧j= .int .i64 m∧OwI wr (w1.heap.size+1) out ((ls.take m).foldl (cstep g.2.2 u) o)∧TreeW w1.heap.size w1.heap.size N wr out ((ls.take m).foldl (cstep g.2.2 u) o)∧RdI wr (.slice (some ⟨gl,0,none⟩) ls.length capl) ls∧out.ownBlock≠some gl∧gl≠w1.heap.size∧gl<wr.heap.size∧Below w1.heap.size wl wr) (fun _ j _=>ls.length-(intOf j).toNat)
   case atStart=>exact⟨0,Nat.zero_le _,rfl,HO3.out,HT3.out,OL.out,by simp[Value.ownBlock];omega,by have:=HTW.out.lt;omega,hgl2,Below.refl _ _⟩
   case round=>
    obtain⟨m,hm1,rfl,hown,htw,hrd,hne,hnP,hblr,hbi⟩:=hrel
    have hsi:=hbi.size
    have HBI:=hDD hbi
    have HB4:Hid (Below w1.heap.size w1 wr):=hDD ((HB2.out.trans (BL.out.mono (by omega))).trans hbi)
    have p0:=(HB4.out.cell (p:=⟨w.heap.size,0,none⟩) sx).trans K0.out
    have p1:=(HB4.out.cell (p:=⟨w.heap.size,1,none⟩) sx).trans K1.out
    have p2:=(HB4.out.cell (p:=⟨w.heap.size,2,none⟩) sx).trans K2.out
    have HRR:=hDD hrd
    have HNR:=hDD hne
    have HTW2:=hDD htw
    clear hbi htw
    by_cases hlt2:m<ls.length
    ·have hokm:=HOKm.out m
     have hlm:=OKL.out _ hokm
     have hpu:=HPU.out m
     have HS:=hDD (HSU.out m hlt2)
     have HORm:=hDD (OKR.out _ hokm)
     obtain⟨_,_,hAl,_,hcl⟩:=hrd.at (by omega)
     obtain⟨rfl,rfl⟩:gl=_∧0=_:=by simpa using hAl
     have c0:=hcl m hlt2
     rw[Nat.zero_add] at c0
     have hx64:I64 ls[m]:=hrd.2 _ (by simp)
     generalize ls[m]=x at c0 HS hx64
     have HX:=hDD hx64
     generalize (ls.take m).foldl (cstep g.2.2 u) o=om at*
     have hum:u∈om:=List.mem_of_getElem? hpu
     have HUM:=hDD hum
     have HOM:=hDD hown
     have NX:=hDD (NV.out u x)
     have N0:=hDD (cstep_no (es:=g.2.2) (u:=u) (x:=x) (o:=om))
     have N1:=hDD (cstep_in (es:=g.2.2) (u:=u) (x:=x) (o:=om))
     have N2:=hDD (cstep_new (es:=g.2.2) (u:=u) (x:=x) (o:=om))
     have HNX:=hDD (implNextVertex_any _ g u x wr (HG.out.below (BX.out.trans (HB4.out.mono (by omega)))) (ONE.out u x) LET.out)
     clear hcl hAl hown hrd hpu hokm hx64 hum
     go_wp2_with fail
     refine HNX.out.mono ?_
     rintro e wq ⟨rfl,bq⟩
     clear HNX
     have sq:=bq.size
     have HQ:Hid (Below w1.heap.size wl wq):=hDD (HBI.out.trans (bq.mono (by omega)))
     have HOQ:=hDD (HOM.out.below bq)
     have HRQ:=hDD (HRR.out.below bq)
     have HTQ:=hDD (HTW2.out.below bq)
     clear bq p0 p1 p2
     generalize nextV g.2.2 u x=y at*
     rcases NX.out with hy | hy
     ·subst hy
      have F:=hDD (N0.out (by omega))
      go_wp2
      go_roundw
      case rel=>exact⟨m+1,by omega,by go_num,by rw[HS.out,F.out];exact HOQ.out,by rw[HS.out,F.out];exact HTQ.out,HRQ.out,HNR.out,hnP,by omega,HQ.out⟩
      case measure=>simp[intOf];omega
     ·obtain⟨yn,rfl⟩: ∃yn:Nat,y=(yn:Int):=⟨y.toNat,by omega⟩
      have hy0:(0:Int)≤(yn:Int):=hy.1
      have hyN:(yn:Int)<(N:Int):=hy.2
      have hynN:yn<N:=by omega
      rcases h1:hasB om (yn:Int) with _ | _
      ·have F:=hDD (N2.out hy0 h1)
       have HY:Hid (I64 (yn:Int)):=hDD ⟨by omega,by omega⟩
       have hnotin:(yn:Int)∉om:=hasB_not h1
       have ct:=HTQ.out.at_new hynN hnotin
       have ft:=HTQ.out.free yn
       obtain⟨bu,capu,wu,cu,hwul,hru⟩:=HTQ.out.at_old hunN (by rw[←HUN.out];exact HUM.out)
       have HRU:=hDD hru
       have huN':u<(N:Int):=by rw[HUN.out];omega
       have hu0':(0:Int)≤u:=by rw[HUN.out];omega
       have cu':wq.cell? ⟨w1.heap.size,u.toNat,none⟩=some (.slice (some ⟨bu,0,none⟩) wu.length capu):=by rw[HUN.out];exact cu
       clear hru hnotin
       go_wp2_with fail
       refine(copyInts_any _ wu _ HRU.out (by omega)).mono ?_
       rintro e wc ⟨rc,rfl,oc,bc⟩
       have sc:=bc.size
       have OC:=hDD oc
       have BC:=hDD bc
       have hPq:=HTQ.out.lt.2
       have hneT:=HTQ.out.ne
       have hA2: ∀x,u7.ownBlock=some x→x<wq.heap.size:=fun x hx=>(HOQ.out.1.lt x hx).2
       have HA2:=hDD hA2
       have CT:=hDD ct
       have FT:=hDD ft
       obtain⟨Ac,capc,rfl,_⟩:=OwI.form oc
       clear oc bc ct ft hA2
       go_wp2_with (first | ((at_builtin;refine push_int rfl (.tmp 59) (.tmp 61) rfl _ _ _ (OwI.alloc OC.out _) rfl _ _ rfl (cell_new1 _ _ _) HX.out (by first | omega | (simp<;>omega)) (by first | omega | (simp<;>omega)) ?_;intro v8 wv8 o8 g8 p8);obtain⟨A8,cap8,rfl,hl8,hm8,_,hf8⟩:=OwI.form o8;obtain⟨b8,rfl,hb81,hb82⟩:=hf8 (by simp);have B8:Below wq.heap.size wq wv8:=bel_push BC.out sc OC.out.1 (Nat.le_refl _) g8;have ct3:=(B8.cell (p:=⟨w1.heap.size,yn,none⟩) hPq).trans CT.out;have ft3:=(B8.frozen (p:=⟨w1.heap.size,yn,none⟩) hPq).trans FT.out;have hts:=(HTQ.out.below B8).set hynN o8.rd (by simp;omega) (by omega) (fun e=>by have:=HA2.out _ e;omega) hb82;have s8:=B8.size;have HB8:=hDD B8;simp only[List.length_append,List.length_cons,List.length_nil,Nat.zero_add] at hts;have HTS:=hDD hts;clear o8 g8 p8 hf8 B8 hts;have hgS:wv8.grownBy (wv8.setCell ⟨w1.heap.size,yn,none⟩ (.slice (some ⟨b8,0,none⟩) (wu.length+1) cap8)) (some w1.heap.size):=set_grown _ _ _ _;have HOS:Hid (OwI (wv8.setCell ⟨w1.heap.size,yn,none⟩ (.slice (some ⟨b8,0,none⟩) (wu.length+1) cap8)) (w1.heap.size+1) u7 om):=hDD ((HOQ.out.below HB8.out).far (p:=⟨w1.heap.size,yn,none⟩) (by show w1.heap.size<_;omega) _);have HRS:Hid (RdI (wv8.setCell ⟨w1.heap.size,yn,none⟩ (.slice (some ⟨b8,0,none⟩) (wu.length+1) cap8)) (.slice (some ⟨gl,0,none⟩) ls.length capl) ls):=hDD ((HRQ.out.below HB8.out).grown hgS fun b hb hb'=>by simp[Value.ownBlock] at hb hb';omega);have HBS:Hid (Below w1.heap.size wl (wv8.setCell ⟨w1.heap.size,yn,none⟩ (.slice (some ⟨b8,0,none⟩) (wu.length+1) cap8))):=hDD ((HQ.out.trans (HB8.out.mono (by omega))).setCell (by show w1.heap.size≤w1.heap.size;omega) _);clear hgS) | (at_builtin;refine push_int rfl (.tmp 64) (.tmp 66) rfl _ _ _ (OwI.alloc HOS.out _) rfl _ _ rfl (by simp[go_sem]) HY.out (by first | omega | (simp<;>omega)) (by first | omega | (simp<;>omega)) ?_;intro v9 wv9 o9 g9 p9))
       have hS:(wv8.setCell ⟨w1.heap.size,yn,none⟩ (.slice (some ⟨b8,0,none⟩) (wu.length+1) cap8)).heap.size=wv8.heap.size:=by simp
       have hz9:=g9.size
       simp at hz9
       go_roundw
       case rel=>
        refine⟨m+1,by omega,by go_num,by rw[HS.out,F.out];exact o9,by rw[HS.out,F.out];exact HTS.out.push g9 p9,(HRS.out.alloc _).grown g9 (fun b hb hb'=> ?_),fun e=> ?_,hnP,by omega,bel_push HBS.out (by omega) HOS.out.1 (by omega) g9⟩
        ·simp only[Value.ownBlock,Option.some.injEq] at hb
         subst hb
         exact HNR.out hb'
        ·rcases p9 with p9 | p9
         ·rw[p9] at e;exact HNR.out e
         ·rw[p9] at e;simp at e;omega
       case measure=>simp[intOf];omega
      ·have F:=hDD (N1.out hy0 h1)
       obtain⟨bu,capu,wu,cu,hwul,hru⟩:=HTQ.out.at_old hynN (hasB_iff.1 h1)
       clear hru
       go_wp2
       go_roundw
       case rel=>exact⟨m+1,by omega,by go_num,by rw[HS.out,F.out];exact HOQ.out,by rw[HS.out,F.out];exact HTQ.out,HRQ.out,HNR.out,hnP,by omega,HQ.out⟩
       case measure=>simp[intOf];omega
    ·obtain rfl:m=ls.length:=by omega
     rw[List.take_length] at hown HTW2
     have hokm:=HOKm.out ls.length
     rw[List.take_length] at hokm
     have HOKF:=hDD hokm
     have HOM:=hDD hown
     have hlen:k+1≤(ls.foldl (cstep g.2.2 u) o).length:=by
      have:=HPU.out ls.length
      rw[List.take_length] at this
      have:=(List.getElem?_eq_some_iff.1 this).1
      omega
     obtain⟨A2,cap2,rfl,_⟩:=hown.form
     clear hown hrd hne hokm p0 p1 p2
     go_wp2
     go_roundw
     case rel=>exact⟨k+1,_,hlen,by go_num,HOKF.out,HCF.out,HOM.out,HTW2.out,HB4.out⟩
     case measure=>simp[intOf];omega
  ·obtain rfl:k=o.length:=by omega
   have F:Hid (canO g=o):=hDD (by rw[HC.out,canF_end])
   clear hown hf2
   have HBW:Hid (Below w.heap.size w wo):=hDD (BX.out.trans (HB2.out.mono (by omega)))
   have HEX:=EX.out
   have hbase:w.heap.size≤w1.heap.size+1:=by omega
   clear HEX
   go_wp2
   exact bodyPost_ret (v:= .tuple #[.slice A1 o.length cap1, .slice (some ⟨w1.heap.size,0,none⟩) N N]) (by simp[results,Tryz.results192]) rfl ⟨_,_,rfl,by rw[F.out];exact HO.out.mono hbase,HBW.out⟩
end Go.Proofs.YtnjpoljbagfdnaaGreat
namespace Go.Proofs.YtnjpoljbagfdnaaGreat
set_option maxRecDepth 20000
set_option linter.unusedVariables false
set_option linter.unusedSimpArgs false
open Go.RowKit
def readF (es:List EdD):Int→List Int→Int×Nat
 | v,[]=>(v,0)
 | v,x::w=>if nextV es v x<0 then(v,0) else((readF es (nextV es v x) w).1,(readF es (nextV es v x) w).2+1)
theorem readF_step (es:List EdD) (v:Int) (w:List Int) (k:Nat) (h:k<w.length):readF es v (w.drop k)=if nextV es v w[k]<0 then(v,0) else((readF es (nextV es v w[k]) (w.drop (k+1))).1,(readF es (nextV es v w[k]) (w.drop (k+1))).2+1):=by
 rw[List.drop_eq_getElem_cons h]
 rfl
theorem walk_read (es:List EdD): ∀(w:List Int) (v:Int),0≤v→(walkF es v w<0∧(readF es v w).2<w.length)∨(0≤walkF es v w∧(readF es v w).2=w.length∧(readF es v w).1=walkF es v w)
 | [],v,hv=> .inr ⟨hv,rfl,rfl⟩
 | x::w,v,hv=>by
   unfold walkF readF
   by_cases h:nextV es v x<0
   ·rw[if_pos h,if_pos h]
    exact .inl ⟨by decide,by simp⟩
   ·rw[if_neg h,if_neg h]
    rcases walk_read es w (nextV es v x) (by omega) with ⟨h1,h2⟩ | ⟨h1,h2,h3⟩
    ·exact .inl ⟨h1,by simp only[List.length_cons];omega⟩
    ·exact .inr ⟨h1,by simp only[List.length_cons];omega,h3⟩
set_option maxHeartbeats 1000000 in
theorem read_any (v vw:Value) (g:GrD) (u:Int) (ws:List Int) (w:World) (h:ArgG w v g) (hw:RdI w vw ws) (hf:foldB g=true) (hu:0≤u∧u<g.2.1):
  Calls Tryz.prog 77 #[v, .int .i64 u,vw] w fun e w'=>e= .returned (.tuple #[.int .i64 (readF g.2.2 u ws).1, .int .i64 ((readF g.2.2 u ws).2:Nat)])∧Below w.heap.size w w':=by
 have HG:=hDD h
 have HW:=hDD hw
 obtain⟨hg,hfol⟩:=foldB_parts hf
 have ONE:=hDD (steps_one hfol)
 have LET:=hDD (let_of_gr hg)
 have NV:Hid (∀v x,nextV g.2.2 v x= -1∨(0≤nextV g.2.2 v x∧nextV g.2.2 v x<g.2.1)):=hDD fun v x=>nextV_range hg v x
 obtain⟨s,rfl,hi1,hi2,ha⟩:=h
 obtain⟨A,cap,rfl⟩:=ha.form
 obtain⟨Aw,capw,rfl,hcw,hmw,_⟩:=hw.arg
 unfold maxLen at hmw
 clear hf hg hfol ha hw
 have HR:Hid (readF g.2.2 u ws=((readF g.2.2 u (ws.drop 0)).1,0+(readF g.2.2 u (ws.drop 0)).2)):=hDD (by rw[List.drop_zero,Nat.zero_add])
 generalize readF g.2.2 u ws=R at*
 go_enter Tryz.func77,Tryz.ntmps77
 go_wp2_with fail
 have bx:Below w.heap.size w (w.alloc (Obj.cells #[Value.int IntKind.i64 g.1,Value.int IntKind.i64 g.2.1, .slice A g.2.2.length cap] 26)):=(by repeat(first | exact Below.refl _ _ | (refine Below.setCell ?_ (by first | omega | (simp<;>omega)) _) | (refine bel_drewN ?_ _) | (refine Below.drew ?_) | (refine Below.alloc ?_ (by first | omega | (simp<;>omega)) _)))
 have l0:(w.alloc (Obj.cells #[Value.int IntKind.i64 g.1,Value.int IntKind.i64 g.2.1, .slice A g.2.2.length cap] 26)).cell? ⟨w.heap.size,0,none⟩=some (.int .i64 g.1):=by simp[go_sem]
 have l1:(w.alloc (Obj.cells #[Value.int IntKind.i64 g.1,Value.int IntKind.i64 g.2.1, .slice A g.2.2.length cap] 26)).cell? ⟨w.heap.size,1,none⟩=some (.int .i64 g.2.1):=by simp[go_sem]
 have l2:(w.alloc (Obj.cells #[Value.int IntKind.i64 g.1,Value.int IntKind.i64 g.2.1, .slice A g.2.2.length cap] 26)).cell? ⟨w.heap.size,2,none⟩=some (.slice A g.2.2.length cap):=by simp[go_sem]
 have sA:w.heap.size<(w.alloc (Obj.cells #[Value.int IntKind.i64 g.1,Value.int IntKind.i64 g.2.1, .slice A g.2.2.length cap] 26)).heap.size:=by simp
 generalize w.alloc (Obj.cells #[Value.int IntKind.i64 g.1,Value.int IntKind.i64 g.2.1, .slice A g.2.2.length cap] 26)=W at bx l0 l1 l2 sA⊢
 have BX:=hDD bx
 have HA:Hid (∀w',Below W.heap.size W w'→ArgG w' (.agg #[.int .i64 g.1, .int .i64 g.2.1, .slice A g.2.2.length cap]) g):=hDD fun w' hb=>HG.out.below (BX.out.trans (hb.mono (by omega)))
 have L0:=hDD l0
 have L1:=hDD l1
 have L2:=hDD l2
 clear bx l0 l1 l2
 go_loopw [1,13] (fun a i wr=> ∃(k:Nat) (u':Int),k≤ws.length∧i= .int .i64 k∧a= .int .i64 u'∧(0≤u'∧u'<g.2.1)∧R=((readF g.2.2 u' (ws.drop k)).1,k+(readF g.2.2 u' (ws.drop k)).2)∧Below W.heap.size W wr) (fun _ i _=>ws.length-(intOf i).toNat)
 case atStart=>exact⟨0,u,Nat.zero_le _,rfl,rfl,hu,HR.out,Below.refl _ _⟩
 case round=>
  obtain⟨k,u',hk,rfl,rfl,hu',hR,hbel⟩:=hrel
  have HB:=hDD hbel
  have HRk:=hDD hR
  have hs:=hbel.size
  have q0:=(hbel.cell (p:=⟨w.heap.size,0,none⟩) sA).trans L0.out
  have q1:=(hbel.cell (p:=⟨w.heap.size,1,none⟩) sA).trans L1.out
  have q2:=(hbel.cell (p:=⟨w.heap.size,2,none⟩) sA).trans L2.out
  by_cases hlt:k<ws.length
  ·have HRW:=hDD (HW.out.below (BX.out.trans (hbel.mono (by omega))))
   obtain⟨bw,offw,rfl,hbw,hcw2⟩:=HRW.out.at (by omega)
   have c0:=hcw2 k hlt
   have ST:=hDD (readF_step g.2.2 u' ws k hlt)
   generalize ws[k]=x at c0 ST
   have NX:=hDD (NV.out u' x)
   have HNX:=hDD (implNextVertex_any _ g u' x wr (HA.out _ hbel) (ONE.out u' x) LET.out)
   clear hbel hR hcw2
   go_wp2_with fail
   refine HNX.out.mono ?_
   rintro e wq ⟨rfl,bq⟩
   have HQ:=hDD (HB.out.trans (bq.mono (by omega)))
   clear bq HNX q0 q1 q2 c0
   generalize nextV g.2.2 u' x=y at*
   rcases NX.out with hy | hy
   ·subst hy
    have F:Hid (R=(u',k)):=hDD (by rw[HRk.out,ST.out];rfl)
    go_wp2
    exact bodyPost_ret (v:= .tuple #[.int .i64 u', .int .i64 k]) (by simp[results,Tryz.results77]) rfl ⟨by rw[F.out],BX.out.trans (HQ.out.mono (by omega))⟩
   ·have hy0: ¬y<0:=by omega
    have F:Hid (R=((readF g.2.2 y (ws.drop (k+1))).1,(k+1)+(readF g.2.2 y (ws.drop (k+1))).2)):=hDD (by
     rw[HRk.out,ST.out,if_neg hy0]
     simp only
     rw[Nat.add_assoc,Nat.add_comm 1])
    go_wp2
    go_roundw
    case rel=>exact⟨k+1,y,by omega,by go_num,rfl,hy,F.out,HQ.out⟩
    case measure=>simp[intOf];omega
  ·obtain rfl:k=ws.length:=by omega
   have F:Hid (R=(u',ws.length)):=hDD (by rw[HRk.out,List.drop_length];rfl)
   clear hbel hR
   go_wp2
   exact bodyPost_ret (v:= .tuple #[.int .i64 u', .int .i64 ws.length]) (by simp[results,Tryz.results77]) rfl ⟨by rw[F.out],BX.out.trans (HB.out.mono (by omega))⟩
end Go.Proofs.YtnjpoljbagfdnaaGreat
namespace Go.Proofs.YtnjpoljbagfdnaaGreat
set_option maxRecDepth 20000
set_option linter.unusedVariables false
set_option linter.unusedSimpArgs false
open Go.RowKit
theorem srt_snocP {α:Type} (c:α→α→Int) (L:List α) (e:α):srt c (L++ [e])=insF c (srt c L) e:=by
 unfold srt
 rw[List.foldl_append]
 rfl
def stpE (u x v:Int):EdD:=if 0<x then(u,x,v) else(v,-x,u)
def nxP (N:Nat) (len:Nat) (v:Int) (j:Nat):Int:=if j+1<len then((N+j:Nat):Int) else v
def atP (N:Nat) (len:Nat) (u v:Int):Nat→Int
 | 0=>u
 | j+1=>nxP N len v j
theorem atP_succ (N len:Nat) (u v:Int) (j:Nat):atP N len u v (j+1)=nxP N len v j:=rfl
theorem getD_at {α:Type} {l:List α} {i:Nat} {d:α} (h:i<l.length):l.getD i d=l[i]:=by simp[h]
def pthE (N:Nat) (u v:Int) (w:List Int) (j:Nat):EdD:=stpE (atP N w.length u v j) (w.getD j 0) (nxP N w.length v j)
def pthL (N:Nat) (u v:Int) (w:List Int) (k:Nat):List EdD:=(List.range k).map (pthE N u v w)
theorem pthL_succ (N:Nat) (u v:Int) (w:List Int) (k:Nat):pthL N u v w (k+1)=pthL N u v w k++ [pthE N u v w k]:=by
 unfold pthL
 rw[List.range_succ,List.map_append]
 rfl
theorem pthL_len (N:Nat) (u v:Int) (w:List Int) (k:Nat):(pthL N u v w k).length=k:=by simp[pthL]
def szP (N len j:Nat):Nat:=N+min j (len-1)
theorem szP_succ {N len j:Nat} (h:j<len):szP N len (j+1)=if j+1<len then szP N len j+1 else szP N len j:=by
 unfold szP
 split<;>omega
theorem szP_at {N len j:Nat} (h:j+1<len):szP N len j=N+j:=by
 unfold szP
 omega
theorem atP_range {N len j:Nat} {u v:Int} (hu:0≤u∧u<N) (hv:0≤v∧v<N):0≤atP N len u v j∧atP N len u v j<N+len:=by
 cases j with
 | zero=>show 0≤u∧u<N+len;omega
 | succ j=>
   unfold atP nxP
   split<;>omega
theorem nxP_range {N len j:Nat} {v:Int} (hv:0≤v∧v<N):0≤nxP N len v j∧nxP N len v j<N+len:=by
 unfold nxP
 split<;>omega
def addG (g:GrD) (u v:Int) (w:List Int):GrD:=(g.1,((g.2.1.toNat+(w.length-1):Nat):Int),srt cmpE (g.2.2++pthL g.2.1.toNat u v w w.length))
def addOk (g:GrD) (t:List Int):Bool:=decide (g.2.1+t.length-1≤40∧(g.2.2.length:Int)+t.length≤120)
theorem srt_self {L:List EdD} (h:Srt cmpE L):srt cmpE L=L:=(srt_eq cmpE_ord h fun _=>Iff.rfl).symm
end Go.Proofs.YtnjpoljbagfdnaaGreat
namespace Go.Proofs.YtnjpoljbagfdnaaGreat
set_option maxRecDepth 20000
set_option linter.unusedVariables false
set_option linter.unusedSimpArgs false
open Go.RowKit
theorem set3_cells (w:World) (b:Nat) {x0 x1 x2:Value} (v0 v1 v2:Value) (h0:w.cell? ⟨b,0,none⟩=some x0) (h1:w.cell? ⟨b,1,none⟩=some x1) (h2:w.cell? ⟨b,2,none⟩=some x2):
  (((w.setCell ⟨b,0,none⟩ v0).setCell ⟨b,1,none⟩ v1).setCell ⟨b,2,none⟩ v2).cell? ⟨b,0,none⟩=some v0∧(((w.setCell ⟨b,0,none⟩ v0).setCell ⟨b,1,none⟩ v1).setCell ⟨b,2,none⟩ v2).cell? ⟨b,1,none⟩=some v1∧(((w.setCell ⟨b,0,none⟩ v0).setCell ⟨b,1,none⟩ v1).setCell ⟨b,2,none⟩ v2).cell? ⟨b,2,none⟩=some v2:=by
 refine⟨?_,?_,?_⟩
 ·rw[World.cell?_setCell_other _ _ _ _ (by simp),World.cell?_setCell_other _ _ _ _ (by simp),World.cell?_setCell_same _ _ _ h0]
 ·rw[World.cell?_setCell_other _ _ _ _ (by simp)]
  exact World.cell?_setCell_same _ _ _ ((World.cell?_setCell_other _ _ _ _ (by simp)).trans h1)
 ·exact World.cell?_setCell_same _ _ _ ((World.cell?_setCell_other _ _ _ _ (by simp)).trans ((World.cell?_setCell_other _ _ _ _ (by simp)).trans h2))
def canG (g:GrD):GrD:=rnG g (canO g)
set_option maxHeartbeats 1000000 in
theorem specCanonicalGraph_any (v:Value) (g:GrD) (w:World) (h:ArgG w v g) (hf:foldB g=true):
  Calls Tryz.prog 169 #[v] w fun e w'=> ∃r,e= .returned r∧OwG w' w.heap.size r (canG g)∧Below w.heap.size w w':=by
 have HG:=hDD h
 have HF:=hDD hf
 obtain⟨hg,_⟩:=foldB_parts hf
 have HGR:=hDD hg
 have hok:=canO_ok hg
 obtain⟨hr13,hsz40,hl120,_⟩:=grB_parts hg
 have hol1:1≤(canO g).length:=by
  have:=hok.2.2
  cases hc:canO g with
  | nil=>rw[hc] at this;cases this
  | cons _ _=>simp
 have hol:(canO g).length≤g.2.1.toNat:=nodup_len g.2.1.toNat _ hok.1 fun y hy=>by have:=hok.2.1 y hy;omega
 have HOK:=hDD hok
 have HCG:Hid (canG g=rnG g (canO g)):=hDD rfl
 obtain⟨s,rfl,hi1,hi2,ha⟩:=h
 clear hf hg hok
 generalize hO:canO g=o at*
 have HOE:=hDD hO
 clear hO
 obtain⟨r,n,es⟩:=g
 simp only at hr13 hsz40 hl120 hol hi1 hi2 ha HG⊢
 obtain⟨A,cap,rfl,hcap,hm,_⟩:=ha
 unfold maxLen at hm
 have bx:Below w.heap.size w ((w.alloc (Obj.cells #[Value.int IntKind.i64 r,Value.int IntKind.i64 n, .slice A es.length cap] 26)).alloc (Obj.cells #[Value.int IntKind.i64 0,Value.int IntKind.i64 0, .slice none 0 0] 26)):=(by repeat(first | exact Below.refl _ _ | (refine Below.setCell ?_ (by first | omega | (simp<;>omega)) _) | (refine bel_drewN ?_ _) | (refine Below.drew ?_) | (refine Below.alloc ?_ (by first | omega | (simp<;>omega)) _)))
 go_enter Tryz.func169,Tryz.ntmps169
 go_wp2_with fail
 obtain⟨W0,hW0⟩: ∃W,W=(w.alloc (Obj.cells #[Value.int IntKind.i64 r,Value.int IntKind.i64 n, .slice A es.length cap] 26)).alloc (Obj.cells #[Value.int IntKind.i64 0,Value.int IntKind.i64 0, .slice none 0 0] 26):=⟨_,rfl⟩
 rw[←hW0] at bx⊢
 have hsW:W0.heap.size=w.heap.size+2:=by rw[hW0];simp
 have B0:Hid (W0.cell? ⟨w.heap.size,0,none⟩=some (.int .i64 r)):=hDD (by rw[hW0];simp[go_sem])
 have B1:Hid (W0.cell? ⟨w.heap.size,1,none⟩=some (.int .i64 n)):=hDD (by rw[hW0];simp[go_sem])
 have B2:Hid (W0.cell? ⟨w.heap.size,2,none⟩=some (.slice A es.length cap)):=hDD (by rw[hW0];simp[go_sem])
 have R0:Hid (W0.cell? ⟨w.heap.size+1,0,none⟩=some (.int .i64 0)):=hDD (by rw[hW0];simp[go_sem])
 have R1:Hid (W0.cell? ⟨w.heap.size+1,1,none⟩=some (.int .i64 0)):=hDD (by rw[hW0];simp[go_sem])
 have R2:Hid (W0.cell? ⟨w.heap.size+1,2,none⟩=some (.slice none 0 0)):=hDD (by rw[hW0];simp[go_sem])
 have RF:Hid (∀j,W0.frozen? ⟨w.heap.size+1,j,none⟩=false):=hDD fun j=>by rw[hW0];simp[go_sem]
 clear hW0
 have BX:=hDD bx
 refine(specCanonicalOrder_any _ (r,n,es) W0 (HG.out.below bx) HF.out).mono ?_
 rintro e w1 ⟨r1,rfl,o1,b1⟩
 rw[HOE.out] at o1
 have O1:=hDD o1
 have BW1:=hDD b1
 have s1:=b1.size
 obtain⟨A1,cap1,rfl,hcp1,hmx1,_⟩:=OwI.form o1
 unfold maxLen at hmx1
 have q0:=(b1.cell (p:=⟨w.heap.size,0,none⟩) (show w.heap.size<W0.heap.size by omega)).trans B0.out
 have q1:=(b1.cell (p:=⟨w.heap.size,1,none⟩) (show w.heap.size<W0.heap.size by omega)).trans B1.out
 have q2:=(b1.cell (p:=⟨w.heap.size,2,none⟩) (show w.heap.size<W0.heap.size by omega)).trans B2.out
 have g0:((o.length:Int)==0)=false:=by rw[beq_eq_false_iff_ne];omega
 clear o1 b1 bx
 go_wp2_with fail
 refine(specRenumber_any _ _ (r,n,es) o w1 (HG.out.below (BX.out.trans (BW1.out.mono (by omega)))) O1.out.rd HGR.out HOK.out).mono ?_
 rintro e w2 ⟨r2,rfl,o2,b2⟩
 have BW2:=hDD b2
 have s2:=b2.size
 have O2:=hDD o2
 obtain⟨sv,rfl,hz1,hz2,hz3⟩:=o2
 obtain⟨A2,cap2,rfl,hcp2,hmx2,_⟩:=hz3.form
 have rf0:=((b2.frozen (p:=⟨w.heap.size+1,0,none⟩) (show w.heap.size+1<w1.heap.size by omega)).trans (BW1.out.frozen (p:=⟨w.heap.size+1,0,none⟩) (show w.heap.size+1<W0.heap.size by omega))).trans (RF.out 0)
 have rf1:=((b2.frozen (p:=⟨w.heap.size+1,1,none⟩) (show w.heap.size+1<w1.heap.size by omega)).trans (BW1.out.frozen (p:=⟨w.heap.size+1,1,none⟩) (show w.heap.size+1<W0.heap.size by omega))).trans (RF.out 1)
 have rf2:=((b2.frozen (p:=⟨w.heap.size+1,2,none⟩) (show w.heap.size+1<w1.heap.size by omega)).trans (BW1.out.frozen (p:=⟨w.heap.size+1,2,none⟩) (show w.heap.size+1<W0.heap.size by omega))).trans (RF.out 2)
 have rr0:=((b2.cell (p:=⟨w.heap.size+1,0,none⟩) (show w.heap.size+1<w1.heap.size by omega)).trans (BW1.out.cell (p:=⟨w.heap.size+1,0,none⟩) (show w.heap.size+1<W0.heap.size by omega))).trans R0.out
 have rr1:=((b2.cell (p:=⟨w.heap.size+1,1,none⟩) (show w.heap.size+1<w1.heap.size by omega)).trans (BW1.out.cell (p:=⟨w.heap.size+1,1,none⟩) (show w.heap.size+1<W0.heap.size by omega))).trans R1.out
 have rr2:=((b2.cell (p:=⟨w.heap.size+1,2,none⟩) (show w.heap.size+1<w1.heap.size by omega)).trans (BW1.out.cell (p:=⟨w.heap.size+1,2,none⟩) (show w.heap.size+1<W0.heap.size by omega))).trans R2.out
 clear b2 q0 q1 q2 hz3
 generalize rnG (r,n,es) o=D at*
 obtain⟨dr,dn,de⟩:=D
 simp only at O2 hz1 hz2 hcp2⊢
 have hlt:w.heap.size+1<w2.heap.size:=by omega
 have hA: ∀ob o',(w2.alloc ob).cell? ⟨w.heap.size+1,o',none⟩=w2.cell? ⟨w.heap.size+1,o',none⟩:=fun ob o'=>World.cell?_of_block (Below.heap_alloc w2 ob _ hlt)
 have hAf: ∀ob o',(w2.alloc ob).frozen? ⟨w.heap.size+1,o',none⟩=w2.frozen? ⟨w.heap.size+1,o',none⟩:=fun ob o'=>World.frozen?_of_block (Below.heap_alloc w2 ob _ hlt)
 go_wp2
 obtain⟨c0,c1,c2⟩:=set3_cells w2 (w.heap.size+1) (.int .i64 dr) (.int .i64 dn) (.slice A2 de.length cap2) rr0 rr1 rr2
 have BB:Hid (Below w.heap.size w w2):=hDD (BX.out.trans ((BW1.out.mono (by omega)).trans (BW2.out.mono (by omega))))
 have bw:Below w.heap.size w (((w2.setCell ⟨w.heap.size+1,0,none⟩ (.int .i64 dr)).setCell ⟨w.heap.size+1,1,none⟩ (.int .i64 dn)).setCell ⟨w.heap.size+1,2,none⟩ (.slice A2 de.length cap2)):=(by repeat(first | exact Below.refl _ _ | (refine Below.setCell ?_ (by first | omega | (simp<;>omega)) _) | (refine bel_drewN ?_ _) | (refine Below.drew ?_) | (refine Below.alloc ?_ (by first | omega | (simp<;>omega)) _) | (refine Below.trans ?_ (Below.mono (Hid.out BB) (by first | omega | (simp<;>omega))))))
 have ow:OwE (((w2.setCell ⟨w.heap.size+1,0,none⟩ (.int .i64 dr)).setCell ⟨w.heap.size+1,1,none⟩ (.int .i64 dn)).setCell ⟨w.heap.size+1,2,none⟩ (.slice A2 de.length cap2)) w1.heap.size (.slice A2 de.length cap2) de:=by
  obtain⟨sv,e,_,_,ha⟩:=O2.out
  injection e with e
  have e3:sv= .slice A2 de.length cap2:=by injection e with e;injection e with _ e;injection e with _ e;injection e with e _;exact e.symm
  subst e3
  exact((ha.far (by show w.heap.size+1<_;omega) _).far (by show w.heap.size+1<_;omega) _).far (by show w.heap.size+1<_;omega) _
 have hsz3:(((w2.setCell ⟨w.heap.size+1,0,none⟩ (.int .i64 dr)).setCell ⟨w.heap.size+1,1,none⟩ (.int .i64 dn)).setCell ⟨w.heap.size+1,2,none⟩ (.slice A2 de.length cap2)).heap.size=w2.heap.size:=by simp
 generalize ((w2.setCell ⟨w.heap.size+1,0,none⟩ (.int .i64 dr)).setCell ⟨w.heap.size+1,1,none⟩ (.int .i64 dn)).setCell ⟨w.heap.size+1,2,none⟩ (.slice A2 de.length cap2)=wf at*
 have ba: ∀ob,Below wf.heap.size wf (wf.alloc ob):=fun ob=>(Below.refl _ _).alloc (Nat.le_refl _) _
 have hA2: ∀ob o',(wf.alloc ob).cell? ⟨w.heap.size+1,o',none⟩=wf.cell? ⟨w.heap.size+1,o',none⟩:=fun ob o'=>World.cell?_of_block (Below.heap_alloc wf ob (w.heap.size+1) (show w.heap.size+1<wf.heap.size by omega))
 refine bodyPost_ret (v:= .agg #[.int .i64 dr, .int .i64 dn, .slice A2 de.length cap2]) (by simp[results,Tryz.results169,go_sem,hA2,c0,c1,c2]) rfl ⟨_,rfl,?_,bw.trans ((ba _).mono bw.size)⟩
 rw[HCG.out]
 exact⟨_,rfl,hz1,hz2,(ow.below (ba _)).mono (by omega)⟩
end Go.Proofs.YtnjpoljbagfdnaaGreat
namespace Go.Proofs.YtnjpoljbagfdnaaGreat
set_option maxRecDepth 20000
set_option linter.unusedVariables false
set_option linter.unusedSimpArgs false
open Go.RowKit
def EG:El GrD:=fun w cs d F=> ∃s,cs= [.int .i64 d.1, .int .i64 d.2.1,s]∧I64 d.1∧I64 d.2.1∧OwE w 0 s d.2.2∧F=s.ownBlock.toList
theorem EG.stable:Stable EG:=by
 rintro w w' cs d F ⟨s,rfl,h1,h2,ho,rfl⟩ hb
 exact⟨s,rfl,h1,h2,ho.keep fun b hv=>hb b (by rw[hv];simp),rfl⟩
abbrev OGS (lo hi:Nat) (v:Value) (ds:List GrD) (w:World):Prop:=OwnL EG 26 3 lo hi w v ds
def ArgGS (w:World) (v:Value) (ds:List GrD):Prop:=
 ∃A cap,v= .slice A ds.length cap∧ds.length≤cap∧cap≤maxLen∧
  (0<ds.length→ ∃b off,A=some ⟨b,off,none⟩∧b<w.heap.size∧ ∀k (hk:k<ds.length),∃s,w.cell? ⟨b,off+k*3,none⟩=some (.int .i64 ds[k].1)∧w.cell? ⟨b,off+k*3+1,none⟩=some (.int .i64 ds[k].2.1)∧w.cell? ⟨b,off+k*3+2,none⟩=some s∧ArgG w (.agg #[.int .i64 ds[k].1, .int .i64 ds[k].2.1,s]) ds[k])
section
variable {w w':World} {v:Value} {ds:List GrD} {lo hi:Nat}
theorem ArgGS.below (h:ArgGS w v ds) (hb:Below w.heap.size w w'):ArgGS w' v ds:=by
 obtain⟨A,cap,hv,hc,hm,hx⟩:=h
 refine⟨A,cap,hv,hc,hm,fun h0=> ?_⟩
 obtain⟨b,off,hA,hlt,hx⟩:=hx h0
 have:=hb.size
 refine⟨b,off,hA,by omega,fun k hk=> ?_⟩
 obtain⟨s,h1,h2,h3,h4⟩:=hx k hk
 exact⟨s,(hb.cell (p:=⟨b,_,none⟩) hlt).trans h1,(hb.cell (p:=⟨b,_,none⟩) hlt).trans h2,(hb.cell (p:=⟨b,_,none⟩) hlt).trans h3,h4.below hb⟩
theorem ArgGS.form (h:ArgGS w v ds): ∃A cap,v= .slice A ds.length cap:=by
 obtain⟨A,cap,hv,_⟩:=h
 exact⟨A,cap,hv⟩
theorem ArgGS.at {A:Option Addr} {m cap:Nat} (h:ArgGS w (.slice A m cap) ds) {k:Nat} (hk:k<ds.length):
  ∃b off s,A=some ⟨b,off,none⟩∧b<w.heap.size∧w.cell? ⟨b,off+k*3,none⟩=some (.int .i64 ds[k].1)∧w.cell? ⟨b,off+k*3+1,none⟩=some (.int .i64 ds[k].2.1)∧w.cell? ⟨b,off+k*3+2,none⟩=some s∧ArgG w (.agg #[.int .i64 ds[k].1, .int .i64 ds[k].2.1,s]) ds[k]:=by
 obtain⟨A',cap',hv,hc,hm,hx⟩:=h
 obtain⟨b,off,hA,hlt,hx⟩:=hx (by omega)
 injection hv with e1 e2 e3
 obtain⟨s,h1,h2,h3,h4⟩:=hx k hk
 exact⟨b,off,s,e1.trans hA,hlt,h1,h2,h3,h4⟩
theorem OGS.arg (h:OGS lo hi v ds w):ArgGS w v ds:=by
 obtain⟨A,cap,rfl,hc,hm,_,hx⟩:=h.len
 refine⟨A,cap,rfl,hc,hm,fun h0=> ?_⟩
 obtain⟨g,rfl,_⟩:=hx h0
 have hg:g<w.heap.size:=by
  obtain⟨g',cs,Fe,hA,_,_,_,_,_,_,_,_,hlt,_⟩:=OwnL.focus h EG.stable (k:=0) h0
  injection hA with e;injection e with e;omega
 refine⟨g,0,rfl,hg,fun k hk=> ?_⟩
 obtain⟨g',cs,Fe,hA,_,_,hE,_,_,_,hcell,_⟩:=OwnL.focus h EG.stable hk
 injection hA with e;injection e with e
 subst e
 obtain⟨s,rfl,h1,h2,ho,_⟩:=hE
 have c0:=hcell 0 (by simp)
 have c1:=hcell 1 (by simp)
 have c2:=hcell 2 (by simp)
 simp only[List.getElem_cons_zero,List.getElem_cons_succ,Nat.add_zero] at c0 c1 c2
 rw[Nat.zero_add]
 exact⟨s,c0,c1,c2,s,rfl,h1,h2,ho.arg⟩
end
theorem graph_info:(Tryz.prog.info? 26).map (fun i=>(i.zero,i.size,i.bytes))=some (some (.agg #[.int .i64 0, .int .i64 0, .slice none 0 0]),3,40):=by kernel_rfl
end Go.Proofs.YtnjpoljbagfdnaaGreat
namespace Go.Proofs.YtnjpoljbagfdnaaGreat
set_option maxRecDepth 20000
set_option linter.unusedVariables false
set_option linter.unusedSimpArgs false
open Go.RowKit
def coreB (g:GrD):Bool:=foldB g&&decide (leafV g.2.2 g.2.1.toNat<0)&&decide (canG g=g)
set_option maxHeartbeats 1000000 in
theorem specIsCore_any (v:Value) (g:GrD) (w:World) (h:ArgG w v g):
  Calls Tryz.prog 147 #[v] w fun e w'=>e= .returned (.bool (coreB g))∧Below w.heap.size w w':=by
 have HG:=hDD h
 obtain⟨s,rfl,hi1,hi2,ha⟩:=h
 have HC:Hid (coreB g=(foldB g&&decide (leafV g.2.2 g.2.1.toNat<0)&&decide (canG g=g))):=hDD rfl
 generalize coreB g=cb at*
 clear ha
 go_enter Tryz.func147,Tryz.ntmps147
 go_wp2_with fail
 have bx:Below w.heap.size w (w.alloc (Obj.cells #[Value.int IntKind.i64 g.1,Value.int IntKind.i64 g.2.1,s] 26)):=(by repeat(first | exact Below.refl _ _ | (refine Below.setCell ?_ (by first | omega | (simp<;>omega)) _) | (refine bel_drewN ?_ _) | (refine Below.drew ?_) | (refine Below.alloc ?_ (by first | omega | (simp<;>omega)) _)))
 have l0:(w.alloc (Obj.cells #[Value.int IntKind.i64 g.1,Value.int IntKind.i64 g.2.1,s] 26)).cell? ⟨w.heap.size,0,none⟩=some (.int .i64 g.1):=by simp[go_sem]
 have l1:(w.alloc (Obj.cells #[Value.int IntKind.i64 g.1,Value.int IntKind.i64 g.2.1,s] 26)).cell? ⟨w.heap.size,1,none⟩=some (.int .i64 g.2.1):=by simp[go_sem]
 have l2:(w.alloc (Obj.cells #[Value.int IntKind.i64 g.1,Value.int IntKind.i64 g.2.1,s] 26)).cell? ⟨w.heap.size,2,none⟩=some s:=by simp[go_sem]
 have sA:w.heap.size<(w.alloc (Obj.cells #[Value.int IntKind.i64 g.1,Value.int IntKind.i64 g.2.1,s] 26)).heap.size:=by simp
 generalize w.alloc (Obj.cells #[Value.int IntKind.i64 g.1,Value.int IntKind.i64 g.2.1,s] 26)=W at bx l0 l1 l2 sA⊢
 have BX:=hDD bx
 have HA:Hid (∀w',Below W.heap.size W w'→ArgG w' (.agg #[.int .i64 g.1, .int .i64 g.2.1,s]) g):=hDD fun w' hb=>HG.out.below (BX.out.trans (hb.mono (by omega)))
 clear bx
 have hif:=fun w' hb=>specIsFolded_any _ g w' (HA.out w' hb)
 rcases e1:foldB g with _ | _
 ·have HF:=hDD e1
  have HR:Hid (cb=false):=hDD (by rw[HC.out,e1];rfl)
  simp only[e1] at hif
  have HIF:=hDD hif
  clear e1 hif
  have f0:=BelW.cell l0 sA
  have f1:=BelW.cell l1 sA
  have f2:=BelW.cell l2 sA
  (refine wp_region_quiet_bel (by kernel_rfl) (by kernel_rfl) ?_;(repeat(go_big_quiet_step (first | (go_at_call 148;exact Calls.bel_of (HIF.out _ (BelW.h _))))));refine wpQuiet_nil ?_;intro wq hw';obtain⟨pq,hw''⟩:=hw';have bq:=pq.h;rw[←hw''] at bq;clear hw'' pq)
  go_wp2
  exact bodyPost_ret (v:= .bool false) (by simp[results,Tryz.results147]) rfl ⟨by rw[HR.out],BX.out.trans (bq.mono (Nat.le_of_lt sA))⟩
 ·have HF:=hDD e1
  have hg:=(foldB_parts e1).1
  simp only[e1] at hif
  have HIF:=hDD hif
  clear hif
  have HGR:=hDD hg
  have HLV:Hid (leafV g.2.2 g.2.1.toNat=leafV g.2.2 g.2.1.toNat):=hDD rfl
  have L8:=hDD (fun w' hb=>l8Leaf_any _ g w' (HA.out w' hb) HGR.out)
  generalize leafV g.2.2 g.2.1.toNat=lv at*
  clear hg
  by_cases hl:lv<0
  ·have HR:Hid (cb=decide (canG g=g)):=hDD (by rw[HC.out,e1];simp[hl])
   clear e1
   go_region_held3 (fun w'=>w'.cell? ⟨w.heap.size,0,none⟩=some (.int .i64 g.1)∧w'.cell? ⟨w.heap.size,1,none⟩=some (.int .i64 g.2.1)∧w'.cell? ⟨w.heap.size,2,none⟩=some s)
    (first | go_keep | exact⟨q0,q1,q2⟩)
    (first
     | (go_at_call 148;refine(specIsFolded_any _ g _ (HA.out _ (Below.refl _ _).drew)).mono ?_;rintro e' w1 ⟨rfl,b1⟩;rw[HF.out];have B1:=hDD ((Below.refl _ W).drew.trans b1);have q0:=(B1.out.cell (p:=⟨w.heap.size,0,none⟩) sA).trans l0;have q1:=(B1.out.cell (p:=⟨w.heap.size,1,none⟩) sA).trans l1;have q2:=(B1.out.cell (p:=⟨w.heap.size,2,none⟩) sA).trans l2;clear b1)
     | (go_at_call 203;refine(L8.out _ B1.out).mono ?_;rintro e' w2 ⟨rfl,b2⟩;have B2:=hDD (B1.out.trans (b2.mono B1.out.size));have q0:=(B2.out.cell (p:=⟨w.heap.size,0,none⟩) sA).trans l0;have q1:=(B2.out.cell (p:=⟨w.heap.size,1,none⟩) sA).trans l1;have q2:=(B2.out.cell (p:=⟨w.heap.size,2,none⟩) sA).trans l2;clear b2)
     | (go_at_call 169;refine(specCanonicalGraph_any _ g _ (HA.out _ B2.out) HF.out).mono ?_;rintro e' w3 ⟨r3,rfl,o3,b3⟩;have B3:=hDD (B2.out.trans (b3.mono B2.out.size));have O3:=hDD o3;have q0:=(B3.out.cell (p:=⟨w.heap.size,0,none⟩) sA).trans l0;have q1:=(B3.out.cell (p:=⟨w.heap.size,1,none⟩) sA).trans l1;have q2:=(B3.out.cell (p:=⟨w.heap.size,2,none⟩) sA).trans l2;clear b3 o3)
     | (go_at_call 47;refine(specEqualGraphs_any _ _ (canG g) g _ O3.out.arg (HA.out _ B3.out)).mono ?_;rintro e' w4 ⟨rfl,b4⟩;have B4:=hDD (B3.out.trans (b4.mono B3.out.size));have q0:=(B4.out.cell (p:=⟨w.heap.size,0,none⟩) sA).trans l0;have q1:=(B4.out.cell (p:=⟨w.heap.size,1,none⟩) sA).trans l1;have q2:=(B4.out.cell (p:=⟨w.heap.size,2,none⟩) sA).trans l2;clear b4))
   go_wp2
   exact bodyPost_ret (v:= .bool (decide (canG g=g))) (by simp[results,Tryz.results147]) rfl ⟨by rw[HR.out],BX.out.trans (B4.out.mono (Nat.le_of_lt sA))⟩
  ·have HR:Hid (cb=false):=hDD (by rw[HC.out,e1];simp[hl])
   clear e1
   have f0:=BelW.cell l0 sA
   have f1:=BelW.cell l1 sA
   have f2:=BelW.cell l2 sA
   (refine wp_region_quiet_bel (by kernel_rfl) (by kernel_rfl) ?_;(repeat(go_big_quiet_step (first | (go_at_call 148;exact Calls.bel_of (HIF.out _ (BelW.h _))) | (go_at_call 203;exact Calls.bel_of (L8.out _ (BelW.h _))))));refine wpQuiet_nil ?_;intro wq hw';obtain⟨pq,hw''⟩:=hw';have bq:=pq.h;rw[←hw''] at bq;clear hw'' pq)
   go_wp2
   exact bodyPost_ret (v:= .bool false) (by simp[results,Tryz.results147]) rfl ⟨by rw[HR.out],BX.out.trans (bq.mono (Nat.le_of_lt sA))⟩
def rankF (g:GrD):Int:=if coreB g then(g.2.2.length:Int)-g.2.1+1 else-1
def leastStep (m r:Int):Int:=if 0≤r∧(m<0∨r<m) then r else m
def leastR (gs:List GrD):Int:=gs.foldl (fun m g=>leastStep m (rankF g)) (-1)
theorem coreB_grB {g:GrD} (h:coreB g=true):grB g=true:=by
 unfold coreB at h
 simp only[Bool.and_eq_true] at h
 exact(foldB_parts h.1.1).1
theorem rankF_range (g:GrD): -40≤rankF g∧rankF g≤121:=by
 unfold rankF
 rcases e:coreB g with _ | _
 ·simp
 ·obtain⟨_,h1,h2,_⟩:=grB_parts (coreB_grB e)
  simp only[if_true]
  omega
theorem leastR_succ (gs:List GrD) (k:Nat) (h:k<gs.length):leastR (gs.take (k+1))=leastStep (leastR (gs.take k)) (rankF gs[k]):=by
 unfold leastR
 rw[List.take_succ_eq_append_getElem h,List.foldl_append]
 rfl
theorem leastStep_range {m r:Int} (hm: -40≤m∧m≤121) (hr: -40≤r∧r≤121): -40≤leastStep m r∧leastStep m r≤121:=by
 unfold leastStep
 split<;>assumption
theorem leastR_range (gs:List GrD) (k:Nat) (h:k≤gs.length): -40≤leastR (gs.take k)∧leastR (gs.take k)≤121:=by
 induction k with
 | zero=>
   rw[List.take_zero]
   exact⟨by decide,by decide⟩
 | succ k ih=>
   rw[leastR_succ gs k h]
   exact leastStep_range (ih (by omega)) (rankF_range _)
set_option maxHeartbeats 1000000 in
theorem specIsSubgroup_any (v:Value) (g:GrD) (w:World) (h:ArgG w v g):
  Calls Tryz.prog 68 #[v] w fun e w'=>e= .returned (.bool (coreB g))∧Below w.heap.size w w':=by
 have HG:=hDD h
 obtain⟨s,rfl,hi1,hi2,ha⟩:=h
 clear ha
 go_enter Tryz.func68,Tryz.ntmps68
 go_wp2_with fail
 have bx:Below w.heap.size w (w.alloc (Obj.cells #[Value.int IntKind.i64 g.1,Value.int IntKind.i64 g.2.1,s] 26)):=(by repeat(first | exact Below.refl _ _ | (refine Below.setCell ?_ (by first | omega | (simp<;>omega)) _) | (refine bel_drewN ?_ _) | (refine Below.drew ?_) | (refine Below.alloc ?_ (by first | omega | (simp<;>omega)) _)))
 refine(specIsCore_any _ g _ (HG.out.below bx)).mono ?_
 rintro e w1 ⟨rfl,b1⟩
 have b2:=bx.trans (b1.mono bx.size)
 go_wp2
 exact bodyPost_ret (v:= .bool (coreB g)) (by simp[results,Tryz.results68]) rfl ⟨rfl,b2⟩
set_option maxHeartbeats 1000000 in
theorem specRankOf_any (v:Value) (g:GrD) (w:World) (h:ArgG w v g):
  Calls Tryz.prog 16 #[v] w fun e w'=>e= .returned (.int .i64 (rankF g))∧Below w.heap.size w w':=by
 have HG:=hDD h
 obtain⟨s,rfl,hi1,hi2,ha⟩:=h
 obtain⟨A,cap,rfl,hcap,hm,_⟩:=ha
 have HP:Hid (coreB g=true→g.2.1≤40∧1≤g.2.1∧g.2.2.length≤120):=hDD fun e=>by
  obtain⟨_,h1,h2,_⟩:=grB_parts (coreB_grB e)
  exact⟨h1.2,h1.1,h2⟩
 have HR:Hid (rankF g=if coreB g then(g.2.2.length:Int)-g.2.1+1 else-1):=hDD rfl
 generalize rankF g=rk at*
 go_enter Tryz.func16,Tryz.ntmps16
 go_wp2_with fail
 have bx:Below w.heap.size w (w.alloc (Obj.cells #[Value.int IntKind.i64 g.1,Value.int IntKind.i64 g.2.1, .slice A g.2.2.length cap] 26)):=(by repeat(first | exact Below.refl _ _ | (refine Below.setCell ?_ (by first | omega | (simp<;>omega)) _) | (refine bel_drewN ?_ _) | (refine Below.drew ?_) | (refine Below.alloc ?_ (by first | omega | (simp<;>omega)) _)))
 have l1:(w.alloc (Obj.cells #[Value.int IntKind.i64 g.1,Value.int IntKind.i64 g.2.1, .slice A g.2.2.length cap] 26)).cell? ⟨w.heap.size,1,none⟩=some (.int .i64 g.2.1):=by simp[go_sem]
 have l2:(w.alloc (Obj.cells #[Value.int IntKind.i64 g.1,Value.int IntKind.i64 g.2.1, .slice A g.2.2.length cap] 26)).cell? ⟨w.heap.size,2,none⟩=some (.slice A g.2.2.length cap):=by simp[go_sem]
 have sA:w.heap.size<(w.alloc (Obj.cells #[Value.int IntKind.i64 g.1,Value.int IntKind.i64 g.2.1, .slice A g.2.2.length cap] 26)).heap.size:=by simp
 have ax:=HG.out.below bx
 generalize w.alloc (Obj.cells #[Value.int IntKind.i64 g.1,Value.int IntKind.i64 g.2.1, .slice A g.2.2.length cap] 26)=W at bx l1 l2 sA ax⊢
 refine(specIsSubgroup_any _ g _ ax).mono ?_
 rintro e w1 ⟨rfl,b1⟩
 have B2:=hDD (bx.trans (b1.mono bx.size))
 have c1:=(b1.cell (p:=⟨w.heap.size,1,none⟩) sA).trans l1
 have c2:=(b1.cell (p:=⟨w.heap.size,2,none⟩) sA).trans l2
 clear b1 bx l1 l2 ax
 rcases e1:coreB g with _ | _
 ·have HR2:Hid (rk= -1):=hDD (by rw[HR.out,e1];rfl)
  clear e1
  go_wp2
  exact bodyPost_ret (v:= .int .i64 (-1)) (by simp[results,Tryz.results16]) rfl ⟨by rw[HR2.out],B2.out⟩
 ·obtain⟨p1,p2,p3⟩:=HP.out e1
  have HR2:Hid (rk=(g.2.2.length:Int)-g.2.1+1):=hDD (by rw[HR.out,e1,if_pos rfl])
  clear e1
  go_wp2
  exact bodyPost_ret (v:= .int .i64 ((g.2.2.length:Int)-g.2.1+1)) (by simp[results,Tryz.results16];try(go_num)) rfl ⟨by rw[HR2.out],B2.out⟩
set_option maxHeartbeats 1000000 in
theorem specLeastRank_any (v:Value) (gs:List GrD) (w:World) (h:ArgGS w v gs):
  Calls Tryz.prog 54 #[v] w fun e w'=>e= .returned (.int .i64 (leastR gs))∧Below w.heap.size w w':=by
 have H:=hDD h
 obtain⟨A,cap,rfl,hcap,hm,_⟩:=h
 unfold maxLen at hm
 go_enter Tryz.func54,Tryz.ntmps54
 go_wp2
 go_loopw [3,4] (fun b i wr=> ∃k:Nat,k≤gs.length∧i= .int .i64 k∧b= .int .i64 (leastR (gs.take k))∧Below w.heap.size w wr) (fun _ i _=>gs.length-(intOf i).toNat)
 case atStart=>exact⟨0,Nat.zero_le _,rfl,rfl,Below.refl _ _⟩
 case round=>
  obtain⟨k,hk,rfl,rfl,hbel⟩:=hrel
  have HB:=hDD hbel
  by_cases hlt:k<gs.length
  ·obtain⟨g,off,s',rfl,hg,c0,c1,c2,ha⟩:=(H.out.below hbel).at hlt
   have X1:=hDD ha
   have HS:=hDD (leastR_succ gs k hlt)
   have hrm:=leastR_range gs k hk
   have hrr:=rankF_range gs[k]
   clear ha hbel
   generalize leastR (gs.take k)=m at*
   generalize gs[k]=x at*
   go_wp2_with fail
   refine(specRankOf_any _ x _ X1.out).mono ?_
   rintro e w9 ⟨rfl,b9⟩
   have B9:=hDD (HB.out.trans (b9.mono HB.out.size))
   have STEP:Hid (leastStep m (rankF x)=if 0≤rankF x∧(m<0∨rankF x<m) then rankF x else m):=hDD rfl
   generalize rankF x=r at*
   clear b9 c0 c1 c2
   by_cases t1:0≤r
   ·by_cases t2:m<0
    ·have F:Hid (leastStep m r=r):=hDD (by rw[STEP.out,if_pos ⟨t1, .inl t2⟩])
     go_wp2
     go_roundw
     case rel=>exact⟨k+1,by omega,by go_num,by rw[HS.out,F.out],B9.out⟩
     case measure=>simp[intOf];omega
    ·by_cases t3:r<m
     ·have F:Hid (leastStep m r=r):=hDD (by rw[STEP.out,if_pos ⟨t1, .inr t3⟩])
      go_wp2
      go_roundw
      case rel=>exact⟨k+1,by omega,by go_num,by rw[HS.out,F.out],B9.out⟩
      case measure=>simp[intOf];omega
     ·have F:Hid (leastStep m r=m):=hDD (by rw[STEP.out,if_neg (fun h=>h.2.elim t2 t3)])
      go_wp2
      go_roundw
      case rel=>exact⟨k+1,by omega,by go_num,by rw[HS.out,F.out],B9.out⟩
      case measure=>simp[intOf];omega
   ·have F:Hid (leastStep m r=m):=hDD (by rw[STEP.out,if_neg (fun h=>t1 h.1)])
    go_wp2
    go_roundw
    case rel=>exact⟨k+1,by omega,by go_num,by rw[HS.out,F.out],B9.out⟩
    case measure=>simp[intOf];omega
  ·obtain rfl:k=gs.length:=by omega
   rw[List.take_length]
   obtain⟨m,hm'⟩: ∃m,m=leastR gs:=⟨_,rfl⟩
   rw[←hm']
   have HL:=hDD hm'
   clear hm'
   clear hbel
   go_wp2
   exact bodyPost_ret (v:= .int .i64 m) (by simp[results,Tryz.results54]) rfl ⟨by rw[HL.out],HB.out⟩
end Go.Proofs.YtnjpoljbagfdnaaGreat
namespace Go.Proofs.YtnjpoljbagfdnaaGreat
set_option maxRecDepth 20000
set_option linter.unusedVariables false
set_option linter.unusedSimpArgs false
open Go.RowKit Go.Shelf Go.Lib Go.Sort
def Tryz.sortE_ren:Go.Shelf.Ren:=⟨fun | 6=>217 | 15=>234 | 14=>236 | 28=>252 | 29=>253 | 20=>255 | 21=>256 | 22=>257 | 23=>258 | 24=>259 | 25=>260 | 26=>261 | 27=>262 | 46=>272 | 47=>267 | 48=>268 | 49=>273 | 50=>274 | 57=>277 | n=>n,fun | 22=>24 | 24=>97 | 25=>157 | 3=>3 | 39=>174 | 0=>0 | 53=>187 | 55=>189 | 4=>4 | 46=>181 | 45=>180 | 50=>80 | 5=>5 | 9=>9 | 66=>198 | 70=>202 | 76=>207 | 77=>30 | n=>n,fun | n=>n⟩
theorem Tryz.sortE:Go.Proofs.SlLaysF0.n6 Tryz.prog Tryz.sortE_ren:= {
 mixed:=by kernel_rfl,
 f6:=⟨Tryz.f217.name,by decide,Tryz.func217.trans (congrArg some (by kernel_rfl))⟩,
 f14:=⟨Tryz.f236.name,by decide,Tryz.func236.trans (congrArg some (by kernel_rfl))⟩,
 f15:=Tryz.func234.trans (congrArg some (by kernel_rfl)),
 f20:=⟨Tryz.f255.name,by decide,Tryz.func255.trans (congrArg some (by kernel_rfl))⟩,
 f21:=⟨Tryz.f256.name,by decide,Tryz.func256.trans (congrArg some (by kernel_rfl))⟩,
 f22:=⟨Tryz.f257.name,by decide,Tryz.func257.trans (congrArg some (by kernel_rfl))⟩,
 f23:=⟨Tryz.f258.name,by decide,Tryz.func258.trans (congrArg some (by kernel_rfl))⟩,
 f24:=⟨Tryz.f259.name,by decide,Tryz.func259.trans (congrArg some (by kernel_rfl))⟩,
 f25:=⟨Tryz.f260.name,by decide,Tryz.func260.trans (congrArg some (by kernel_rfl))⟩,
 f26:=⟨Tryz.f261.name,by decide,Tryz.func261.trans (congrArg some (by kernel_rfl))⟩,
 f27:=⟨Tryz.f262.name,by decide,Tryz.func262.trans (congrArg some (by kernel_rfl))⟩,
 f28:=Tryz.func252.trans (congrArg some (by kernel_rfl)),
 f29:=Tryz.func253.trans (congrArg some (by kernel_rfl)),
 f46:=⟨Tryz.f272.name,by decide,Tryz.func272.trans (congrArg some (by kernel_rfl))⟩,
 f47:=Tryz.func267.trans (congrArg some (by kernel_rfl)),
 f48:=Tryz.func268.trans (congrArg some (by kernel_rfl)),
 f49:=⟨Tryz.f273.name,by decide,Tryz.func273.trans (congrArg some (by kernel_rfl))⟩,
 f50:=⟨Tryz.f274.name,by decide,Tryz.func274.trans (congrArg some (by kernel_rfl))⟩,
 f57:=⟨Tryz.f277.name,by decide,Tryz.func277.trans (congrArg some (by kernel_rfl))⟩,
 t0:=Tryz.underlying0,
 a0:=Tryz.isAgg0,
 z0:=Tryz.sizeOf0,
 v0:=Tryz.zeroValue0,
 t3:=Tryz.underlying3,
 a3:=Tryz.isAgg3,
 z3:=Tryz.sizeOf3,
 v3:=Tryz.zeroValue3,
 t4:=Tryz.underlying4,
 a4:=Tryz.isAgg4,
 z4:=Tryz.sizeOf4,
 v4:=Tryz.zeroValue4,
 t5:=Tryz.underlying5,
 a5:=Tryz.isAgg5,
 z5:=Tryz.sizeOf5,
 v5:=Tryz.zeroValue5,
 t9:=Tryz.underlying9,
 a9:=Tryz.isAgg9,
 z9:=Tryz.sizeOf9,
 v9:=Tryz.zeroValue9,
 t22:=Tryz.underlying24,
 a22:=Tryz.isAgg24,
 z22:=Tryz.sizeOf24,
 v22:=Tryz.zeroValue24,
 t25:=Tryz.underlying157,
 a25:=Tryz.isAgg157,
 z25:=Tryz.sizeOf157,
 v25:=Tryz.zeroValue157,
 t39:=Tryz.underlying174,
 a39:=Tryz.isAgg174,
 z39:=Tryz.sizeOf174,
 v39:=Tryz.zeroValue174,
 t45:=Tryz.underlying180,
 a45:=Tryz.isAgg180,
 z45:=Tryz.sizeOf180,
 v45:=Tryz.zeroValue180,
 t46:=Tryz.underlying181,
 a46:=Tryz.isAgg181,
 z46:=Tryz.sizeOf181,
 v46:=Tryz.zeroValue181,
 t50:=Tryz.underlying80,
 a50:=Tryz.isAgg80,
 z50:=Tryz.sizeOf80,
 v50:=Tryz.zeroValue80,
 t53:=Tryz.underlying187,
 a53:=Tryz.isAgg187,
 z53:=Tryz.sizeOf187,
 v53:=Tryz.zeroValue187,
 t55:=Tryz.underlying189,
 a55:=Tryz.isAgg189,
 z55:=Tryz.sizeOf189,
 v55:=Tryz.zeroValue189,
 t66:=Tryz.underlying198,
 a66:=Tryz.isAgg198,
 z66:=Tryz.sizeOf198,
 v66:=Tryz.zeroValue198,
 t70:=Tryz.underlying202,
 a70:=Tryz.isAgg202,
 z70:=Tryz.sizeOf202,
 v70:=Tryz.zeroValue202,
 t76:=Tryz.underlying207,
 a76:=Tryz.isAgg207,
 z76:=Tryz.sizeOf207,
 v76:=Tryz.zeroValue207,
 t77:=Tryz.underlying30,
 a77:=Tryz.isAgg30,
 z77:=Tryz.sizeOf30,
 v77:=Tryz.zeroValue30}
theorem cmpE_swo:SWO (ltOf cmpE) where
 irrefl x:=by
  unfold ltOf
  simpa using cmpE_ord.irrefl x
 trans x y z h1 h2:=by
  unfold ltOf at*
  simp only[decide_eq_true_eq] at*
  exact cmpE_ord.trans h1 h2
 ntrans x y z h1 h2:=by
  unfold ltOf at*
  simp only[decide_eq_false_iff_not] at*
  rw[cmpE_neg] at*
  omega
set_option maxHeartbeats 1000000 in
theorem implCompareEdges_grow (a b:EdD) (w:World):
  Calls Tryz.prog 218 #[edV a,edV b] w fun e w'=>e= .returned (.int .i64 (cmpE a b))∧ ∃q os',w'=grow (w.drewN q) os':=by
 obtain⟨x,y,z⟩:=a
 obtain⟨x',y',z'⟩:=b
 unfold edV
 rcases e1:(cmpI x x' != 0) with _ | _
 ·rcases e2:(cmpI y y' != 0) with _ | _
  ·have F:Hid (cmpE (x,y,z) (x',y',z')=cmpI z z'):=hDD (by simp at e1 e2;simp[cmpE,e1,e2])
   go_enter Tryz.func218,Tryz.ntmps218
   go_wp2_with (go_at_call 237;refine(compareInts_any _ _ _).mono ?_;rintro e w' ⟨rfl,rfl⟩)
   go_ret
   exact⟨ret_int F.out.symm,0,_,by rw[alloc_eq_grow,alloc_eq_grow,grow_grow];rfl⟩
  ·have F:Hid (cmpE (x,y,z) (x',y',z')=cmpI y y'):=hDD (by simp at e1 e2;simp[cmpE,e1,e2])
   go_enter Tryz.func218,Tryz.ntmps218
   go_wp2_with (go_at_call 237;refine(compareInts_any _ _ _).mono ?_;rintro e w' ⟨rfl,rfl⟩)
   go_ret
   exact⟨ret_int F.out.symm,0,_,by rw[alloc_eq_grow,alloc_eq_grow,grow_grow];rfl⟩
 ·have F:Hid (cmpE (x,y,z) (x',y',z')=cmpI x x'):=hDD (by simp at e1;simp[cmpE,e1])
  go_enter Tryz.func218,Tryz.ntmps218
  go_wp2_with (go_at_call 237;refine(compareInts_any _ _ _).mono ?_;rintro e w' ⟨rfl,rfl⟩)
  go_ret
  exact⟨ret_int F.out.symm,0,_,by rw[alloc_eq_grow,alloc_eq_grow,grow_grow];rfl⟩
theorem edC_three (e:EdD):(edC e).length=3:=rfl
theorem edC_one (e:EdD) (v:Value) (h:v∈edC e):v.oneCell'=true:=by
 simp[edC] at h
 rcases h with rfl | rfl | rfl<;>rfl
theorem flatK_get (d:Array EdD) (j:Nat) (h:j<d.size*3):(flatK edC 3 d)[j]! =(edC d[j/3]!)[j%3]! :=by
 unfold flatK
 rw[getElem!_pos _ _ (by simpa using h)]
 simp
theorem edCs_at (es:List EdD) (j:Nat) (h:j<es.length*3):(edCs es)[j]? =some ((edC (es.toArray)[j/3]!)[j%3]!):=by
 have hk:j/3<es.length:=by omega
 have:=edCs_get es (j/3) (j%3) hk (by omega)
 rw[show j/3*3+j%3=j by omega] at this
 rw[this,List.getElem?_eq_getElem (show j%3<(edC es[j/3]).length by rw[edC_three];omega)]
 rw[getElem!_pos (es.toArray) _ (by simpa using hk),getElem!_pos _ _ (by rw[edC_three];omega)]
 simp
theorem OwE.holdsK {w:World} {base g n cap:Nat} {es:List EdD} (h:OwE w base (.slice (some ⟨g,0,none⟩) n cap) es):HoldsK edC 3 w g 0 es.toArray:=by
 have hn:n=es.length:=by
  rcases h.1.2 with ⟨hv,_⟩ | ⟨g',cap',cur,hv,_⟩
  ·cases hv
  ·injection hv
 subst hn
 intro j hj
 have hj':j<es.length*3:=by simpa[flatK] using hj
 refine⟨?_,h.free _⟩
 rw[Nat.zero_add,h.1.cellAt j hj',flatK_get _ _ (by simpa using hj')]
 exact edCs_at es j hj'
theorem sortWorld_row {w:World} {base g n cap:Nat} {es:List EdD} (h:OwE w base (.slice (some ⟨g,0,none⟩) n cap) es) (d:Array EdD) (hd:d.size=es.length) (hE:E64s d.toList) (q:Nat) (os:Array Obj):
  OwE (sortWorldK edC 3 w g 0 q d os) base (.slice (some ⟨g,0,none⟩) n cap) d.toList∧w.grownBy (sortWorldK edC 3 w g 0 q d os) (some g):=by
 have hlt:=(h.1.lt g rfl).2
 have hheap: ∀b,b<w.heap.size→(sortWorldK edC 3 w g 0 q d os).heap[b]? =if g=b then(w.heap[b]?).map (onCells (putCells id 0 (flatK edC 3 d))) else w.heap[b]? :=by
  intro b hb
  show((w.heap.modify g (onCells (putCells id 0 (flatK edC 3 d))))++os)[b]? =_
  rw[Array.getElem?_append_left (by simpa using hb),Array.getElem?_modify]
 refine⟨⟨⟨by rw[edCs_length],?_⟩,hE⟩,rfl,rfl,rfl,?_,fun b hb hne=> ?_⟩
 ·rcases h.1.2 with ⟨hv,_⟩ | ⟨g',cap',cur,hv,hg,hh,hnc,hcm,hcs,htake⟩
  ·cases hv
  ·injection hv with e1 e2 e3
   injection e1 with e1
   injection e1 with e1
   subst e1 e2 e3
   refine .inr ⟨g,cap,putCells id 0 (flatK edC 3 d) cur,by simp[hd],hg,?_,by simp[hd];exact hnc,hcm,by simp[putCells,hcs],?_⟩
   ·rw[hheap g hlt,if_pos rfl,hh]
    rfl
   ·apply List.ext_getElem?
    intro j
    rw[List.getElem?_take]
    split
    ·rename_i hj
     rw[Array.length_toList] at hj
     have hjc:j<cur.size:=by rw[hcs];have:d.size*3≤cap*3:=Nat.mul_le_mul_right 3 (by omega);omega
     rw[edCs_at _ _ (by simpa using hj),Array.getElem?_toList]
     simp only[putCells,Array.getElem?_mapIdx]
     rw[Array.getElem?_eq_getElem hjc]
     simp only[Option.map_some,Nat.zero_le,true_and,Nat.zero_add,Nat.sub_zero,id]
     rw[if_pos (by simpa[flatK] using hj),flatK_get _ _ hj]
    ·rename_i hj
     rw[List.getElem?_eq_none (by rw[edCs_length];omega)]
 ·show w.heap.size≤((w.heap.modify g (onCells (putCells id 0 (flatK edC 3 d))))++os).size
  simp
 ·rw[hheap b hb,if_neg (fun e=>hne (by rw[e]))]
theorem sortE_any (g n cap base:Nat) (es:List EdD) (w:World) (h:OwE w base (.slice (some ⟨g,0,none⟩) n cap) es) (hl:es.length≤1073741824):
  Calls Tryz.prog 217 #[.slice (some ⟨g,0,none⟩) n cap, .func (.func 218) #[] #[]] w fun e w'=>
   e= .returned (.tuple #[])∧ ∃es',OwE w' base (.slice (some ⟨g,0,none⟩) n cap) es'∧es'.Perm es∧(es'.Pairwise fun a b=> ¬0<cmpE a b)∧w.grownBy w' (some g):=by
 have hn:n=es.length:=by
  rcases h.1.2 with ⟨hv,_⟩ | ⟨g',cap',cur,hv,_⟩
  ·cases hv
  ·injection hv
 subst hn
 have eg: ∀args w,(callFunc 218 args).run Tryz.prog w= .ok (.enter 218 args) w:=enters_of Tryz.func218 (by kernel_rfl) rfl
 have hcon:=AnyQ.slices_SortFunc Tryz.sortE 3 Tryz.isAgg97 Tryz.sizeOf97 edC edC_three edC_one cmpE cmpE_swo 218 #[] g 0 cap es.toArray w eg (fun _ _ _ _ x y=>implCompareEdges_grow x y _) h.holdsK (h.1.lt g rfl).2 (by simp;omega)
 change Calls Tryz.prog 217 _ _ _ at hcon
 refine hcon.mono ?_
 rintro e w' ⟨rfl,d,q,os,hp,hs,rfl⟩
 obtain⟨p1,_,p3⟩:=hp
 have hperm:d.toList.Perm es:=by
  have e1:d.extract 0 es.toArray.size=d:=by rw[←p1];simp
  have e2:es.toArray.extract 0 es.toArray.size=es.toArray:=by simp
  rw[e1,e2] at p3
  simpa using p3
 have hE:E64s d.toList:=fun x hx=>h.2 x (hperm.mem_iff.1 hx)
 obtain⟨o1,g1⟩:=sortWorld_row h d (by simpa using p1) hE q os
 refine⟨rfl,d.toList,o1,hperm,?_,g1⟩
 rw[List.pairwise_iff_getElem]
 intro i j hi hj hij
 have hi':i<d.size:=by simpa using hi
 have hj':j<d.size:=by simpa using hj
 have:=hs i j (Nat.zero_le _) hij (by rw[←p1];exact hj')
 unfold ltOf at this
 rw[decide_eq_false_iff_not,getElem!_pos d j hj',getElem!_pos d i hi'] at this
 rw[Array.getElem_toList,Array.getElem_toList]
 intro h0
 exact this (cmpE_ord.anti.2 h0)
end Go.Proofs.YtnjpoljbagfdnaaGreat
namespace Go.Proofs.YtnjpoljbagfdnaaGreat
set_option maxRecDepth 20000
set_option linter.unusedVariables false
set_option linter.unusedSimpArgs false
open Go.RowKit
set_option maxHeartbeats 1000000 in
theorem compactE_any (A:Option Addr) (n cap:Nat) (es:List EdD) (w:World) (h:ArgE w (.slice A n cap) es) (hs:Srt cmpE es):
  Calls Tryz.prog 219 #[.slice A n cap] w fun e w'=>e= .returned (.slice A n cap)∧ ∃q,w'=w.drewN q:=by
 have H:=hDD h
 obtain⟨A',cap',hv,hcap,hm,_⟩:=h
 injection hv with e1 e2 e3
 subst e1 e2 e3
 unfold maxLen at hm
 have HS:=hDD hs
 clear hs
 by_cases hlt2:es.length<2
 ·have h1:(es.length:Int)<2:=by omega
  go_enter Tryz.func219,Tryz.ntmps219
  go_wp2
  go_ret
  exact⟨rfl,0,rfl⟩
 ·have h1: ¬(es.length:Int)<2:=by omega
  go_enter Tryz.func219,Tryz.ntmps219
  go_wp2
  go_loopw [3] (fun i wr=> ∃k:Nat,k+1≤es.length∧i= .int .i64 ((k:Int)+1)∧ ∃q,wr=w.drewN q) (fun i _=>es.length-(intOf i).toNat)
  case atStart=>exact⟨0,by omega,rfl,0,rfl⟩
  case round=>
   obtain⟨k,hk,rfl,q,rfl⟩:=hrel
   by_cases hlt:k+1<es.length
   ·obtain⟨b,off,rfl,hbl,c0,c1,c2,_⟩:=H.out.at hlt
    obtain⟨b2,off2,hA2,_,d0,d1,d2,_⟩:=H.out.at (k:=k) (by omega)
    obtain⟨rfl,rfl⟩:b=b2∧off=off2:=by simpa using hA2
    have hne:decide (es[k+1]=es[k])=false:=by
     rw[decide_eq_false_iff_not]
     intro e
     have:=(List.pairwise_iff_getElem.1 HS.out) k (k+1) (by omega) hlt (by omega)
     rw[e] at this
     exact cmpE_ord.irrefl _ this
    have i0:(0:Int)≤(k:Int):=by omega
    have i1:(k:Int)<(es.length:Int):=by omega
    have i2:(k:Int)+1<(es.length:Int):=by omega
    have i3:(0:Int)≤(k:Int)+1:=by omega
    have i4:((k:Int)+1).toNat=k+1:=by omega
    have i5:IntKind.i64.wrap ((k:Int)+1-1)=(k:Int):=by rw[IntKind.wrap_i64];omega
    clear hA2
    have heql:=fun w=>edge_eql es[k+1] es[k] w
    rw[hne] at heql
    unfold edV at heql
    have hgd:=edge_guard
    generalize es[k]=y at*
    generalize es[k+1]=x at*
    go_wp2
    go_quiet (fail)
    go_wp2
    go_roundw
    case rel=>exact⟨k+1,by omega,by go_num,_,rfl⟩
    case measure=>simp[intOf];omega
   ·have hlast:k+1=es.length:=by omega
    have i2: ¬(k:Int)+1<(es.length:Int):=by omega
    go_wp2
    go_ret
    exact⟨rfl,q,rfl⟩
set_option maxHeartbeats 1000000 in
theorem sorted_any (v:Value) (es:List EdD) (w:World) (h:ArgE w v es) (hnd:es.Nodup) (hl:es.length≤1073741824):
  Calls Tryz.prog 173 #[v] w fun e w'=> ∃r,e= .returned r∧OwE w' w.heap.size r (srt cmpE es)∧Below w.heap.size w w':=by
 have H:=hDD h
 obtain⟨A,cap,rfl⟩:=h.form
 clear h
 go_enter Tryz.func173,Tryz.ntmps173
 go_wp2_with (at_builtin;refine append_edges rfl (.tmp 4) (.tmp 5) rfl w.heap.size _ [] (OwE_lit _ (Nat.le_refl _)) rfl _ es (H.out.alloc _) rfl (by simp;omega) (by simp) ?_;intro v1 w1 o1 g1 p1)
 have O1:Hid (OwE w1 w.heap.size v1 es):=hDD (by simpa using o1)
 have B1:Hid (Below w.heap.size w w1):=hDD (((Below.refl _ _).alloc (Nat.le_refl _) _).grown g1 (by simp) (fun k hk=>by simp[Value.ownBlock] at hk;omega))
 obtain⟨g,cap1,rfl⟩: ∃g cap1,v1= .slice (some ⟨g,0,none⟩) es.length cap1:=by
  obtain⟨A1,cap1,rfl,_⟩:=O1.out.form
  rcases O1.out.1.2 with ⟨hv,_⟩ | ⟨g',cap',cur,hv,_⟩
  ·rw[hv] at p1
   simp[Value.ownBlock] at p1
  ·injection hv with e1 e2 e3
   subst e1
   exact⟨g',cap1,rfl⟩
 clear g1 o1 p1
 refine(sortE_any g es.length cap1 w.heap.size es w1 O1.out hl).mono ?_
 rintro e w2 ⟨rfl,es',o2,hp,hsd,g2⟩
 have hnd':es'.Nodup:=hp.nodup_iff.2 hnd
 have hS:Srt cmpE es':=(hsd.and hnd').imp fun {a b} ⟨h1,h2⟩=>by
  have:cmpE a b≠0:=fun e=>h2 (cmpE_zero.1 e)
  omega
 have hE:es'=srt cmpE es:=srt_eq cmpE_ord hS fun x=>hp.mem_iff
 have O2:=hDD o2
 have B2:=hDD (B1.out.grown g2 B1.out.size (fun k hk=>by cases hk;exact(O1.out.1.lt g rfl).1))
 have HE:=hDD hE
 have HS:=hDD hS
 clear o2 g2 hp hsd hnd' hE hS
 go_wp2_with fail
 refine(compactE_any _ _ _ es' w2 O2.out.arg HS.out).mono ?_
 rintro e w3 ⟨rfl,q,rfl⟩
 go_wp2
 go_ret
 exact⟨_,rfl,by rw[←HE.out];exact O2.out.drewN q,bel_drewN B2.out q⟩
def ddAt (es:List EdD) (j:Nat):List EdD:=if 0<j∧es.getD j (0,0,0)=es.getD (j-1) (0,0,0) then [] else [es.getD j (0,0,0)]
def ddU (es:List EdD):Nat→List EdD
 | 0=> []
 | j+1=>ddU es j++ddAt es j
theorem ddAt_drop {es:List EdD} {j:Nat} (h0:0<j) (hj:j<es.length) (h:es[j]=es[j-1]):ddU es (j+1)=ddU es j:=by
 show ddU es j++ddAt es j=_
 unfold ddAt
 rw[if_pos ⟨h0,by simp[List.getD,hj,show j-1<es.length by omega,h]⟩,List.append_nil]
theorem ddAt_keep {es:List EdD} {j:Nat} (hj:j<es.length) (h: ∀_:0<j,es[j]≠es[j-1]):ddU es (j+1)=ddU es j++ [es[j]]:=by
 show ddU es j++ddAt es j=_
 unfold ddAt
 rw[if_neg]
 ·simp[List.getD,hj]
 ·rintro⟨h0,e⟩
  exact h h0 (by simpa[List.getD,hj,show j-1<es.length by omega] using e)
theorem ddU_spec {es:List EdD} (hs:es.Pairwise fun a b=>cmpE a b≤0): ∀j,j≤es.length→Srt cmpE (ddU es j)∧ ∀x,x∈ddU es j↔x∈es.take j
 | 0,_=>⟨List.Pairwise.nil,fun x=>by simp[ddU]⟩
 | j+1,hj=>by
   obtain⟨h1,h2⟩:=ddU_spec hs j (by omega)
   have hjl:j<es.length:=by omega
   have ht:es.take (j+1)=es.take j++ [es[j]]:=List.take_succ_eq_append_getElem hjl
   by_cases hd: ∃h0:0<j,es[j]=es[j-1]
   ·obtain⟨h0,e⟩:=hd
    rw[ddAt_drop h0 hjl e]
    refine⟨h1,fun x=> ?_⟩
    rw[h2,ht,List.mem_append,List.mem_singleton]
    refine⟨.inl,fun h=> ?_⟩
    rcases h with h | h
    ·exact h
    ·rw[h,e]
     exact List.mem_iff_getElem.2 ⟨j-1,by rw[List.length_take];omega,by rw[List.getElem_take]⟩
   ·rw[ddAt_keep hjl fun h0 e=>hd ⟨h0,e⟩]
    refine⟨List.pairwise_append.2 ⟨h1,List.pairwise_singleton _ _,fun x hx y hy=> ?_⟩,fun x=> ?_⟩
    ·rw[List.mem_singleton.1 hy]
     obtain⟨i,hi,rfl⟩:=List.mem_iff_getElem.1 ((h2 x).1 hx)
     rw[List.length_take] at hi
     rw[List.getElem_take]
     have hle:=(List.pairwise_iff_getElem.1 hs) i j (by omega) hjl (by omega)
     have h0:0<j:=by omega
     have hne:cmpE es[j-1] es[j]≠0:=fun e=>hd ⟨h0,(cmpE_zero.1 e).symm⟩
     have hl2:=(List.pairwise_iff_getElem.1 hs) (j-1) j (by omega) hjl (by omega)
     by_cases hij:i=j-1
     ·subst hij;omega
     ·have hl3:=(List.pairwise_iff_getElem.1 hs) i (j-1) (by omega) (by omega) (by omega)
      by_cases h3:cmpE es[i] es[j-1]=0
      ·rw[cmpE_zero.1 h3];omega
      ·exact cmpE_ord.trans (by omega) (show cmpE es[j-1] es[j]<0 by omega)
    ·rw[List.mem_append,h2,ht,List.mem_append]
theorem ddU_srt {es:List EdD} (hs:es.Pairwise fun a b=>cmpE a b≤0) {L:List EdD} (hm: ∀x,x∈es↔x∈L):ddU es es.length=srt cmpE L:=by
 obtain⟨h1,h2⟩:=ddU_spec hs es.length (Nat.le_refl _)
 exact srt_eq cmpE_ord h1 fun x=>by rw[h2,List.take_length,hm]
theorem own_cells {w:World} {base g cap k o:Nat} {es:List EdD} (h:OwE w base (.slice (some ⟨g,0,none⟩) k cap) es) (ho:k*3≤o): ∀(vs:List Value) (o':Nat),o≤o'→OwE (w.setCells g o' vs) base (.slice (some ⟨g,0,none⟩) k cap) es∧w.grownBy (w.setCells g o' vs) (some g):=by
 intro vs
 induction vs generalizing w with
 | nil=>intro o' _;exact⟨h,World.grownBy.refl _ _⟩
 | cons v vs ih=>
   intro o' ho'
   have hk:k=es.length:=by
    obtain⟨_,_,hv,_⟩:=OwE.form h
    injection hv
   subst hk
   have hst:=World.ownsRow.stored h.1 o' v
   have hl:=h.1.1
   rw[List.set_eq_of_length_le (by omega)] at hst
   obtain⟨i1,i2⟩:=ih (w:=w.setCell ⟨g,o',none⟩ v) ⟨hst.1,h.2⟩ (o'+1) (by omega)
   exact⟨i1,hst.2.trans i2⟩
theorem OwE.head {w:World} {base g n cap k:Nat} {es:List EdD} (h:OwE w base (.slice (some ⟨g,0,none⟩) n cap) es) (hk:k≤es.length):OwE w base (.slice (some ⟨g,0,none⟩) k cap) (es.take k):=by
 have hn:n=es.length:=by
  obtain⟨_,_,hv,_⟩:=OwE.form h
  injection hv
 subst hn
 have h1:=owns_head h.1 rfl hk
 refine⟨?_,fun e he=>h.2 e (List.mem_of_mem_take he)⟩
 have hl:(es.take k).length=k:=by rw[List.length_take];omega
 rw[hl]
 have e:edCs (es.take k)=(edCs es).take (k*3):=by
  have h2:edCs es=edCs (es.take k)++edCs (es.drop k):=by rw[←edCs_append,List.take_append_drop]
  rw[h2,List.take_left' (by rw[edCs_length,hl])]
 rw[e]
 exact h1
theorem zero_edges (n:Nat):(Builtin.zeroCells (Value.agg #[.int .i64 0, .int .i64 0, .int .i64 0]).cells n).toList.length=n*3∧ ∀v∈(Builtin.zeroCells (Value.agg #[.int .i64 0, .int .i64 0, .int .i64 0]).cells n).toList,v.oneCell'=true:=by
 have hc:(Value.agg #[.int .i64 0, .int .i64 0, .int .i64 0]).cells= #[.int .i64 0, .int .i64 0, .int .i64 0]:=by simp[Value.cells]
 rw[hc]
 refine⟨by simp[Builtin.zeroCells],fun v hv=> ?_⟩
 simp only[Builtin.zeroCells,Array.toList_map,List.mem_map] at hv
 obtain⟨i,_,rfl⟩:=hv
 have h3: #[Value.int IntKind.i64 0,Value.int IntKind.i64 0,Value.int IntKind.i64 0].size=3:=rfl
 rw[h3]
 have:i%3=0∨i%3=1∨i%3=2:=by omega
 rcases this with e | e | e<;>rw[e]<;>rfl
theorem run_clear_edges (w:World) (g o n c:Nat) (hn:0<n) (hc: ∀j,j<n*3→(w.cell? ⟨g,o+j,none⟩).isSome=true) (hf: ∀j,j<n*3→w.frozen? ⟨g,o+j,none⟩=false):
  ∃vs,∀ty,(Builtin.clear_ #[24] ty #[.slice (some ⟨g,o,none⟩) n c]).run Tryz.prog w= .ok (.tuple #[]) (w.setCells g o vs):=by
 obtain⟨h1,h2⟩:=zero_edges n
 obtain⟨i0,hi0,hz0,_,_⟩:=info_parts edge_info
 refine⟨(Builtin.zeroCells (Value.agg #[.int .i64 0, .int .i64 0, .int .i64 0]).cells n).toList,fun ty=> ?_⟩
 have hst:=run_storeCells_cells (P:=Tryz.prog) g o (Builtin.zeroCells (Value.agg #[.int .i64 0, .int .i64 0, .int .i64 0]).cells n).toList 0 w (by rw[h1];simpa using hc) (by rw[h1];simpa using hf) h2
 simp only[Nat.add_zero] at hst
 have hv: ∀w,(zeroValue 97).run Tryz.prog w= .ok (.agg #[.int .i64 0, .int .i64 0, .int .i64 0]) w:=fun w=>by rfl
 obtain⟨m,rfl⟩: ∃m,n=m+1:=⟨n-1,by omega⟩
 simp[Builtin.clear_,run_underlying Tryz.underlying24,hv,hst]
theorem set_take: ∀(R:List EdD) (k:Nat) (x:EdD),k<R.length→(R.set k x).take (k+1)=R.take k++ [x]
 | [],k,x,h=>by cases h
 | a::R,0,x,_=>by simp
 | a::R,k+1,x,h=>by
   have:=set_take R k x (by simpa using h)
   simp only[List.set_cons_succ,List.take_succ_cons,List.cons_append]
   rw[this]
theorem set_drop: ∀(R:List EdD) (k m:Nat) (x:EdD),k<m→(R.set k x).drop m=R.drop m
 | [],k,m,x,h=>by simp
 | a::R,0,m+1,x,_=>by simp
 | a::R,k+1,m+1,x,h=>by
   have:=set_drop R k m x (by omega)
   simpa using this
set_option maxHeartbeats 1000000 in
theorem compactD_any (g n cap base:Nat) (es:List EdD) (w:World) (h:OwE w base (.slice (some ⟨g,0,none⟩) n cap) es) (hl:es.length≤1073741824):
  Calls Tryz.prog 219 #[.slice (some ⟨g,0,none⟩) n cap] w fun e w'=>e= .returned (.slice (some ⟨g,0,none⟩) (ddU es es.length).length cap)∧OwE w' base (.slice (some ⟨g,0,none⟩) (ddU es es.length).length cap) (ddU es es.length)∧w.grownBy w' (some g):=by
 obtain⟨_,_,hv,hcap,hm,_,hg⟩:=h.form
 injection hv with e1 e2 e3
 subst e1 e2 e3
 unfold maxLen at hm
 have H:=hDD h
 clear h hg
 by_cases hlt2:es.length<2
 ·have h1:(es.length:Int)<2:=by omega
  have hd:ddU es es.length=es:=by
   match es,hlt2 with
   | [],_=>rfl
   | [a],_=>simp[ddU,ddAt]
  rw[hd]
  go_enter Tryz.func219,Tryz.ntmps219
  go_wp2
  go_ret
  exact⟨rfl,H.out,World.grownBy.refl _ _⟩
 ·have h1: ¬(es.length:Int)<2:=by omega
  go_enter Tryz.func219,Tryz.ntmps219
  go_wp2
  go_loopw [3] (fun i wr=> ∃k:Nat,k+1≤es.length∧i= .int .i64 ((k:Int)+1)∧ddU es (k+1)=es.take (k+1)∧ ∃q,wr=w.drewN q) (fun i _=>es.length-(intOf i).toNat)
  case atStart=>exact⟨0,by omega,rfl,by rw[ddAt_keep (by omega) (fun h=>absurd h (by omega))];rw[List.take_succ_eq_append_getElem (by omega)];rfl,0,rfl⟩
  case round=>
   obtain⟨k,hk,rfl,hdd,q,rfl⟩:=hrel
   have HDD:=hDD hdd
   clear hdd
   by_cases hlt:k+1<es.length
   ·obtain⟨c0,c1,c2⟩:=H.out.cellAt (k+1) hlt
    obtain⟨d0,d1,d2⟩:=H.out.cellAt k (by omega)
    have i0:(0:Int)≤(k:Int):=by omega
    have i1:(k:Int)<(es.length:Int):=by omega
    have i2:(k:Int)+1<(es.length:Int):=by omega
    have i3:(0:Int)≤(k:Int)+1:=by omega
    have i4:((k:Int)+1).toNat=k+1:=by omega
    have i5:IntKind.i64.wrap ((k:Int)+1-1)=(k:Int):=by rw[IntKind.wrap_i64];omega
    have heql:=fun w=>edge_eql es[k+1] es[k] w
    unfold edV at heql
    have hgd:=edge_guard
    by_cases he:es[k+1]=es[k]
    ·have HDR:=hDD (ddAt_drop (es:=es) (j:=k+1) (by omega) hlt he)
     rw[decide_eq_true he] at heql
     generalize es[k]=y at*
     generalize es[k+1]=x at*
     go_wp2
     go_quiet (fail)
     have hcp: ¬cap=k+1:=by omega
     have i6:(k:Int)+1≤(es.length:Int):=by omega
     have i7:(es.length:Int)≤(cap:Int):=by omega
     have HFR:=hDD H.out.free
     have HLD:Hid ((ddU es (k+2)).length=k+1∧es.take (k+1)=ddU es (k+2)):=hDD (by
      have h1:=HDR.out
      rw[HDD.out] at h1
      exact⟨by rw[show k+2=k+1+1 from rfl,h1,List.length_take];omega,h1.symm⟩)
     clear c0 c1 c2 d0 d1 d2
     go_wp2
     obtain⟨rem,hrem⟩: ∃r,r=es.length-(k+1):=⟨_,rfl⟩
     have hrl:rem+(k+1)=es.length:=by omega
     have HREM:=hDD hrem
     clear hrem
     rw[←HREM.out]
     go_loopw [3,5] (fun s3 s5 wr=> ∃(kk t:Nat) (R:List EdD),s3= .int .i64 kk∧s5= .int .i64 ((t:Int)+1)∧t+1≤rem∧kk=(ddU es (k+t+2)).length∧R.length=es.length∧R.take kk=ddU es (k+t+2)∧R.drop (k+t+1)=es.drop (k+t+1)∧kk≤k+t+1∧OwE wr base (.slice (some ⟨g,0,none⟩) es.length cap) R∧w.grownBy wr (some g)) (fun _ i _=>rem-(intOf i).toNat)
     case atStart=>exact⟨k+1,0,es,by go_num,rfl,by omega,HLD.out.1.symm,rfl,HLD.out.2,rfl,by omega,H.out.drewN _,⟨rfl,rfl,rfl,Nat.le_refl _,fun _ _ _=>rfl⟩⟩
     case round=>
      obtain⟨kk,t,R,rfl,rfl,ht,hkk,hRl,hRt,hRd,hkb,hoR,hgr⟩:=hrel
      have HOR:=hDD hoR
      have HGR:=hDD hgr
      have HRT:=hDD hRt
      have HRD:=hDD hRd
      have HKK:=hDD hkk
      have HRL:=hDD hRl
      obtain⟨wi,rfl⟩: ∃wi:World,wi=wr:=⟨_,rfl⟩
      have hget: ∀j (hj:j<es.length),k+t+1≤j→R[j]'(by omega)=es[j]:=fun j hj hle=>by
       have e1:(R.drop (k+t+1))[j-(k+t+1)]? =(es.drop (k+t+1))[j-(k+t+1)]? :=by rw[hRd]
       rw[List.getElem?_drop,List.getElem?_drop,show k+t+1+(j-(k+t+1))=j by omega,List.getElem?_eq_getElem (by omega),List.getElem?_eq_getElem hj] at e1
       injection e1
      have HFI:=hDD HOR.out.free
      by_cases hlt3:t+1<rem
      ·have hi1:k+t+2<es.length:=by omega
       obtain⟨c0,c1,c2⟩:=HOR.out.cellAt (k+t+2) (by omega)
       obtain⟨d0,d1,d2⟩:=HOR.out.cellAt (k+t+1) (by omega)
       rw[hget (k+t+2) hi1 (by omega),show(k+t+2)*3=(k+1)*3+(t+1)*3 by omega] at c0 c1 c2
       rw[hget (k+t+1) (by omega) (by omega),show(k+t+1)*3=(k+1)*3+t*3 by omega] at d0 d1 d2
       have heq2:=fun w=>edge_neq es[k+t+2] es[k+t+1] w
       unfold edV at heq2
       have j0:(0:Int)≤(t:Int):=by omega
       have j1:(t:Int)<(rem:Int):=by omega
       have j2:(t:Int)+1<(rem:Int):=by omega
       have j3:(0:Int)≤(t:Int)+1:=by omega
       have j4:((t:Int)+1).toNat=t+1:=by omega
       have j5:IntKind.i64.wrap ((t:Int)+1-1)=(t:Int):=by rw[IntKind.wrap_i64];omega
       have HRD2:Hid (R.drop (k+(t+1)+1)=es.drop (k+(t+1)+1)):=hDD (by have h9:=congrArg (List.drop 1) hRd;rw[List.drop_drop,List.drop_drop] at h9;rw[show k+(t+1)+1=k+t+1+1 by omega];exact h9)
       have HE64:=hDD (HOR.out.2 _ (List.getElem_mem (show k+t+2<R.length by omega)))
       rw[hget (k+t+2) hi1 (by omega)] at HE64
       by_cases he2:es[k+t+2]=es[k+t+1]
       ·have HD2:=hDD (ddAt_drop (es:=es) (j:=k+t+2) (by omega) hi1 he2)
        rw[decide_eq_true he2,Bool.not_true] at heq2
        generalize es[k+t+1]=y2 at*
        generalize es[k+t+2]=x2 at*
        clear hkk hRl hRt hRd hoR hgr hget
        go_wp2
        go_quiet (fail)
        go_wp2
        go_roundw
        case rel=>exact⟨kk,t+1,R,rfl,by go_num,by omega,by rw[show k+(t+1)+2=k+t+2+1 by omega,HD2.out];exact HKK.out,HRL.out,by rw[show k+(t+1)+2=k+t+2+1 by omega,HD2.out];exact HRT.out,HRD2.out,by omega,HOR.out.drew,HGR.out.trans ⟨rfl,rfl,rfl,Nat.le_refl _,fun _ _ _=>rfl⟩⟩
        case measure=>simp[intOf];omega
       ·have HD2:Hid (ddU es (k+(t+1)+2)=ddU es (k+t+2)++ [es[k+t+2]]):=hDD (by rw[show k+(t+1)+2=k+t+2+1 by omega];exact ddAt_keep (es:=es) (j:=k+t+2) hi1 (fun _ e=>he2 e))
        rw[decide_eq_false he2,Bool.not_false] at heq2
        have hkR:kk<R.length:=by omega
        have HST:=hDD (set_take R kk es[k+t+2] hkR)
        have HSD:=hDD (set_drop R kk (k+(t+1)+1) es[k+t+2] (by omega))
        obtain⟨b0,b1,b2⟩:=HOR.out.cellAt kk hkR
        generalize R[kk]=o2 at b0 b1 b2
        generalize es[k+t+1]=y2 at*
        generalize es[k+t+2]=x2 at*
        have HSET:=hDD (fun N=>(HOR.out.drewN N).set kk hkR (x:=x2.1) (y:=x2.2.1) (z:=x2.2.2) HE64.out.1 HE64.out.2.1 HE64.out.2.2)
        have f0:=HFI.out (kk*3)
        have f1:=HFI.out (kk*3+1)
        have f2:=HFI.out (kk*3+2)
        have j6:(kk:Int)<(es.length:Int):=by omega
        have j7:(0:Int)≤(kk:Int):=by omega
        clear hkk hRl hRt hRd hoR hgr hget
        go_wp2
        go_quiet (fail)
        go_wp2
        go_roundw
        case rel=>exact⟨kk+1,t+1,R.set kk x2,by go_num,by go_num,by omega,by rw[HD2.out,List.length_append,←HKK.out];rfl,by rw[List.length_set];exact HRL.out,by rw[HST.out,HD2.out,HRT.out],by rw[HSD.out];exact HRD2.out,by omega,(HSET.out nq).1,(HGR.out.trans (show wi.grownBy (wi.drewN nq) (some g) from⟨rfl,rfl,rfl,Nat.le_refl _,fun _ _ _=>rfl⟩)).trans (HSET.out nq).2⟩
        case measure=>simp[intOf];omega
      ·obtain rfl:rem=t+1:=by omega
       have hn:k+t+2=es.length:=by omega
       have HKN:Hid (kk=(ddU es es.length).length∧R.take kk=ddU es es.length):=hDD (by rw[←hn];exact⟨hkk,hRt⟩)
       have hkn:kk<es.length:=by omega
       have HHE:=hDD (HOR.out.head (k:=kk) (by omega))
       obtain⟨vs,hcl⟩:=run_clear_edges wi g (kk*3) (es.length-kk) (cap-kk) (by omega) (fun j hj=>by
        have hq:kk+j/3<R.length:=by omega
        obtain⟨g0,g1,g2⟩:=HOR.out.cellAt (kk+j/3) hq
        have:j%3=0∨j%3=1∨j%3=2:=by omega
        rcases this with e | e | e
        ·rw[show kk*3+j=(kk+j/3)*3 by omega,g0];rfl
        ·rw[show kk*3+j=(kk+j/3)*3+1 by omega,g1];rfl
        ·rw[show kk*3+j=(kk+j/3)*3+2 by omega,g2];rfl) (fun j _=>HFI.out _)
       have HCC:=hDD (own_cells HHE.out (Nat.le_refl _) vs (kk*3) (Nat.le_refl _))
       have j6:(kk:Int)≤(es.length:Int):=by omega
       have j7:(0:Int)≤(kk:Int):=by omega
       have j8: ¬cap=kk:=by omega
       have j9:(kk:Int)≤(cap:Int):=by omega
       clear hkk hRl hRt hRd hoR hgr hget
       go_wp2
       go_ret
       refine⟨by rw[←HKN.out.1];rfl,?_,HGR.out.trans HCC.out.2⟩
       have h1:=HCC.out.1
       rw[HKN.out.2] at h1
       have h2:=HKN.out.1
       rw[←h2]
       exact h1
    ·have HDR:Hid (ddU es (k+1+1)=es.take (k+1+1)):=hDD (by rw[ddAt_keep hlt (fun _ e=>he e),HDD.out,List.take_succ_eq_append_getElem hlt])
     rw[decide_eq_false he] at heql
     generalize es[k]=y at*
     generalize es[k+1]=x at*
     go_wp2
     go_quiet (fail)
     go_wp2
     go_roundw
     case rel=>exact⟨k+1,by omega,by go_num,HDR.out,_,rfl⟩
     case measure=>simp[intOf];omega
   ·have hlast:k+1=es.length:=by omega
    have i2: ¬(k:Int)+1<(es.length:Int):=by omega
    have HD:Hid (ddU es es.length=es):=hDD (by have:=HDD.out;rw[hlast,List.take_length] at this;exact this)
    clear hlast
    go_wp2
    go_ret
    rw[HD.out]
    exact⟨rfl,H.out.drewN q,⟨rfl,rfl,rfl,Nat.le_refl _,fun _ _ _=>rfl⟩⟩
set_option maxHeartbeats 1000000 in
theorem sortedD_any (v:Value) (es:List EdD) (w:World) (h:ArgE w v es) (hl:es.length≤1073741824):
  Calls Tryz.prog 173 #[v] w fun e w'=> ∃r,e= .returned r∧OwE w' w.heap.size r (srt cmpE es)∧Below w.heap.size w w':=by
 have H:=hDD h
 obtain⟨A,cap,rfl⟩:=h.form
 clear h
 go_enter Tryz.func173,Tryz.ntmps173
 go_wp2_with (at_builtin;refine append_edges rfl (.tmp 4) (.tmp 5) rfl w.heap.size _ [] (OwE_lit _ (Nat.le_refl _)) rfl _ es (H.out.alloc _) rfl (by simp;omega) (by simp) ?_;intro v1 w1 o1 g1 p1)
 have O1:Hid (OwE w1 w.heap.size v1 es):=hDD (by simpa using o1)
 have B1:Hid (Below w.heap.size w w1):=hDD (((Below.refl _ _).alloc (Nat.le_refl _) _).grown g1 (by simp) (fun k hk=>by simp[Value.ownBlock] at hk;omega))
 obtain⟨g,cap1,rfl⟩: ∃g cap1,v1= .slice (some ⟨g,0,none⟩) es.length cap1:=by
  obtain⟨A1,cap1,rfl,_⟩:=O1.out.form
  rcases O1.out.1.2 with ⟨hv,_⟩ | ⟨g',cap',cur,hv,_⟩
  ·rw[hv] at p1
   simp[Value.ownBlock] at p1
  ·injection hv with e1 e2 e3
   subst e1
   exact⟨g',cap1,rfl⟩
 clear g1 o1 p1
 refine(sortE_any g es.length cap1 w.heap.size es w1 O1.out hl).mono ?_
 rintro e w2 ⟨rfl,es',o2,hp,hsd,g2⟩
 have hE:ddU es' es'.length=srt cmpE es:=ddU_srt (hsd.imp fun h=>by omega) fun x=>hp.mem_iff
 have hlen:es'.length=es.length:=hp.length_eq
 have O2:=hDD o2
 have B2:=hDD (B1.out.grown g2 B1.out.size (fun k hk=>by cases hk;exact(O1.out.1.lt g rfl).1))
 have HB1:=hDD (fun k (hk:some g=some k)=>show w.heap.size≤k by cases hk;exact(O1.out.1.lt g rfl).1)
 have HE:=hDD hE
 have hl2:es'.length≤1073741824:=by omega
 clear o2 g2 hp hsd hE hlen
 go_wp2_with fail
 refine(compactD_any g _ _ w.heap.size es' w2 O2.out hl2).mono ?_
 rintro e w3 ⟨rfl,o3,g3⟩
 rw[HE.out] at o3⊢
 have O3:=hDD o3
 have B3:=hDD (B2.out.grown g3 B2.out.size HB1.out)
 clear o3 g3
 go_wp2
 go_ret
 exact⟨_,rfl,O3.out,B3.out⟩
end Go.Proofs.YtnjpoljbagfdnaaGreat
