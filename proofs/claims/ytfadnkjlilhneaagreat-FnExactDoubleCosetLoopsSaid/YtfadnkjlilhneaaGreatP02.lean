/- Parts of the proof: GrF, Let, CanP, GrG, GrH, CanS, Ren, RenQ, Walk, Cpy, Tree, Read, AddP. -/
import Derived.Test.YtfadnkjlilhneaaGreatP01
import Derived.Deep.RegionHeld3
import Derived.Lib.SliceRun
namespace Go.Proofs.YtfadnkjlilhneaaGreat
set_option maxRecDepth 20000
set_option linter.unusedVariables false
set_option linter.unusedSimpArgs false
open Go.RowKit
def clash (a b:EdD):Bool:=(a.2.1==b.2.1)&&((a.1==b.1)||(a.2.2==b.2.2))
theorem clash_comm (a b:EdD):clash a b=clash b a:=by
 have h: ∀x y:Int,(x==y)=(y==x):=fun x y=>by rw[Bool.eq_iff_iff];simp;constructor<;>(intro h;exact h.symm)
 unfold clash
 rw[h a.2.1,h a.1,h a.2.2]
def Fol (es:List EdD):Prop:=es.Pairwise fun a b=>clash a b=false
instance (es:List EdD):Decidable (Fol es):=by unfold Fol;infer_instance
def foldB (g:GrD):Bool:=grB g&&decide (Fol g.2.2)
theorem fol_of {es:List EdD} (h: ∀i (hi:i<es.length),∀k (hk:k<i),clash es[i] (es[k]'(by omega))=false):Fol es:=by
 unfold Fol
 rw[List.pairwise_iff_getElem]
 intro i j hi hj hij
 rw[clash_comm]
 exact h j hj i hij
theorem foldB_true {g:GrD} (h:grB g=true) (hf: ∀i (hi:i<g.2.2.length),∀k (hk:k<i),clash g.2.2[i] (g.2.2[k]'(by omega))=false):foldB g=true:=by
 unfold foldB
 rw[h,decide_eq_true (fol_of hf)]
 rfl
theorem foldB_no {g:GrD} (h:grB g=false):foldB g=false:=by
 unfold foldB
 rw[h]
 rfl
theorem foldB_clash {g:GrD} {i k:Nat} (hi:i<g.2.2.length) (hk:k<i) (h:clash g.2.2[i] (g.2.2[k]'(by omega))=true):foldB g=false:=by
 unfold foldB
 rw[decide_eq_false,Bool.and_false]
 intro hf
 unfold Fol at hf
 rw[List.pairwise_iff_getElem] at hf
 have:=hf k i (by omega) hi hk
 rw[clash_comm,h] at this
 cases this
theorem foldB_parts {g:GrD} (h:foldB g=true):grB g=true∧Fol g.2.2:=by
 unfold foldB at h
 simpa using h
set_option maxHeartbeats 2000000 in
theorem specIsFolded_any (v:Value) (g:GrD) (w:World) (h:ArgG w v g):
  Calls Tryz.prog 56 #[v] w fun e w'=>e= .returned (.bool (foldB g))∧Below w.heap.size w w':=by
 have HG:=hD h
 obtain⟨s,rfl,_,_,ha⟩:=h
 have H:=hD ha
 obtain⟨A,cap,rfl,hcap,hm,_⟩:=ha
 unfold maxLen at hm
 go_enter Tryz.func56,Tryz.ntmps56
 go_wp2
 have hb:Below w.heap.size w (w.alloc (Obj.cells #[Value.int IntKind.i64 g.1,Value.int IntKind.i64 g.2.1, .slice A g.2.2.length cap] 31)):=(by repeat(first | exact Below.refl _ _ | (refine Below.setCell ?_ (by first | omega | (simp<;>omega)) _) | (refine bel_drewN ?_ _) | (refine Below.drew ?_) | (refine Below.alloc ?_ (by first | omega | (simp<;>omega)) _)))
 have k0:(w.alloc (Obj.cells #[Value.int IntKind.i64 g.1,Value.int IntKind.i64 g.2.1, .slice A g.2.2.length cap] 31)).cell? ⟨w.heap.size,0,none⟩=some (.int .i64 g.1):=by simp[go_sem]
 have k1:(w.alloc (Obj.cells #[Value.int IntKind.i64 g.1,Value.int IntKind.i64 g.2.1, .slice A g.2.2.length cap] 31)).cell? ⟨w.heap.size,1,none⟩=some (.int .i64 g.2.1):=by simp[go_sem]
 have k2:(w.alloc (Obj.cells #[Value.int IntKind.i64 g.1,Value.int IntKind.i64 g.2.1, .slice A g.2.2.length cap] 31)).cell? ⟨w.heap.size,2,none⟩=some (.slice A g.2.2.length cap):=by simp[go_sem]
 have hs0:w.heap.size<(w.alloc (Obj.cells #[Value.int IntKind.i64 g.1,Value.int IntKind.i64 g.2.1, .slice A g.2.2.length cap] 31)).heap.size:=by simp
 generalize w.alloc (Obj.cells #[Value.int IntKind.i64 g.1,Value.int IntKind.i64 g.2.1, .slice A g.2.2.length cap] 31)=w1 at hb k0 k1 k2 hs0⊢
 have HB:=hD hb
 have K0:=hD k0
 have K1:=hD k1
 have K2:=hD k2
 clear hb
 clear k0 k1 k2
 go_loopw [3] (fun i wo=> ∃k:Nat,k≤g.2.2.length∧i= .int .i64 k∧(0<k→grB g=true)∧(∀i (hi:i<g.2.2.length),i<k→ ∀j (hj:j<i),clash g.2.2[i] (g.2.2[j]'(by omega))=false)∧Below w1.heap.size w1 wo) (fun i _=>g.2.2.length-(intOf i).toNat)
 case atStart=>exact⟨0,Nat.zero_le _,rfl,fun h=>absurd h (by omega),fun i hi h=>absurd h (by omega),Below.refl _ _⟩
 case round=>
  obtain⟨k,hk,rfl,hg0,hall,hbel⟩:=hrel
  obtain⟨wo,rfl⟩: ∃wo:World,wo=wr:=⟨_,rfl⟩
  have HA:=hD hall
  have HG0:=hD hg0
  have HB2:=hD hbel
  have HB3:=hD (HB.out.trans (hbel.mono HB.out.size))
  have hsz:=hbel.size
  have p0:=(hbel.cell (p:=⟨w.heap.size,0,none⟩) hs0).trans K0.out
  have p1:=(hbel.cell (p:=⟨w.heap.size,1,none⟩) hs0).trans K1.out
  have p2:=(hbel.cell (p:=⟨w.heap.size,2,none⟩) hs0).trans K2.out
  have hws:w.heap.size<wo.heap.size:=by omega
  clear hg0 hall hbel
  by_cases hlt:k<g.2.2.length
  ·go_wp2_with fail
   refine(specIsGraph_any _ g _ (HG.out.below HB3.out)).mono ?_
   rintro e wp ⟨rfl,bp⟩
   have BP:=hD bp
   have szp:=bp.size
   replace p0:=(bp.cell (p:=⟨w.heap.size,0,none⟩) hws).trans p0
   replace p1:=(bp.cell (p:=⟨w.heap.size,1,none⟩) hws).trans p1
   replace p2:=(bp.cell (p:=⟨w.heap.size,2,none⟩) hws).trans p2
   have HB4:=hD (HB3.out.trans (bp.mono (by omega)))
   have HB5:=hD (HB2.out.trans (bp.mono (by omega)))
   clear bp
   rcases e0:grB g with _ | _
   ·go_wp2_with fail
    refine(specIsGraph_any _ g _ (HG.out.below HB4.out)).mono ?_
    rintro e wz ⟨rfl,bz⟩
    have BZ:=hD bz
    clear bz
    go_wp2
    go_ret
    exact⟨ret_bool (by rw[foldB_no e0]),HB4.out.trans (BZ.out.mono (by omega))⟩
   go_wp2
   go_loopw [4] (fun j wr=> ∃m:Nat,m≤k∧j= .int .i64 m∧(∀j (hj:j<k),j<m→clash g.2.2[k] (g.2.2[j]'(by omega))=false)∧Below wp.heap.size wp wr) (fun j _=>k-(intOf j).toNat)
   case atStart=>exact⟨0,Nat.zero_le _,rfl,fun j hj h=>absurd h (by omega),Below.refl _ _⟩
   case round=>
    obtain⟨m,hm1,rfl,hin,hbi⟩:=hrel
    have HI:=hD hin
    have HBI:=hD hbi
    have szi:=hbi.size
    replace p0:=(hbi.cell (p:=⟨w.heap.size,0,none⟩) (show w.heap.size<wp.heap.size by omega)).trans p0
    replace p1:=(hbi.cell (p:=⟨w.heap.size,1,none⟩) (show w.heap.size<wp.heap.size by omega)).trans p1
    replace p2:=(hbi.cell (p:=⟨w.heap.size,2,none⟩) (show w.heap.size<wp.heap.size by omega)).trans p2
    have HB6:=hD (HB4.out.trans (hbi.mono (by omega)))
    have hwr:w.heap.size<wr.heap.size:=by omega
    clear hin hbi
    by_cases hlt2:m<k
    ·obtain⟨b,off,rfl,hbl,c0,c1,c2,_⟩:=(H.out.below HB6.out).at hlt
     obtain⟨b2,off2,hA2,_,d0,d1,d2,_⟩:=(H.out.below HB6.out).at (k:=m) (by omega)
     obtain⟨rfl,rfl⟩:b=b2∧off=off2:=by simpa using hA2
     have i1:(m:Int)<(g.2.2.length:Int):=by omega
     have CL:Hid (clash g.2.2[k] (g.2.2[m]'(by omega))=true→foldB g=false):=hD (foldB_clash hlt hlt2)
     have CN:Hid (clash g.2.2[k] (g.2.2[m]'(by omega))=false→ ∀j (hj:j<k),j<m+1→clash g.2.2[k] (g.2.2[j]'(by omega))=false):=hD fun F j hj hjm=>by
      rcases Nat.lt_or_eq_of_le (Nat.le_of_lt_succ hjm) with h | rfl
      ·exact HI.out j hj h
      ·exact F
     clear hA2
     generalize g.2.2[k]=x at*
     generalize g.2.2[m]'(by omega)=y at*
     have hC:Hid (clash x y=((x.2.1==y.2.1)&&((x.1==y.1)||(x.2.2==y.2.2)))):=hD rfl
     rcases t1:(x.2.1==y.2.1) with _ | _
     ·have F:=hD (CN.out (by rw[hC.out,t1];rfl))
      go_wp2
      go_roundw
      case rel=>exact⟨m+1,by omega,by go_num,F.out,(HBI.out.alloc (by omega) _).alloc (by simp;omega) _⟩
      case measure=>simp[intOf];omega
     rcases t2:(x.1==y.1) with _ | _
     ·rcases t3:(x.2.2==y.2.2) with _ | _
      ·have F:=hD (CN.out (by rw[hC.out,t1,t2,t3];rfl))
       go_wp2
       go_roundw
       case rel=>exact⟨m+1,by omega,by go_num,F.out,(HBI.out.alloc (by omega) _).alloc (by simp;omega) _⟩
       case measure=>simp[intOf];omega
      ·have F:=hD (CL.out (by rw[hC.out,t1,t2,t3];rfl))
       go_wp2
       go_ret
       exact⟨ret_bool F.out.symm,(HB6.out.alloc (by omega) _).alloc (by simp;omega) _⟩
     ·have F:=hD (CL.out (by rw[hC.out,t1,t2];rfl))
      go_wp2
      go_ret
      exact⟨ret_bool F.out.symm,(HB6.out.alloc (by omega) _).alloc (by simp;omega) _⟩
    ·obtain rfl:m=k:=by omega
     go_wp2
     go_roundw
     case rel=>exact⟨m+1,by omega,by go_num,fun _=>e0,fun i hi him j hj=>by
      rcases Nat.lt_or_eq_of_le (Nat.le_of_lt_succ him) with h | rfl
      ·exact HA.out i hi h j hj
      ·exact HI.out j hj hj,HB5.out.trans (HBI.out.mono (by omega))⟩
     case measure=>simp[intOf];omega
  ·obtain rfl:k=g.2.2.length:=by omega
   go_wp2_with fail
   refine(specIsGraph_any _ g _ (HG.out.below HB3.out)).mono ?_
   rintro e wz ⟨rfl,bz⟩
   have BZ:=hD bz
   have F:Hid (grB g=foldB g):=hD (by
    rcases e0:grB g with _ | _
    ·exact(foldB_no e0).symm
    ·exact(foldB_true e0 fun i hi j hj=>HA.out i hi hi j hj).symm)
   clear bz
   go_wp2
   go_ret
   exact⟨ret_bool F.out,HB3.out.trans (BZ.out.mono (by omega))⟩
set_option maxHeartbeats 2000000 in
theorem implIsFolded_any (v:Value) (g:GrD) (w:World) (h:ArgG w v g):
  Calls Tryz.prog 62 #[v] w fun e w'=>e= .returned (.bool (foldB g))∧Below w.heap.size w w':=by
 have HG:=hD h
 obtain⟨s,rfl,_,_,ha⟩:=h
 have H:=hD ha
 obtain⟨A,cap,rfl,hcap,hm,hn0,_⟩:=ha
 unfold maxLen at hm
 have bx:Below w.heap.size w (w.alloc (Obj.cells #[Value.int IntKind.i64 g.1,Value.int IntKind.i64 g.2.1, .slice A g.2.2.length cap] 31)):=(by repeat(first | exact Below.refl _ _ | (refine Below.setCell ?_ (by first | omega | (simp<;>omega)) _) | (refine bel_drewN ?_ _) | (refine Below.drew ?_) | (refine Below.alloc ?_ (by first | omega | (simp<;>omega)) _)))
 have kx:(w.alloc (Obj.cells #[Value.int IntKind.i64 g.1,Value.int IntKind.i64 g.2.1, .slice A g.2.2.length cap] 31)).cell? ⟨w.heap.size,2,none⟩=some (.slice A g.2.2.length cap):=by simp[go_sem]
 have sx:w.heap.size<(w.alloc (Obj.cells #[Value.int IntKind.i64 g.1,Value.int IntKind.i64 g.2.1, .slice A g.2.2.length cap] 31)).heap.size:=by simp
 have BX:=hD bx
 have KX:=hD kx
 clear bx kx
 go_enter Tryz.func62,Tryz.ntmps62
 go_wp2_with fail
 refine(implIsGraph_any _ g _ (HG.out.below BX.out)).mono ?_
 rintro e w1 ⟨rfl,b1⟩
 have HB:=hD (BX.out.trans (b1.mono BX.out.size))
 have k2:=(b1.cell (p:=⟨w.heap.size,2,none⟩) sx).trans KX.out
 have hs0:w.heap.size<w1.heap.size:=by have:=b1.size;omega
 have K2:=hD k2
 clear b1 sx
 rcases e0:grB g with _ | _
 ·go_wp2
  go_ret
  exact⟨ret_bool (foldB_no e0).symm,HB.out⟩
 go_wp2
 clear k2
 go_loopw [13] (fun i wo=> ∃k:Nat,k≤g.2.2.length∧i= .int .i64 k∧(∀i (hi:i<g.2.2.length),i<k→ ∀j (hj:j<g.2.2.length),i<j→clash g.2.2[j] g.2.2[i]=false)∧Below w1.heap.size w1 wo) (fun i _=>g.2.2.length-(intOf i).toNat)
 case atStart=>exact⟨0,Nat.zero_le _,rfl,fun i hi h=>absurd h (by omega),Below.refl _ _⟩
 case round=>
  obtain⟨k,hk,rfl,hall,hbel⟩:=hrel
  obtain⟨wo,rfl⟩: ∃wo:World,wo=wr:=⟨_,rfl⟩
  have HA:=hD hall
  have HB2:=hD hbel
  have HB3:=hD (HB.out.trans (hbel.mono HB.out.size))
  have hsz:=hbel.size
  have p2:=(hbel.cell (p:=⟨w.heap.size,2,none⟩) hs0).trans K2.out
  have hws:w.heap.size<wo.heap.size:=by omega
  clear hall hbel
  by_cases hlt:k<g.2.2.length
  ·obtain⟨b,off,rfl,hbl,c0,c1,c2,_⟩:=(H.out.below HB3.out).at hlt
   have j1:((k:Int)+1)≤(g.2.2.length:Int):=by omega
   have j0:(0:Int)≤(k:Int)+1:=by omega
   have j2:((k:Int)+1)≤(cap:Int):=by omega
   have CUT:=hD (H.out.cut (k:=k+1) (by omega))
   generalize hx:g.2.2[k]=x at c0 c1 c2
   have HX:=hD hx
   clear hx
   have hwr0:w.heap.size<wo.heap.size:=hws
   by_cases hcx:cap=k+1
   ·have hend:g.2.2.length=k+1:=by omega
    go_wp2
    refine wp_loop_rounds 1 ?_
    rw[rounds_succ]
    have hz0:g.2.2.length-(k+1)=0:=by omega
    go_wp2
    go_roundw
    case rel=>exact⟨k+1,by omega,by go_num,fun i hi him j hj hij=>by
      rcases Nat.lt_or_eq_of_le (Nat.le_of_lt_succ him) with h | rfl
      ·exact HA.out i hi h j hj hij
      ·omega,HB2.out.alloc (by omega) _⟩
    case measure=>simp[intOf];omega
   ·have cu:=CUT.out
    rw[if_neg hcx] at cu
    simp only[Option.map_some,Addr.add_lit] at cu
    have CU:=hD cu
    clear cu
    obtain⟨N,hN⟩: ∃N,N=g.2.2.length-(k+1):=⟨_,rfl⟩
    rw[←hN] at CU
    have hN2:(N:Int)=(g.2.2.length:Int)-((k:Int)+1):=by omega
    have hN3:k+1+N=g.2.2.length:=by omega
    go_wp2
    have hq:Below wo.heap.size wo (wo.alloc (Obj.cells #[Value.int IntKind.i64 x.1,Value.int IntKind.i64 x.2.1,Value.int IntKind.i64 x.2.2] 54)):=(Below.refl _ _).alloc (Nat.le_refl _) _
    have l0:(wo.alloc (Obj.cells #[Value.int IntKind.i64 x.1,Value.int IntKind.i64 x.2.1,Value.int IntKind.i64 x.2.2] 54)).cell? ⟨wo.heap.size,0,none⟩=some (.int .i64 x.1):=by simp[go_sem]
    have l1:(wo.alloc (Obj.cells #[Value.int IntKind.i64 x.1,Value.int IntKind.i64 x.2.1,Value.int IntKind.i64 x.2.2] 54)).cell? ⟨wo.heap.size,1,none⟩=some (.int .i64 x.2.1):=by simp[go_sem]
    have l2:(wo.alloc (Obj.cells #[Value.int IntKind.i64 x.1,Value.int IntKind.i64 x.2.1,Value.int IntKind.i64 x.2.2] 54)).cell? ⟨wo.heap.size,2,none⟩=some (.int .i64 x.2.2):=by simp[go_sem]
    have sq:wo.heap.size<(wo.alloc (Obj.cells #[Value.int IntKind.i64 x.1,Value.int IntKind.i64 x.2.1,Value.int IntKind.i64 x.2.2] 54)).heap.size:=by simp
    generalize wo.alloc (Obj.cells #[Value.int IntKind.i64 x.1,Value.int IntKind.i64 x.2.1,Value.int IntKind.i64 x.2.2] 54)=wq at hq l0 l1 l2 sq⊢
    have HQ:=hD hq
    have L0:=hD l0
    have L1:=hD l1
    have L2:=hD l2
    have HQ3:=hD (HB3.out.trans (hq.mono (by omega)))
    have HQ2:=hD (HB2.out.trans (hq.mono (by omega)))
    clear hq l0 l1 l2
    go_loopw [24] (fun j wr=> ∃m:Nat,m≤N∧j= .int .i64 m∧(∀j (hj:j<g.2.2.length),k<j→j<k+1+m→clash g.2.2[j] x=false)∧Below wq.heap.size wq wr) (fun j _=>N-(intOf j).toNat)
    case atStart=>exact⟨0,Nat.zero_le _,rfl,fun j hj h1 h2=>absurd h2 (by omega),Below.refl _ _⟩
    case round=>
     obtain⟨m,hm1,rfl,hin,hbi⟩:=hrel
     have HI:=hD hin
     have HBI:=hD hbi
     have szi:=hbi.size
     have l0:=(hbi.cell (p:=⟨wo.heap.size,0,none⟩) sq).trans L0.out
     have l1:=(hbi.cell (p:=⟨wo.heap.size,1,none⟩) sq).trans L1.out
     have l2:=(hbi.cell (p:=⟨wo.heap.size,2,none⟩) sq).trans L2.out
     have HB6:=hD (HQ3.out.trans (hbi.mono (by omega)))
     have hwr:wo.heap.size<wr.heap.size:=by omega
     clear hin hbi
     by_cases hlt2:m<N
     ·have hgm:(g.2.2.drop (k+1))[m]'(by simp;omega)=g.2.2[k+1+m]'(by omega):=by rw[List.getElem_drop]
      obtain⟨b2,off2,hA2,hbl2,d0,d1,d2,_⟩:=(CU.out.below HB6.out).at (k:=m) (by simp;omega)
      rw[hgm] at d0 d1 d2
      obtain⟨rfl,rfl⟩:b=b2∧off+(k+1)*3=off2:=by simpa using hA2
      have CL:Hid (clash (g.2.2[k+1+m]'(by omega)) x=true→foldB g=false):=hD (fun h=>foldB_clash (i:=k+1+m) (k:=k) (by omega) (by omega) (by rw[HX.out];exact h))
      have CN:Hid (clash (g.2.2[k+1+m]'(by omega)) x=false→ ∀j (hj:j<g.2.2.length),k<j→j<k+1+(m+1)→clash g.2.2[j] x=false):=hD fun F j hj hkj hjm=>by
       by_cases e:j=k+1+m
       ·subst e;exact F
       ·exact HI.out j hj hkj (by omega)
      clear hA2 hgm
      generalize g.2.2[k+1+m]'(by omega)=y at*
      have hC:Hid (clash y x=((x.2.1==y.2.1)&&((x.1==y.1)||(x.2.2==y.2.2)))):=hD (by rw[clash_comm];rfl)
      rcases t1:(x.2.1==y.2.1) with _ | _
      ·have F:=hD (CN.out (by rw[hC.out,t1];rfl))
       go_wp2
       go_roundw
       case rel=>exact⟨m+1,by omega,by go_num,F.out,HBI.out.alloc (by omega) _⟩
       case measure=>simp[intOf];omega
      rcases t2:(x.1==y.1) with _ | _
      ·rcases t3:(x.2.2==y.2.2) with _ | _
       ·have F:=hD (CN.out (by rw[hC.out,t1,t2,t3];rfl))
        go_wp2
        go_roundw
        case rel=>exact⟨m+1,by omega,by go_num,F.out,HBI.out.alloc (by omega) _⟩
        case measure=>simp[intOf];omega
       ·have F:=hD (CL.out (by rw[hC.out,t1,t2,t3];rfl))
        go_wp2
        go_ret
        exact⟨ret_bool F.out.symm,HB6.out.alloc (by omega) _⟩
      ·have F:=hD (CL.out (by rw[hC.out,t1,t2];rfl))
       go_wp2
       go_ret
       exact⟨ret_bool F.out.symm,HB6.out.alloc (by omega) _⟩
     ·obtain rfl:m=N:=by omega
      go_wp2
      go_roundw
      case rel=>exact⟨k+1,by omega,by go_num,fun i hi him j hj hij=>by
       rcases Nat.lt_or_eq_of_le (Nat.le_of_lt_succ him) with h | rfl
       ·exact HA.out i hi h j hj hij
       ·have:=HI.out j hj hij (by omega)
        rw[HX.out]
        exact this,HQ2.out.trans (HBI.out.mono (by omega))⟩
      case measure=>simp[intOf];omega
  ·obtain rfl:k=g.2.2.length:=by omega
   have F:Hid (foldB g=true):=hD (foldB_true e0 fun i hi j hj=>HA.out j (by omega) (by omega) i hi hj)
   go_wp2
   go_ret
   exact⟨ret_bool F.out.symm,HB3.out⟩
end Go.Proofs.YtfadnkjlilhneaaGreat
namespace Go.Proofs.YtfadnkjlilhneaaGreat
set_option maxRecDepth 20000
set_option linter.unusedVariables false
set_option linter.unusedSimpArgs false
open Go.RowKit
def lettersL:Nat→List Int
 | 0=> []
 | n+1=>lettersL n++ [((n:Nat):Int)+1,-(((n:Nat):Int)+1)]
theorem lettersL_len (n:Nat):(lettersL n).length=2*n:=by
 induction n with
 | zero=>rfl
 | succ n ih=>simp[lettersL,ih];omega
set_option maxHeartbeats 1000000 in
theorem l5Letters_any (n:Nat) (w:World) (hn:n≤1073741824):
  Calls Tryz.prog 83 #[.int .i64 n] w fun e w'=> ∃r,e= .returned r∧OwI w' w.heap.size r (lettersL n)∧Below w.heap.size w w':=by
 go_enter Tryz.func83,Tryz.ntmps83
 go_wp2
 go_loopw [3,4] (fun out i wr=> ∃k:Nat,k≤n∧i= .int .i64 (k+1)∧OwI wr w.heap.size out (lettersL k)∧Below w.heap.size w wr)
  (fun _ i _=>n+1-(intOf i).toNat)
 case atStart=>exact⟨0,Nat.zero_le _,rfl,OwI_lit _ [] I64s_nil (by simp) (Nat.le_refl _),(Below.refl _ _).alloc (Nat.le_refl _) _⟩
 case round=>
  obtain⟨k,hk,rfl,hown,hbel⟩:=hrel
  have hsz:=hbel.size
  have hal:=lettersL_len k
  by_cases hlt:k<n
  ·have HS:Hid (lettersL (k+1)=lettersL k++ [(k:Int)+1,-((k:Int)+1)]):=hD rfl
   generalize lettersL k=acc at hown HS hal
   have HO:=hD hown
   obtain⟨A1,cap1,rfl,hcap1,hm1,_,_⟩:=hown.form
   clear hown
   have HX:Hid (I64 ((k:Int)+1)):=hD ⟨by omega,by omega⟩
   have HY:Hid (I64 (-((k:Int)+1))):=hD ⟨by omega,by omega⟩
   go_wp2_with (first | ((at_builtin;refine push_int rfl (.tmp 11) (.tmp 13) rfl _ _ _ (OwI.alloc HO.out _) rfl _ _ rfl (cell_new1 _ _ _) HX.out (by first | omega | (simp<;>omega)) (by first | omega | (simp<;>omega)) ?_;intro v1 wv1 o1 g1 p1);have hz1:=g1.size;simp at hz1) | (at_builtin;refine push_int rfl (.tmp 15) (.tmp 18) rfl _ _ _ (OwI.alloc o1 _) rfl _ _ rfl (cell_new1 _ _ _) HY.out (by first | omega | (simp<;>omega)) (by first | omega | (simp<;>omega)) ?_;intro v2 wv2 o2 g2 p2))
   go_roundw
   case rel=>
    have hb1:=bel_push hbel hsz HO.out.1 (Nat.le_refl _) g1
    exact⟨k+1,by omega,by go_num,by rw[HS.out];simpa using o2,bel_push hb1 hb1.size o1.1 (Nat.le_refl _) g2⟩
   case measure=>simp[intOf];omega
  ·obtain rfl:k=n:=by omega
   go_wp2
   go_ret
   exact⟨_,rfl,hown,hbel⟩
set_option maxHeartbeats 1000000 in
theorem letters_any (n:Nat) (w:World) (hn:n≤1073741824):
  Calls Tryz.prog 66 #[.int .i64 n] w fun e w'=> ∃r,e= .returned r∧OwI w' w.heap.size r (lettersL n)∧Below w.heap.size w w':=by
 go_enter Tryz.func66,Tryz.ntmps66
 go_wp2
 go_loopw [3,4] (fun out i wr=> ∃k:Nat,k≤n∧i= .int .i64 (k+1)∧OwI wr w.heap.size out (lettersL k)∧Below w.heap.size w wr)
  (fun _ i _=>n+1-(intOf i).toNat)
 case atStart=>exact⟨0,Nat.zero_le _,rfl,OwI_lit _ [] I64s_nil (by simp) (Nat.le_refl _),(Below.refl _ _).alloc (Nat.le_refl _) _⟩
 case round=>
  obtain⟨k,hk,rfl,hown,hbel⟩:=hrel
  have hsz:=hbel.size
  have hal:=lettersL_len k
  by_cases hlt:k<n
  ·have HS:Hid (lettersL (k+1)=lettersL k++ [(k:Int)+1,-((k:Int)+1)]):=hD rfl
   generalize lettersL k=acc at hown HS hal
   have HO:=hD hown
   obtain⟨A1,cap1,rfl,hcap1,hm1,_,_⟩:=hown.form
   clear hown
   have HX:Hid (I64s [(k:Int)+1,-((k:Int)+1)]):=hD (fun x hx=>by simp at hx;unfold I64;omega)
   have HL:Hid (RdI (wr.alloc (.cells #[.int .i64 ((k:Int)+1), .int .i64 (-((k:Int)+1))] 3)) (.slice (some ⟨wr.heap.size,0,none⟩) 2 2) [(k:Int)+1,-((k:Int)+1)]):=
    hD (OwI_lit wr _ HX.out (by simp) (Nat.le_refl _)).rd
   go_wp2_with (at_builtin;refine append_ints rfl (.tmp 11) (.tmp 15) rfl w.heap.size _ _ (HO.out.alloc _) rfl _ _ HL.out rfl (by simp;omega) (by first | omega | (simp;omega)) ?_;intro v2 w2 o2 g2 p2)
   go_roundw
   case rel=>exact⟨k+1,by omega,by go_num,by rw[HS.out];exact o2,bel_push hbel hsz HO.out.1 (Nat.le_refl _) g2⟩
   case measure=>simp[intOf];omega
  ·obtain rfl:k=n:=by omega
   go_wp2
   go_ret
   exact⟨_,rfl,hown,hbel⟩
end Go.Proofs.YtfadnkjlilhneaaGreat
namespace Go.Proofs.YtfadnkjlilhneaaGreat
set_option maxRecDepth 20000
set_option linter.unusedVariables false
set_option linter.unusedSimpArgs false
open Go.RowKit
inductive Conn (es:List EdD) (v:Int):Int→Prop
 | base:Conn es v v
 | fwd (e:EdD) (he:e∈es) (h:Conn es v e.1):Conn es v e.2.2
 | back (e:EdD) (he:e∈es) (h:Conn es v e.2.2):Conn es v e.1
def stepR (o:List Int) (e:EdD):List Int:=
 if e.2.2∈(if e.1∈o then insF cmpI o e.2.2 else o) then insF cmpI (if e.1∈o then insF cmpI o e.2.2 else o) e.1 else(if e.1∈o then insF cmpI o e.2.2 else o)
theorem insF_mem {xs:List Int} {x y:Int}:y∈insF cmpI xs x↔y=x∨y∈xs:=by rw[insF_eq];exact insR_mem x xs cmpI_ord y
theorem stepR_mem {o:List Int} {e:EdD} {x:Int}:x∈stepR o e↔x∈o∨((e.1∈o∨e.2.2∈o)∧(x=e.1∨x=e.2.2)):=by
 unfold stepR
 by_cases h1:e.1∈o
 ·simp only[h1,if_true]
  have h2:e.2.2∈insF cmpI o e.2.2:=insF_mem.2 (.inl rfl)
  rw[if_pos h2,insF_mem,insF_mem]
  constructor
  ·rintro(h | h | h)
   ·exact .inr ⟨.inl trivial, .inl h⟩
   ·exact .inr ⟨.inl trivial, .inr h⟩
   ·exact .inl h
  ·rintro(h | ⟨_,h | h⟩)
   ·exact .inr (.inr h)
   ·exact .inl h
   ·exact .inr (.inl h)
 ·simp only[h1,if_false]
  by_cases h2:e.2.2∈o
  ·rw[if_pos h2,insF_mem]
   constructor
   ·rintro(h | h)
    ·exact .inr ⟨.inr h2, .inl h⟩
    ·exact .inl h
   ·rintro(h | ⟨_,h | h⟩)
    ·exact .inr h
    ·exact .inl h
    ·exact .inr (by rw[h];exact h2)
  ·rw[if_neg h2]
   constructor
   ·exact .inl
   ·rintro(h | ⟨h | h,_⟩)
    ·exact h
    ·exact absurd h (by simp)
    ·exact absurd h h2
def passR (es:List EdD) (o:List Int):List Int:=es.foldl stepR o
theorem passR_mono {es:List EdD} {o:List Int} {x:Int} (h:x∈o):x∈passR es o:=by
 unfold passR
 induction es generalizing o with
 | nil=>exact h
 | cons e es ih=>exact ih (stepR_mem.2 (.inl h))
theorem passR_both {es:List EdD} {o:List Int} {e:EdD} (he:e∈es) (h:e.1∈o∨e.2.2∈o):e.1∈passR es o∧e.2.2∈passR es o:=by
 unfold passR
 induction es generalizing o with
 | nil=>cases he
 | cons d es ih=>
   rcases List.mem_cons.1 he with rfl | he
   ·exact⟨passR_mono (es:=es) (o:=stepR o e) (stepR_mem.2 (.inr ⟨h, .inl rfl⟩)),passR_mono (es:=es) (o:=stepR o e) (stepR_mem.2 (.inr ⟨h, .inr rfl⟩))⟩
   ·refine ih he ?_
    rcases h with h | h
    ·exact .inl (stepR_mem.2 (.inl h))
    ·exact .inr (stepR_mem.2 (.inl h))
theorem passR_sound {es es':List EdD} {v:Int} {o:List Int} (hsub: ∀e∈es',e∈es) (h: ∀x∈o,Conn es v x): ∀x∈passR es' o,Conn es v x:=by
 unfold passR
 induction es' generalizing o with
 | nil=>exact h
 | cons e es' ih=>
   refine ih (fun d hd=>hsub d (by simp[hd])) fun x hx=> ?_
   have he:=hsub e (by simp)
   rcases stepR_mem.1 hx with hx | ⟨h1 | h1,rfl | rfl⟩
   ·exact h x hx
   ·exact h _ h1
   ·exact .fwd e he (h _ h1)
   ·exact .back e he (h _ h1)
   ·exact h _ h1
def Clo (es:List EdD) (o:List Int):Prop:= ∀e∈es,(e.1∈o↔e.2.2∈o)
theorem passR_clo {es:List EdD} {o:List Int} (h:Clo es o): ∀x,x∈passR es o↔x∈o:=by
 have key: ∀es':List EdD,(∀e∈es',e∈es)→ ∀o',(∀x,x∈o'↔x∈o)→ ∀x,x∈es'.foldl stepR o'↔x∈o:=by
  intro es'
  induction es' with
  | nil=>intro _ o' ho;exact ho
  | cons e es' ih=>
    intro hsub o' ho
    refine ih (fun d hd=>hsub d (by simp[hd])) _ fun x=> ?_
    rw[stepR_mem,ho,ho,ho]
    have:=h e (hsub e (by simp))
    constructor
    ·rintro(hx | ⟨h1 | h1,rfl | rfl⟩)
     ·exact hx
     ·exact h1
     ·exact this.1 h1
     ·exact this.2 h1
     ·exact h1
    ·exact .inl
 exact key es (fun _ h=>h) o fun _=>Iff.rfl
def phi (es:List EdD) (o:List Int):Nat:=(es.filter fun e=>decide (e.1∈o∧e.2.2∈o)).length
theorem filter_lt {α:Type} {p q:α→Bool} {l:List α} (hpq: ∀x,p x=true→q x=true) {a:α} (ha:a∈l) (hq:q a=true) (hp:p a=false):(l.filter p).length<(l.filter q).length:=by
 have le: ∀l:List α,(l.filter p).length≤(l.filter q).length:=by
  intro l
  induction l with
  | nil=>simp
  | cons b l ih=>
    rw[List.filter_cons,List.filter_cons]
    split
    ·rename_i h
     rw[if_pos (hpq b h)]
     simp;exact ih
    ·split
     ·simp;omega
     ·exact ih
 induction l with
 | nil=>cases ha
 | cons b l ih=>
   rw[List.filter_cons,List.filter_cons]
   rcases List.mem_cons.1 ha with rfl | ha
   ·rw[if_neg (by simp[hp]),if_pos hq]
    have:=le l
    simp;omega
   ·have:=ih ha
    split
    ·rename_i h
     rw[if_pos (hpq b h)]
     simp;exact this
    ·split
     ·simp;omega
     ·exact this
theorem phi_lt {es:List EdD} {o:List Int} (h: ¬Clo es o):phi es o<phi es (passR es o):=by
 unfold Clo at h
 have: ∃e,e∈es∧ ¬(e.1∈o↔e.2.2∈o):=by
  apply Classical.byContradiction
  intro hn
  exact h fun e he=>Classical.byContradiction fun hne=>hn ⟨e,he,hne⟩
 obtain⟨e,he,hne⟩:=this
 have hor:e.1∈o∨e.2.2∈o:=by
  apply Classical.byContradiction
  intro hn
  exact hne ⟨fun h=>absurd (.inl h) hn,fun h=>absurd (.inr h) hn⟩
 refine filter_lt (fun d hd=> ?_) he ?_ ?_
 ·simp only[decide_eq_true_eq] at hd⊢
  exact⟨passR_mono hd.1,passR_mono hd.2⟩
 ·simp only[decide_eq_true_eq]
  exact passR_both he hor
 ·rw[decide_eq_false_iff_not]
  exact fun hh=>hne ⟨fun _=>hh.2,fun _=>hh.1⟩
def iterR (es:List EdD) (v:Int):Nat→List Int
 | 0=> [v]
 | i+1=>passR es (iterR es v i)
theorem iterR_clo (es:List EdD) (v:Int) (i:Nat):Clo es (iterR es v i)∨i≤phi es (iterR es v i):=by
 induction i with
 | zero=>exact .inr (Nat.zero_le _)
 | succ i ih=>
   by_cases h:Clo es (iterR es v i)
   ·left
    intro e he
    show e.1∈passR es _↔e.2.2∈passR es _
    rw[passR_clo h,passR_clo h]
    exact h e he
   ·right
    have h1:=phi_lt h
    rcases ih with ih | ih
    ·exact absurd ih h
    ·show i+1≤phi es (passR es (iterR es v i))
     omega
def reachL (es:List EdD) (v:Int):List Int:=iterR es v (es.length+1)
theorem reachL_mem (es:List EdD) (v x:Int):x∈reachL es v↔Conn es v x:=by
 have hclo:Clo es (reachL es v):=by
  rcases iterR_clo es v (es.length+1) with h | h
  ·exact h
  ·have:phi es (iterR es v (es.length+1))≤es.length:=List.length_filter_le _ _
   omega
 have hv: ∀i,v∈iterR es v i:=by
  intro i
  induction i with
  | zero=>simp[iterR]
  | succ i ih=>exact passR_mono ih
 have hs: ∀i,∀x∈iterR es v i,Conn es v x:=by
  intro i
  induction i with
  | zero=>intro x hx;simp[iterR] at hx;subst hx;exact .base
  | succ i ih=>exact passR_sound (fun _ h=>h) ih
 refine⟨hs _ x,fun h=> ?_⟩
 induction h with
 | base=>exact hv _
 | fwd e he _ ih=>exact(hclo e he).1 ih
 | back e he _ ih=>exact(hclo e he).2 ih
theorem conn_of_closed {es:List EdD} {v:Int} {S:Int→Prop} (hv:S v) (hc: ∀e∈es,(S e.1↔S e.2.2)) {x:Int} (h:Conn es v x):S x:=by
 induction h with
 | base=>exact hv
 | fwd e he _ ih=>exact(hc e he).1 ih
 | back e he _ ih=>exact(hc e he).2 ih
theorem hasB_iff {l:List Int} {x:Int}:hasB l x=true↔x∈l:=by
 unfold hasB
 rw[List.any_eq_true]
 constructor
 ·rintro⟨y,hy,h⟩
  have:y=x:=by simpa using h
  rw[←this];exact hy
 ·intro h
  exact⟨x,h,by simp⟩
theorem hasB_not {l:List Int} {x:Int} (h:hasB l x=false):x∉l:=fun hm=>by
 rw[hasB_iff.2 hm] at h
 cases h
theorem stepR_len (o:List Int) (e:EdD):(stepR o e).length≤o.length+2:=by
 unfold stepR
 have h1:(if e.1∈o then insF cmpI o e.2.2 else o).length≤o.length+1:=by
  split
  ·exact insF_len _ _
  ·omega
 generalize (if e.1∈o then insF cmpI o e.2.2 else o)=o1 at h1⊢
 split
 ·have:=insF_len (c:=cmpI) o1 e.1
  omega
 ·omega
theorem foldR_len (es:List EdD) (o:List Int):(es.foldl stepR o).length≤o.length+2*es.length:=by
 induction es generalizing o with
 | nil=>simp
 | cons e es ih=>
   have h1:=ih (stepR o e)
   have h2:=stepR_len o e
   simp only[List.foldl_cons,List.length_cons]
   omega
theorem iterR_len (es:List EdD) (v:Int) (i:Nat) (hl:es.length≤120):(iterR es v i).length≤1+240*i:=by
 induction i with
 | zero=>simp[iterR]
 | succ i ih=>
   have:=foldR_len es (iterR es v i)
   show(passR es (iterR es v i)).length≤_
   unfold passR
   omega
def rsL (es:List EdD) (v:Int) (i k:Nat):List Int:=(es.take k).foldl stepR (iterR es v i)
theorem rsL_succ (es:List EdD) (v:Int) (i k:Nat) (h:k<es.length):rsL es v i (k+1)=stepR (rsL es v i k) es[k]:=by
 unfold rsL
 rw[List.take_succ_eq_append_getElem h,List.foldl_append]
 rfl
theorem rsL_len (es:List EdD) (v:Int) (i k:Nat) (hl:es.length≤120) (hi:i≤121) (hk:k≤120):(rsL es v i k).length≤100000:=by
 have h1:=iterR_len es v i hl
 have h2:=foldR_len (es.take k) (iterR es v i)
 have h3:(es.take k).length≤k:=List.length_take_le _ _
 unfold rsL
 omega
theorem stepR_ff {o:List Int} {e:EdD} (h1:hasB o e.1=false) (h2:hasB o e.2.2=false):stepR o e=o:=by
 unfold stepR
 rw[if_neg (hasB_not h1),if_neg (hasB_not h2)]
theorem stepR_ft {o:List Int} {e:EdD} (h1:hasB o e.1=false) (h2:hasB o e.2.2=true):stepR o e=insF cmpI o e.1:=by
 unfold stepR
 rw[if_neg (hasB_not h1),if_pos (hasB_iff.1 h2)]
theorem stepR_t {o:List Int} {e:EdD} (h1:hasB o e.1=true):stepR o e=insF cmpI (insF cmpI o e.2.2) e.1:=by
 unfold stepR
 rw[if_pos (hasB_iff.1 h1),if_pos (insF_mem.2 (.inl rfl))]
set_option maxHeartbeats 800000 in
theorem reachedFrom_any (v:Value) (g:GrD) (u:Int) (w:World) (h:ArgG w v g) (hg:grB g=true) (hu:inB u 0 (wrap64 (g.2.1-1))=true) (hu64:I64 u):
  Calls Tryz.prog 126 #[v, .int .i64 u] w fun e w'=> ∃r,e= .returned r∧OwI w' w.heap.size r (reachL g.2.2 u)∧Below w.heap.size w w':=by
 have HG:=hD h
 obtain⟨_,hsz40,hl120,_⟩:=grB_parts hg
 have hw1:wrap64 (g.2.1-1)=g.2.1-1:=IntWalk.wrap64_in _ ⟨by omega,by omega⟩
 rw[hw1] at hu
 clear hw1
 have HU:=hD hu64
 clear hu64
 obtain⟨s,rfl,_,_,ha⟩:=h
 have H:=hD ha
 obtain⟨A,cap,rfl,hcap,hm,_,hr,_⟩:=ha
 have HR:=hD hr
 unfold maxLen at hm
 have bx:Below w.heap.size w (w.alloc (Obj.cells #[Value.int IntKind.i64 g.1,Value.int IntKind.i64 g.2.1, .slice A g.2.2.length cap] 31)):=(by repeat(first | exact Below.refl _ _ | (refine Below.setCell ?_ (by first | omega | (simp<;>omega)) _) | (refine bel_drewN ?_ _) | (refine Below.drew ?_) | (refine Below.alloc ?_ (by first | omega | (simp<;>omega)) _)))
 have kx1:(w.alloc (Obj.cells #[Value.int IntKind.i64 g.1,Value.int IntKind.i64 g.2.1, .slice A g.2.2.length cap] 31)).cell? ⟨w.heap.size,1,none⟩=some (.int .i64 g.2.1):=by simp[go_sem]
 have kx:(w.alloc (Obj.cells #[Value.int IntKind.i64 g.1,Value.int IntKind.i64 g.2.1, .slice A g.2.2.length cap] 31)).cell? ⟨w.heap.size,2,none⟩=some (.slice A g.2.2.length cap):=by simp[go_sem]
 have sx:w.heap.size<(w.alloc (Obj.cells #[Value.int IntKind.i64 g.1,Value.int IntKind.i64 g.2.1, .slice A g.2.2.length cap] 31)).heap.size:=by simp
 have BX:=hD bx
 have KX:=hD kx
 have KX1:=hD kx1
 clear bx kx kx1 hr
 go_enter Tryz.func126,Tryz.ntmps126
 go_wp2_with fail
 have hgr:=specIsGraph_any _ g _ (HG.out.below BX.out)
 rw[hg] at hgr
 have HGR:=hD hgr
 clear hgr
 refine HGR.out.mono ?_
 rintro e w0 ⟨rfl,b1⟩
 have B0:=hD (BX.out.trans (b1.mono BX.out.size))
 have k2:=(b1.cell (p:=⟨w.heap.size,2,none⟩) sx).trans KX.out
 have k1:=(b1.cell (p:=⟨w.heap.size,1,none⟩) sx).trans KX1.out
 have hs0:w.heap.size<w0.heap.size:=by have:=b1.size;omega
 clear b1 sx HGR
 go_wp2_with fail
 have hin:=l1In_any u 0 (g.2.1-1) w0
 rw[hu] at hin
 have HIN:=hD hin
 clear hin
 refine HIN.out.mono ?_
 rintro e w' ⟨rfl,rfl⟩
 clear HIN
 go_wp2
 have hb:Below w0.heap.size w0 (w0.alloc (Obj.cells #[Value.int IntKind.i64 u] 3)):=(Below.refl _ _).alloc (Nat.le_refl _) _
 have o0:OwI (w0.alloc (Obj.cells #[Value.int IntKind.i64 u] 3)) w0.heap.size (.slice (some ⟨w0.heap.size,0,none⟩) 1 1) [u]:=OwI_lit w0 [u] (fun x hx=>by simp at hx;subst hx;exact HU.out) (by simp) (Nat.le_refl _)
 have hs1:w0.heap.size<(w0.alloc (Obj.cells #[Value.int IntKind.i64 u] 3)).heap.size:=by simp
 generalize w0.alloc (Obj.cells #[Value.int IntKind.i64 u] 3)=w1 at hb o0 hs1⊢
 have HB:=hD (B0.out.trans (hb.mono B0.out.size))
 have K2:=hD ((hb.cell (p:=⟨w.heap.size,2,none⟩) hs0).trans k2)
 have O0:=hD (o0.mono (base':=w.heap.size+1) (by omega))
 clear hb k1 k2 o0
 go_loopw [5,6] (fun out i wo=> ∃k:Nat,k≤g.2.2.length+1∧i= .int .i64 k∧OwI wo (w.heap.size+1) out (iterR g.2.2 u k)∧Below (w.heap.size+1) w1 wo) (fun _ i _=>g.2.2.length+1-(intOf i).toNat)
 case atStart=>exact⟨0,Nat.zero_le _,rfl,O0.out,Below.refl _ _⟩
 case round=>
  obtain⟨k,hk,rfl,hown,hbel⟩:=hrel
  obtain⟨wo,rfl⟩: ∃wo:World,wo=wr:=⟨_,rfl⟩
  have HB2:=hD hbel
  have HB3:=hD (HB.out.trans (hbel.mono (by omega)))
  have hsz:=hbel.size
  have p2:=(hbel.cell (p:=⟨w.heap.size,2,none⟩) (show w.heap.size<w.heap.size+1 by omega)).trans K2.out
  have hws:w.heap.size<wo.heap.size:=by omega
  have hil:=iterR_len g.2.2 u k hl120
  have HO:=hD hown
  obtain⟨A1,cap1,rfl,_⟩:=hown.form
  clear hown hbel
  by_cases hlt:k<g.2.2.length+1
  ·have hlt':(k:Int)<(g.2.2.length:Int)+1:=by omega
   go_wp2
   go_loopw [5,7] (fun out j wr=> ∃m:Nat,m≤g.2.2.length∧j= .int .i64 m∧OwI wr (w.heap.size+1) out (rsL g.2.2 u k m)∧Below (w.heap.size+1) wo wr) (fun _ j _=>g.2.2.length-(intOf j).toNat)
   case atStart=>exact⟨0,Nat.zero_le _,rfl,HO.out,Below.refl _ _⟩
   case round=>
    obtain⟨m,hm1,rfl,hown,hbi⟩:=hrel
    have hsi:=hbi.size
    have p2:=(hbi.cell (p:=⟨w.heap.size,2,none⟩) (show w.heap.size<w.heap.size+1 by omega)).trans p2
    have HBI:=hD hbi
    have HB4:=hD (HB3.out.trans (hbi.mono (by omega)))
    have hwr:w.heap.size<wr.heap.size:=by omega
    have hrl:=rsL_len g.2.2 u k m hl120 (by omega) (by omega)
    clear hbi
    by_cases hlt2:m<g.2.2.length
    ·obtain⟨b,off,rfl,hbl,c0,c1,c2,_⟩:=(H.out.below HB4.out).at hlt2
     have HX:=hD (HR.out g.2.2[m] (by simp))
     have HS:=hD (rsL_succ g.2.2 u k m hlt2)
     generalize g.2.2[m]=e at*
     generalize rsL g.2.2 u k m=o at*
     have HO2:=hD hown
     obtain⟨A2,cap2,rfl,_⟩:=hown.form
     clear hown
     go_wp2_with fail
     obtain⟨W,hW⟩: ∃W,W=World.alloc wr (Obj.cells #[Value.int IntKind.i64 e.1,Value.int IntKind.i64 e.2.1,Value.int IntKind.i64 e.2.2] 54):=⟨_,rfl⟩
     rw[←hW]
     have bW:Below wr.heap.size wr W:=by rw[hW];exact(Below.refl _ _).alloc (Nat.le_refl _) _
     have sW:wr.heap.size<W.heap.size:=by rw[hW];simp
     have l0:W.cell? ⟨wr.heap.size,0,none⟩=some (.int .i64 e.1):=by rw[hW];simp[go_sem]
     have l2:W.cell? ⟨wr.heap.size,2,none⟩=some (.int .i64 e.2.2):=by rw[hW];simp[go_sem]
     have OW:=hD (HO2.out.below bW)
     have BW:=hD (HBI.out.trans (bW.mono (by omega)))
     clear hW bW p2 c0 c1 c2
     refine(l4Has_any _ o e.1 _ OW.out.rd.arg (by omega)).mono ?_
     rintro e' w' ⟨rfl,rfl⟩
     rcases h1:hasB o e.1 with _ | _
     ·go_wp2_with fail
      refine(l4Has_any _ o e.2.2 _ OW.out.rd.arg (by omega)).mono ?_
      rintro e' w' ⟨rfl,rfl⟩
      rcases h2:hasB o e.2.2 with _ | _
      ·have F:=hD (stepR_ff h1 h2)
       go_wp2
       go_roundw
       case rel=>exact⟨m+1,by omega,by go_num,by rw[HS.out,F.out];exact OW.out,BW.out⟩
       case measure=>simp[intOf];omega
      ·have F:=hD (stepR_ft h1 h2)
       go_wp2_with fail
       refine(l4Add_any _ o e.1 _ OW.out.rd HX.out.1 (by omega)).mono ?_
       rintro e' w2 ⟨r2,rfl,o2,b2⟩
       have O2:=hD o2
       have B2:=hD b2
       obtain⟨A3,cap3,rfl,_⟩:=o2.form
       clear o2 b2
       go_wp2
       go_roundw
       case rel=>exact⟨m+1,by omega,by go_num,by rw[HS.out,F.out];exact O2.out.mono (by omega),BW.out.trans (B2.out.mono (by omega))⟩
       case measure=>simp[intOf];omega
     ·have F:=hD (stepR_t h1)
      go_wp2_with fail
      refine(l4Add_any _ o e.2.2 _ OW.out.rd HX.out.2.2 (by omega)).mono ?_
      rintro e' w2 ⟨r2,rfl,o2,b2⟩
      have O2:=hD o2
      have B2:=hD b2
      have s2:=b2.size
      have hq0:=(b2.cell (p:=⟨wr.heap.size,0,none⟩) sW).trans l0
      have hq2:=(b2.cell (p:=⟨wr.heap.size,2,none⟩) sW).trans l2
      obtain⟨A3,cap3,rfl,_⟩:=o2.form
      have hl2:=insF_len (c:=cmpI) o e.2.2
      have hm2:hasB (insF cmpI o e.2.2) e.2.2=true:=hasB_iff.2 (insF_mem.2 (.inl rfl))
      have HM2:=hD hm2
      clear o2 b2 l0 l2 hm2
      generalize insF cmpI o e.2.2=o1 at*
      go_wp2_with fail
      refine(l4Has_any _ o1 e.2.2 _ O2.out.rd.arg (by omega)).mono ?_
      rintro e' w' ⟨rfl,rfl⟩
      rw[HM2.out]
      go_wp2_with fail
      refine(l4Add_any _ o1 e.1 _ O2.out.rd HX.out.1 (by omega)).mono ?_
      rintro e' w3 ⟨r3,rfl,o3,b3⟩
      have O3:=hD o3
      have B3:=hD b3
      obtain⟨A4,cap4,rfl,_⟩:=o3.form
      clear o3 b3
      go_wp2
      go_roundw
      case rel=>exact⟨m+1,by omega,by go_num,by rw[HS.out,F.out];exact O3.out.mono (by omega),(BW.out.trans (B2.out.mono (by omega))).trans (B3.out.mono (by omega))⟩
      case measure=>simp[intOf];omega
    ·obtain rfl:m=g.2.2.length:=by omega
     have F:Hid (rsL g.2.2 u k g.2.2.length=iterR g.2.2 u (k+1)):=hD (by unfold rsL;rw[List.take_length];rfl)
     have HO2:=hD hown
     obtain⟨A2,cap2,rfl,_⟩:=hown.form
     clear hown
     go_wp2
     go_roundw
     case rel=>exact⟨k+1,by omega,by go_num,by rw[←F.out];exact HO2.out,HB2.out.trans HBI.out⟩
     case measure=>simp[intOf];omega
  ·obtain rfl:k=g.2.2.length+1:=by omega
   have hge: ¬((g.2.2.length:Int)+1<(g.2.2.length:Int)+1):=by omega
   go_wp2
   go_ret
   exact⟨_,rfl,HO.out.mono (by omega),HB3.out⟩
theorem mt_clash {v x y y':Int} {e e':EdD} (h:mt v x e=some y) (h':mt v x e'=some y'):clash e e'=true:=by
 unfold mt at h h'
 by_cases hp:0<x
 ·rw[if_pos hp] at h h'
  split at h
  ·rename_i a
   split at h'
   ·rename_i b
    unfold clash
    simp[a.1,a.2,b.1,b.2]
   ·cases h'
  ·cases h
 ·rw[if_neg hp] at h h'
  by_cases hn:x<0
  ·rw[if_pos hn] at h h'
   split at h
   ·rename_i a
    split at h'
    ·rename_i b
     unfold clash
     simp[a.1,a.2,b.1,b.2]
    ·cases h'
   ·cases h
  ·rw[if_neg hn] at h;cases h
theorem steps_one {es:List EdD} (h:Fol es) (v x:Int):(stepsL es v x).length≤1:=by
 unfold stepsL
 unfold Fol at h
 induction es with
 | nil=>simp
 | cons e es ih=>
   have p:=List.pairwise_cons.1 h
   rw[List.filterMap_cons]
   cases hm:mt v x e with
   | none=>exact ih p.2
   | some y=>
     have:es.filterMap (mt v x)= []:=by
      rw[List.filterMap_eq_nil_iff]
      intro e' he'
      cases hm':mt v x e' with
      | none=>rfl
      | some y'=>
        have:=mt_clash hm hm'
        rw[p.1 e' he'] at this
        cases this
     simp[this]
theorem edge_of_gr {g:GrD} (h:grB g=true) {e:EdD} (he:e∈g.2.2):(0≤e.1∧e.1<g.2.1)∧(1≤e.2.1∧e.2.1≤g.1)∧(0≤e.2.2∧e.2.2<g.2.1):=by
 obtain⟨h1,h2,_,h4⟩:=grB_parts h
 obtain⟨k,hk,rfl⟩:=List.getElem_of_mem he
 have:=h4 k hk
 have ho:edgeOk g.1 g.2.1 g.2.2[k]=true:=by
  rcases Nat.eq_zero_or_pos k with rfl | h0
  ·rw[okE_zero hk] at this;exact this
  ·rw[okE_pos h0 hk,Bool.and_eq_true] at this;exact this.1
 unfold edgeOk at ho
 rw[IntWalk.wrap64_in (g.2.1-1) ⟨by omega,by omega⟩] at ho
 simp only[Bool.and_eq_true,inB_iff] at ho
 omega
theorem nextV_range {g:GrD} (h:grB g=true) (v x:Int):nextV g.2.2 v x= -1∨(0≤nextV g.2.2 v x∧nextV g.2.2 v x<g.2.1):=by
 unfold nextV stepsL
 cases hs:g.2.2.filterMap (mt v x) with
 | nil=>exact .inl rfl
 | cons y l=>
   right
   have hy:y∈g.2.2.filterMap (mt v x):=by rw[hs];simp
   obtain⟨e,he,hm⟩:=List.mem_filterMap.1 hy
   obtain⟨a,_,b⟩:=edge_of_gr h he
   show 0≤y∧y<g.2.1
   unfold mt at hm
   split at hm
   ·split at hm
    ·injection hm with hm;subst hm;exact b
    ·cases hm
   ·split at hm
    ·split at hm
     ·injection hm with hm;subst hm;exact a
     ·cases hm
    ·cases hm
theorem let_of_gr {g:GrD} (h:grB g=true): ∀e∈g.2.2,1≤e.2.1:=fun _ he=>(edge_of_gr h he).2.1.1
def cstep (es:List EdD) (u:Int) (o:List Int) (x:Int):List Int:=
 if 0≤nextV es u x then(if hasB o (nextV es u x) then o else o++ [nextV es u x]) else o
def canF (es:List EdD) (ls:List Int):Nat→Nat→List Int→List Int
 | 0,_,o=>o
 | f+1,i,o=>match o[i]? with
   | none=>o
   | some u=>canF es ls f (i+1) (ls.foldl (cstep es u) o)
def canO (g:GrD):List Int:=canF g.2.2 (lettersL g.1.toNat) 41 0 [0]
def OrdOk (n:Int) (o:List Int):Prop:=o.Nodup∧(∀y∈o,0≤y∧y<n)∧o[0]? =some 0
theorem nodup_len: ∀(n:Nat) (o:List Int),o.Nodup→(∀y∈o,0≤y∧y<n)→o.length≤n
 | 0,[],_,_=>Nat.le_refl _
 | 0,y::o,_,h=>by have:=h y (by simp);omega
 | n+1,o,hd,h=>by
   by_cases hm:(n:Int)∈o
   ·have h1:=List.length_erase_of_mem hm
    have h2:=nodup_len n (o.erase n) (hd.erase _) fun y hy=>by
     have hy':=(hd.mem_erase_iff).1 hy
     have:=h y hy'.2
     have:y≠(n:Int):=hy'.1
     omega
    have:0<o.length:=List.length_pos_of_mem hm
    omega
   ·have:=nodup_len n o hd fun y hy=>by
     have:=h y hy
     have:y≠(n:Int):=fun e=>hm (e▸hy)
     omega
    omega
def OrdN (n:Int) (o:List Int):Prop:=o.Nodup∧(∀y∈o,0≤y∧y<n)∧1≤o.length
theorem OrdOk.toN {n:Int} {o:List Int} (h:OrdOk n o):OrdN n o:=by
 refine⟨h.1,h.2.1,?_⟩
 have:=h.2.2
 cases o with
 | nil=>cases this
 | cons _ _=>simp
theorem OrdOk.len {n:Int} {o:List Int} (h:OrdOk n o) (hn:n≤40) (hn0:0≤n):o.length≤40:=by
 have:=nodup_len n.toNat o h.1 fun y hy=>by have:=h.2.1 y hy;omega
 omega
theorem cstep_ok {g:GrD} (hg:grB g=true) {u:Int} {o:List Int} (x:Int) (h:OrdOk g.2.1 o):OrdOk g.2.1 (cstep g.2.2 u o x):=by
 unfold cstep
 split
 ·rename_i h0
  split
  ·exact h
  ·rename_i hb
   have hb':nextV g.2.2 u x∉o:=hasB_not (by simpa using hb)
   refine⟨List.nodup_append.2 ⟨h.1,by simp,fun a ha b hb e=> ?_⟩,fun y hy=> ?_,?_⟩
   ·simp at hb
    subst hb e
    exact hb' ha
   ·rcases List.mem_append.1 hy with hy | hy
    ·exact h.2.1 y hy
    ·simp at hy
     subst hy
     rcases nextV_range hg u x with e | e
     ·omega
     ·exact e
   ·have:0<o.length:=by
     have:=h.2.2
     cases o with
     | nil=>cases this
     | cons _ _=>simp
    rw[List.getElem?_append_left this]
    exact h.2.2
 ·exact h
theorem cfold_ok {g:GrD} (hg:grB g=true) {u:Int} (ls:List Int) {o:List Int} (h:OrdOk g.2.1 o):OrdOk g.2.1 (ls.foldl (cstep g.2.2 u) o):=by
 induction ls generalizing o with
 | nil=>exact h
 | cons x ls ih=>exact ih (cstep_ok hg x h)
theorem cfold_prefix (es:List EdD) (u:Int) (ls:List Int) (o:List Int) (i:Nat) (y:Int) (h:o[i]? =some y):(ls.foldl (cstep es u) o)[i]? =some y:=by
 induction ls generalizing o with
 | nil=>exact h
 | cons x ls ih=>
   refine ih _ ?_
   unfold cstep
   split
   ·split
    ·exact h
    ·rw[List.getElem?_append_left (List.getElem?_eq_some_iff.1 h).1];exact h
   ·exact h
theorem cfold_succ (es:List EdD) (u:Int) (ls o:List Int) (k:Nat) (h:k<ls.length):(ls.take (k+1)).foldl (cstep es u) o=cstep es u ((ls.take k).foldl (cstep es u) o) ls[k]:=by
 rw[List.take_succ_eq_append_getElem h,List.foldl_append]
 rfl
theorem OrdOk.one {n:Int} (h:1≤n):OrdOk n [0]:=⟨by simp,fun y hy=>by simp at hy;omega,rfl⟩
theorem canF_end (es:List EdD) (ls:List Int) (f:Nat) (o:List Int):canF es ls f o.length o=o:=by
 cases f with
 | zero=>rfl
 | succ f=>unfold canF;rw[List.getElem?_eq_none (Nat.le_refl _)]
theorem canF_step (es:List EdD) (ls:List Int) (f i:Nat) (o:List Int) (h:i<o.length):canF es ls (f+1) i o=canF es ls f (i+1) (ls.foldl (cstep es o[i]) o):=by
 rw[canF,List.getElem?_eq_getElem h]
theorem canF_ok {g:GrD} (hg:grB g=true) (ls:List Int) (f i:Nat) {o:List Int} (h:OrdOk g.2.1 o):OrdOk g.2.1 (canF g.2.2 ls f i o):=by
 induction f generalizing i o with
 | zero=>exact h
 | succ f ih=>
   unfold canF
   split
   ·exact h
   ·exact ih _ (cfold_ok hg ls h)
theorem canO_ok {g:GrD} (hg:grB g=true):OrdOk g.2.1 (canO g):=canF_ok hg _ _ _ (OrdOk.one (grB_parts hg).2.1.1)
end Go.Proofs.YtfadnkjlilhneaaGreat
namespace Go.Proofs.YtfadnkjlilhneaaGreat
set_option maxRecDepth 20000
set_option linter.unusedVariables false
set_option linter.unusedSimpArgs false
open Go.RowKit
theorem ArgE.cells {w:World} {ad:Addr} {m cap:Nat} {es:List EdD} (h:ArgE w (.slice (some ad) m cap) es): ∀j y,(edCs es)[j]? =some y→w.cell? (ad.add j)=some y:=by
 intro j y hj
 have hlt:j<es.length*3:=by
  have:=(List.getElem?_eq_some_iff.1 hj).1
  rw[edCs_length] at this
  exact this
 have hk:j/3<es.length:=by omega
 obtain⟨b,off,hA,_,c0,c1,c2,_⟩:=h.at hk
 injection hA with hA
 subst hA
 have hg:=edCs_get es (j/3) (j%3) hk (by omega)
 have e:j/3*3+j%3=j:=by omega
 rw[e,hj] at hg
 rw[Addr.add_lit]
 have hr:j%3=0∨j%3=1∨j%3=2:=by omega
 rcases hr with hr | hr | hr
 ·rw[hr] at hg
  simp only[edC,List.getElem?_cons_zero] at hg
  rw[hg,←c0]
  congr 2;omega
 ·rw[hr] at hg
  simp only[edC,List.getElem?_cons_zero,List.getElem?_cons_succ] at hg
  rw[hg,←c1]
  congr 2;omega
 ·rw[hr] at hg
  simp only[edC,List.getElem?_cons_zero,List.getElem?_cons_succ] at hg
  rw[hg,←c2]
  congr 2;omega
theorem push_edge {w:World} {ops:Array Oper} {rest:List Oper} {o:Oper} {a:Act} {Q:Exit→Act→World→Prop} (hgd:o.guard=none) (s x:Operand)
  (ho:o.op= .call {callee:= .builtin .append,args:= #[s,x],argTypes:= #[29,29]})
  (base:Nat) (v:Value) (es:List EdD) (hown:OwE w base v es) (hs:a.eval s=v) (b:Nat) (e:EdD) (hx:a.eval x= .slice (some ⟨b,0,none⟩) 1 1)
  (hc: ∀j u,(edC e)[j]? =some u→w.cell? ⟨b,j,none⟩=some u) (he:E64 e) (hl:es.length≤1073741824) (hbase:base≤w.heap.size)
  (h: ∀v' w',OwE w' base v' (es++ [e])→w.grownBy w' v.ownBlock→(v'.ownBlock=v.ownBlock∨v'.ownBlock=some w.heap.size)→wpList Tryz.prog ops Q rest (a.put o.dst v') w'):
  wpList Tryz.prog ops Q (o::rest) a w:=by
 obtain⟨i0,hi0,hz0,hz1,hz2⟩:=info_parts edge_info
 refine wpList_append_own_at _ hgd s x 29 ho base 54 i0 _ 3 24 Tryz.underlying29 hi0 hz0 hz1 hz2 rfl (by decide) v es.length (edCs es) hs hown.1 ⟨b,0,none⟩ 1 1 (edC e) hx rfl ?_ ?_ (by unfold maxLen;omega) (by omega) hbase ?_
 ·intro j u hj
  rw[Addr.add_lit,Nat.zero_add]
  exact hc j u hj
 ·intro u hu
  simp[edC] at hu
  rcases hu with rfl | rfl | rfl<;>rfl
 ·intro v' w' h1 h2 h3 h5
  refine h v' w' ⟨?_,E64s_append hown.2 (E64s_one he)⟩ h2 h5
  have e1:edCs (es++ [e])=edCs es++edC e:=by rw[edCs_append];simp[edCs]
  rw[e1,List.length_append]
  exact h1
theorem wp_append_edges {w:World} {o:Oper} {a:Act} {K:Act→World→Prop} {Q:Exit→Act→World→Prop} (s x:Operand)
  (ho:o.op= .call {callee:= .builtin .append,args:= #[s,x],argTypes:= #[29,29]})
  (base:Nat) (v:Value) (xs:List EdD) (hown:OwE w base v xs) (hs:a.eval s=v) (u:Value) (ys:List EdD) (hr:ArgE w u ys) (hx:a.eval x=u)
  (hl:xs.length+ys.length≤1073741824) (hbase:base≤w.heap.size)
  (h: ∀v' w',OwE w' base v' (xs++ys)→w.grownBy w' v.ownBlock→(v'.ownBlock=v.ownBlock∨v'.ownBlock=some w.heap.size)→K (a.put o.dst v') w'):
  o.wp Tryz.prog a w K Q:=by
 obtain⟨i0,hi0,hz0,hz1,hz2⟩:=info_parts edge_info
 have hr0:=hr
 obtain⟨A,cap,rfl,hc,hm,hn,hE,hb⟩:=hr
 rcases A with _ | ad
 ·have h0:ys= []:=List.eq_nil_of_length_eq_zero (by
   rcases Nat.eq_zero_or_pos ys.length with h0 | h0
   ·exact h0
   ·obtain⟨_,_,h,_⟩:=hb h0;cases h)
  subst h0
  obtain rfl:=hn rfl
  have hrun:=run_append_owned_none (P:=Tryz.prog) w base 29 o.type 54 i0 3 Tryz.underlying29 hi0 v xs.length (edCs xs) hown.1
  unfold Oper.wp execOp
  simp only[ho,resolve,invoke,builtin,Sem.run_bind,Sem.run_pure,Result.andThen_ok,List.map_toArray,List.map_cons,List.map_nil,hs,hx,List.length_nil,hrun]
  exact h v w (by simpa using hown) (World.grownBy.refl _ _) (.inl rfl)
 ·obtain⟨v',w',hrun,h1,h2,_,h5⟩:=run_append_own_at (P:=Tryz.prog) w base 29 o.type 54 i0 _ 3 24 Tryz.underlying29 hi0 hz0 hz1 hz2 rfl (by decide) v xs.length (edCs xs) hown.1 ad ys.length cap (edCs ys) (by rw[edCs_length])
   hr0.cells (fun u hu=>edCs_one hu) (by unfold maxLen;omega) (by omega) hbase
  unfold Oper.wp execOp
  simp only[ho,resolve,invoke,builtin,Sem.run_bind,Sem.run_pure,Result.andThen_ok,List.map_toArray,List.map_cons,List.map_nil,hs,hx,hrun]
  exact h v' w' ⟨by rw[edCs_append,List.length_append];exact h1,E64s_append hown.2 hE⟩ h2 h5
theorem append_edges {w:World} {ops:Array Oper} {rest:List Oper} {o:Oper} {a:Act} {Q:Exit→Act→World→Prop} (hgd:o.guard=none) (s x:Operand)
  (ho:o.op= .call {callee:= .builtin .append,args:= #[s,x],argTypes:= #[29,29]})
  (base:Nat) (v:Value) (xs:List EdD) (hown:OwE w base v xs) (hs:a.eval s=v) (u:Value) (ys:List EdD) (hr:ArgE w u ys) (hx:a.eval x=u)
  (hl:xs.length+ys.length≤1073741824) (hbase:base≤w.heap.size)
  (h: ∀v' w',OwE w' base v' (xs++ys)→w.grownBy w' v.ownBlock→(v'.ownBlock=v.ownBlock∨v'.ownBlock=some w.heap.size)→wpList Tryz.prog ops Q rest (a.put o.dst v') w'):
  wpList Tryz.prog ops Q (o::rest) a w:=
 wpList_plain hgd fun _ hK=>wp_append_edges s x ho base v xs hown hs u ys hr hx hl hbase fun v' w' h1 h2 h3=>hK _ _ (h v' w' h1 h2 h3)
theorem step_append_edges {w:World} {ops:Array Oper} {o:Oper} {a:Act} {K:Act→World→Prop} {Q:Exit→Act→World→Prop} {E:Prop} (hgd:o.guard=none) (s x:Operand)
  (ho:o.op= .call {callee:= .builtin .append,args:= #[s,x],argTypes:= #[29,29]})
  (base:Nat) (v:Value) (xs:List EdD) (hown:OwE w base v xs) (hs:a.eval s=v) (u:Value) (ys:List EdD) (hr:ArgE w u ys) (hx:a.eval x=u)
  (hl:xs.length+ys.length≤1073741824) (hbase:base≤w.heap.size)
  (h: ∀v' w',OwE w' base v' (xs++ys)→w.grownBy w' v.ownBlock→(v'.ownBlock=v.ownBlock∨v'.ownBlock=some w.heap.size)→K (a.put o.dst v') w'):
  if Region.wanted o (yielded ops a.tmps)=true then Oper.wp Tryz.prog o a w K Q else E:=by
 have hw:Region.wanted o (yielded ops a.tmps)=true:=by simp[Region.wanted,hgd]
 rw[if_pos hw]
 exact wp_append_edges s x ho base v xs hown hs u ys hr hx hl hbase h
theorem OwE_litN (w:World) (N:Nat) (hN:w.heap.size=N) {base:Nat} (hb:base≤N):OwE (w.alloc (.cells #[] 54)) base (.slice (some ⟨N,0,none⟩) 0 0) []:=by
 subst hN;exact OwE_lit w hb
set_option maxHeartbeats 1000000 in
theorem l4Copy_any (v:Value) (g:GrD) (w:World) (h:ArgG w v g) (hl:g.2.2.length≤1073741824):
  Calls Tryz.prog 114 #[v] w fun e w'=> ∃r,e= .returned r∧OwG w' w.heap.size r g∧Below w.heap.size w w':=by
 obtain⟨s,rfl,h1,h2,ha⟩:=h
 have H:=hD ha
 obtain⟨A,cap,rfl⟩:=ha.form
 clear ha
 go_enter Tryz.func114,Tryz.ntmps114
 go_wp2_with fail
 go_region_held3 (fun w'=>w'.cell? ⟨w.heap.size,0,none⟩=some (.int .i64 g.1)∧w'.cell? ⟨w.heap.size,1,none⟩=some (.int .i64 g.2.1)∧w'.cell? ⟨w.heap.size,2,none⟩=some (.slice A g.2.2.length cap)) (first | go_keep | (refine⟨?_,?_,?_⟩<;>(rw[hc _ _ (by omega)];simp[go_sem])))
  (first | (refine step_append_edges rfl (.tmp 7) (.tmp 9) rfl (w.heap.size+1+1) _ [] (OwE_litN _ (w.heap.size+1+1) (by simp[World.drew,World.drewN]) (Nat.le_refl _)) (by rfl) _ g.2.2 ?_ (by rfl) (by simp;omega) (by simp) ?_;(exact(by repeat(first | exact(Hid.out H) | (refine ArgE.drew ?_) | (refine ArgE.drewN ?_ _) | (refine ArgE.alloc ?_ _))));intro v1 w1 o1 g1 p1;have O1:=hD o1;have hb1:=(Below.refl (w.heap.size+1+1) _).grown g1 (by simp) (fun k hk=>by simp[Value.ownBlock] at hk;omega);have B1:=hD hb1;obtain⟨A1,cap1,rfl,_⟩:=OwE.form o1;obtain⟨hc,hf⟩:=bcellN hb1;have hz:w.heap.size+1+1<w1.heap.size:=(by have:=g1.size;simp at this;omega);clear o1 hb1 g1 p1))
 go_wp2
 refine bodyPost_ret (v:= .agg #[.int .i64 g.1, .int .i64 g.2.1, .slice A1 g.2.2.length cap1]) (by simp[results,Tryz.results114,go_sem,hc,hz]) rfl ⟨_,rfl,⟨_,rfl,h1,h2,?_⟩,?_⟩
 ·refine OwE.mono (base:=w.heap.size+1+1) ?_ (by omega)
  have O2:Hid (OwE w1 (w.heap.size+1+1) (.slice A1 g.2.2.length cap1) g.2.2):=hD (by simpa using O1.out)
  exact(by repeat(first | exact(Hid.out O2) | exact(Hid.out O2).drewN _ | (refine OwE.far ?_ (by first | omega | (simp<;>omega)) _) | (refine OwE.alloc ?_ _) | (refine OwE.drew ?_) | (refine OwE.drewN ?_ _)))
 ·exact(by repeat(first | exact Below.refl _ _ | (refine Below.setCell ?_ (by first | omega | (simp<;>omega)) _) | (refine bel_drewN ?_ _) | (refine Below.drew ?_) | (refine Below.alloc ?_ (by first | omega | (simp<;>omega)) _) | (refine Below.trans ?_ (Below.mono (Hid.out B1) (by first | omega | (simp<;>omega))))))
set_option maxHeartbeats 1000000 in
theorem copyGraph_any (v:Value) (g:GrD) (w:World) (h:ArgG w v g) (hl:g.2.2.length≤1073741824):
  Calls Tryz.prog 99 #[v] w fun e w'=> ∃r,e= .returned r∧OwG w' w.heap.size r g∧Below w.heap.size w w':=by
 obtain⟨s,rfl,h1,h2,ha⟩:=h
 have H:=hD ha
 obtain⟨A,cap,rfl⟩:=ha.form
 clear ha
 go_enter Tryz.func99,Tryz.ntmps99
 go_wp2_with fail
 go_region_held3 (fun w'=>w'.cell? ⟨w.heap.size,0,none⟩=some (.int .i64 g.1)∧w'.cell? ⟨w.heap.size,1,none⟩=some (.int .i64 g.2.1)∧w'.cell? ⟨w.heap.size,2,none⟩=some (.slice A g.2.2.length cap)) (first | go_keep | (refine⟨?_,?_,?_⟩<;>(rw[hc _ _ (by omega)];simp[go_sem])))
  (first | (refine step_append_edges rfl (.tmp 7) (.tmp 9) rfl (w.heap.size+1+1) _ [] (OwE_litN _ (w.heap.size+1+1) (by simp[World.drew,World.drewN]) (Nat.le_refl _)) (by rfl) _ g.2.2 ?_ (by rfl) (by simp;omega) (by simp) ?_;(exact(by repeat(first | exact(Hid.out H) | (refine ArgE.drew ?_) | (refine ArgE.drewN ?_ _) | (refine ArgE.alloc ?_ _))));intro v1 w1 o1 g1 p1;have O1:=hD o1;have hb1:=(Below.refl (w.heap.size+1+1) _).grown g1 (by simp) (fun k hk=>by simp[Value.ownBlock] at hk;omega);have B1:=hD hb1;obtain⟨A1,cap1,rfl,_⟩:=OwE.form o1;obtain⟨hc,hf⟩:=bcellN hb1;have hz:w.heap.size+1+1<w1.heap.size:=(by have:=g1.size;simp at this;omega);clear o1 hb1 g1 p1))
 go_wp2
 refine bodyPost_ret (v:= .agg #[.int .i64 g.1, .int .i64 g.2.1, .slice A1 g.2.2.length cap1]) (by simp[results,Tryz.results99,go_sem,hc,hz]) rfl ⟨_,rfl,⟨_,rfl,h1,h2,?_⟩,?_⟩
 ·refine OwE.mono (base:=w.heap.size+1+1) ?_ (by omega)
  have O2:Hid (OwE w1 (w.heap.size+1+1) (.slice A1 g.2.2.length cap1) g.2.2):=hD (by simpa using O1.out)
  exact(by repeat(first | exact(Hid.out O2) | exact(Hid.out O2).drewN _ | (refine OwE.far ?_ (by first | omega | (simp<;>omega)) _) | (refine OwE.alloc ?_ _) | (refine OwE.drew ?_) | (refine OwE.drewN ?_ _)))
 ·exact(by repeat(first | exact Below.refl _ _ | (refine Below.setCell ?_ (by first | omega | (simp<;>omega)) _) | (refine bel_drewN ?_ _) | (refine Below.drew ?_) | (refine Below.alloc ?_ (by first | omega | (simp<;>omega)) _) | (refine Below.trans ?_ (Below.mono (Hid.out B1) (by first | omega | (simp<;>omega))))))
def degE (v:Int) (e:EdD):Nat:=(if e.1=v then 1 else 0)+(if e.2.2=v then 1 else 0)
def degL (es:List EdD) (v:Int):Nat:=(es.map (degE v)).sum
theorem degL_succ (es:List EdD) (v:Int) (k:Nat) (h:k<es.length):degL (es.take (k+1)) v=degL (es.take k) v+degE v es[k]:=by
 unfold degL
 rw[List.take_succ_eq_append_getElem h,List.map_append,List.sum_append]
 simp
theorem degL_le (es:List EdD) (v:Int) (k:Nat):degL (es.take k) v≤2*k:=by
 have key: ∀l:List EdD,degL l v≤2*l.length:=by
  intro l
  unfold degL
  induction l with
  | nil=>simp
  | cons e l ih=>
    simp only[List.map_cons,List.sum_cons,List.length_cons]
    have:degE v e≤2:=by unfold degE;split<;>split<;>omega
    omega
 have:=key (es.take k)
 rw[List.length_take] at this
 omega
set_option maxHeartbeats 1000000 in
theorem specDegreeOf_any (v:Value) (g:GrD) (u:Int) (w:World) (h:ArgG w v g) (hl:g.2.2.length≤1073741824):
  Calls Tryz.prog 121 #[v, .int .i64 u] w fun e w'=>e= .returned (.int .i64 (degL g.2.2 u))∧Below w.heap.size w w':=by
 obtain⟨s,rfl,_,_,ha⟩:=h
 have H:=hD ha
 obtain⟨A,cap,rfl,hcap,hm,_⟩:=ha
 unfold maxLen at hm
 go_enter Tryz.func121,Tryz.ntmps121
 go_wp2
 have hb:Below w.heap.size w (w.alloc (Obj.cells #[Value.int IntKind.i64 g.1,Value.int IntKind.i64 g.2.1, .slice A g.2.2.length cap] 31)):=(by repeat(first | exact Below.refl _ _ | (refine Below.setCell ?_ (by first | omega | (simp<;>omega)) _) | (refine bel_drewN ?_ _) | (refine Below.drew ?_) | (refine Below.alloc ?_ (by first | omega | (simp<;>omega)) _)))
 have k2:(w.alloc (Obj.cells #[Value.int IntKind.i64 g.1,Value.int IntKind.i64 g.2.1, .slice A g.2.2.length cap] 31)).cell? ⟨w.heap.size,2,none⟩=some (.slice A g.2.2.length cap):=by simp[go_sem]
 generalize w.alloc (Obj.cells #[Value.int IntKind.i64 g.1,Value.int IntKind.i64 g.2.1, .slice A g.2.2.length cap] 31)=w1 at hb k2⊢
 have HB:=hD hb
 clear hb
 go_loop [5,6] (fun n i=> ∃k:Nat,k≤g.2.2.length∧i= .int .i64 k∧n= .int .i64 (degL (g.2.2.take k) u)) (fun _ i=>g.2.2.length-(intOf i).toNat)
 case atStart=>exact⟨0,Nat.zero_le _,rfl,rfl⟩
 case round=>
  obtain⟨k,hk,rfl,rfl⟩:=hrel
  by_cases hlt:k<g.2.2.length
  ·obtain⟨b,off,rfl,hbl,c0,c1,c2,_⟩:=(H.out.below HB.out).at hlt
   have HS:=hD (degL_succ g.2.2 u k hlt)
   have hle:=degL_le g.2.2 u k
   generalize g.2.2[k]=e at*
   generalize degL (g.2.2.take k) u=d at*
   rcases e1:(e.1==u) with _ | _
   ·rcases e2:(e.2.2==u) with _ | _
    ·have F:Hid (degL (g.2.2.take (k+1)) u=d):=hD (by rw[HS.out];simp at e1 e2;simp[degE,e1,e2])
     go_wp2
     go_round
     case rel=>exact⟨k+1,by omega,by go_num,by rw[F.out]⟩
     case measure=>simp[intOf];omega
    ·have F:Hid (degL (g.2.2.take (k+1)) u=d+1):=hD (by rw[HS.out];simp at e1 e2;simp[degE,e1,e2])
     go_wp2
     go_round
     case rel=>exact⟨k+1,by omega,by go_num,by rw[F.out];go_num⟩
     case measure=>simp[intOf];omega
   ·rcases e2:(e.2.2==u) with _ | _
    ·have F:Hid (degL (g.2.2.take (k+1)) u=d+1):=hD (by rw[HS.out];simp at e1 e2;simp[degE,e1,e2])
     go_wp2
     go_round
     case rel=>exact⟨k+1,by omega,by go_num,by rw[F.out];go_num⟩
     case measure=>simp[intOf];omega
    ·have F:Hid (degL (g.2.2.take (k+1)) u=d+2):=hD (by rw[HS.out];simp at e1 e2;simp[degE,e1,e2])
     go_wp2
     go_round
     case rel=>exact⟨k+1,by omega,by go_num,by rw[F.out];go_num⟩
     case measure=>simp[intOf];omega
  ·obtain rfl:k=g.2.2.length:=by omega
   rw[List.take_length]
   go_wp2
   go_ret
   exact⟨rfl,HB.out⟩
set_option maxHeartbeats 1000000 in
theorem implDegreeOf_any (v:Value) (g:GrD) (u:Int) (w:World) (h:ArgG w v g) (hl:g.2.2.length≤1073741824):
  Calls Tryz.prog 101 #[v, .int .i64 u] w fun e w'=>e= .returned (.int .i64 (degL g.2.2 u))∧Below w.heap.size w w':=by
 obtain⟨s,rfl,_,_,ha⟩:=h
 have H:=hD ha
 obtain⟨A,cap,rfl,hcap,hm,_⟩:=ha
 unfold maxLen at hm
 go_enter Tryz.func101,Tryz.ntmps101
 go_wp2
 have hb:Below w.heap.size w (w.alloc (Obj.cells #[Value.int IntKind.i64 g.1,Value.int IntKind.i64 g.2.1, .slice A g.2.2.length cap] 31)):=(by repeat(first | exact Below.refl _ _ | (refine Below.setCell ?_ (by first | omega | (simp<;>omega)) _) | (refine bel_drewN ?_ _) | (refine Below.drew ?_) | (refine Below.alloc ?_ (by first | omega | (simp<;>omega)) _)))
 generalize w.alloc (Obj.cells #[Value.int IntKind.i64 g.1,Value.int IntKind.i64 g.2.1, .slice A g.2.2.length cap] 31)=w1 at hb⊢
 have HB:=hD hb
 clear hb
 go_loopw [5,11] (fun n i wr=> ∃k:Nat,k≤g.2.2.length∧i= .int .i64 k∧n= .int .i64 (degL (g.2.2.take k) u)∧Below w.heap.size w wr) (fun _ i _=>g.2.2.length-(intOf i).toNat)
 case atStart=>exact⟨0,Nat.zero_le _,rfl,rfl,HB.out⟩
 case round=>
  obtain⟨k,hk,rfl,rfl,hbel⟩:=hrel
  have HB2:=hD hbel
  have hsz:=hbel.size
  clear hbel
  by_cases hlt:k<g.2.2.length
  ·obtain⟨b,off,rfl,hbl,c0,c1,c2,_⟩:=(H.out.below HB2.out).at hlt
   have HS:=hD (degL_succ g.2.2 u k hlt)
   have hle:=degL_le g.2.2 u k
   generalize g.2.2[k]=e at*
   generalize degL (g.2.2.take k) u=d at*
   rcases e1:(e.1==u) with _ | _
   ·rcases e2:(e.2.2==u) with _ | _
    ·have F:Hid (degL (g.2.2.take (k+1)) u=d):=hD (by rw[HS.out];simp at e1 e2;simp[degE,e1,e2])
     go_wp2
     go_roundw
     case rel=>exact⟨k+1,by omega,by go_num,by rw[F.out],HB2.out.alloc hsz _⟩
     case measure=>simp[intOf];omega
    ·have F:Hid (degL (g.2.2.take (k+1)) u=d+1):=hD (by rw[HS.out];simp at e1 e2;simp[degE,e1,e2])
     go_wp2
     go_roundw
     case rel=>exact⟨k+1,by omega,by go_num,by rw[F.out];go_num,HB2.out.alloc hsz _⟩
     case measure=>simp[intOf];omega
   ·rcases e2:(e.2.2==u) with _ | _
    ·have F:Hid (degL (g.2.2.take (k+1)) u=d+1):=hD (by rw[HS.out];simp at e1 e2;simp[degE,e1,e2])
     go_wp2
     go_roundw
     case rel=>exact⟨k+1,by omega,by go_num,by rw[F.out];go_num,HB2.out.alloc hsz _⟩
     case measure=>simp[intOf];omega
    ·have F:Hid (degL (g.2.2.take (k+1)) u=d+2):=hD (by rw[HS.out];simp at e1 e2;simp[degE,e1,e2])
     go_wp2
     go_roundw
     case rel=>exact⟨k+1,by omega,by go_num,by rw[F.out];go_num,HB2.out.alloc hsz _⟩
     case measure=>simp[intOf];omega
  ·obtain rfl:k=g.2.2.length:=by omega
   rw[List.take_length]
   go_wp2
   go_ret
   exact⟨rfl,HB2.out⟩
end Go.Proofs.YtfadnkjlilhneaaGreat
namespace Go.Proofs.YtfadnkjlilhneaaGreat
set_option maxRecDepth 20000
set_option linter.unusedVariables false
set_option linter.unusedSimpArgs false
open Go.RowKit
theorem edC_new (w:World) (e:EdD) (t:TypeId) (j:Nat) (u:Value) (h:(edC e)[j]? =some u):(w.alloc (.cells #[.int .i64 e.1, .int .i64 e.2.1, .int .i64 e.2.2] t)).cell? ⟨w.heap.size,j,none⟩=some u:=by
 match j with
 | 0=>simp[edC] at h;subst h;simp[go_sem]
 | 1=>simp[edC] at h;subst h;simp[go_sem]
 | 2=>simp[edC] at h;subst h;simp[go_sem]
 | n+3=>simp[edC] at h
theorem bel_pushE {B base:Nat} {w0 w w1:World} {v:Value} {o:Obj} {es:List EdD} (hb:Below B w0 w) (hB:B≤w.heap.size) (ho:OwE w base v es) (hbB:B≤base) (hg:(w.alloc o).grownBy w1 v.ownBlock):Below B w0 w1:=
 bel_push hb hB ho.1 hbB hg
def insE (e:EdD) (es:List EdD) (k:Nat):List EdD×Bool:=(es.take k).foldl (insS cmpE e) ([],false)
theorem insE_succ (y:EdD) (xs:List EdD) (k:Nat) (h:k<xs.length):insE y xs (k+1)=insS cmpE y (insE y xs k) xs[k]:=by
 unfold insE
 rw[List.take_succ_eq_append_getElem h,List.foldl_append]
 rfl
theorem insE_len (y:EdD) (xs:List EdD) (k:Nat) (h:k≤xs.length):(insE y xs k).1.length≤2*k:=by
 induction k with
 | zero=>simp[insE]
 | succ k ih=>
   rw[insE_succ y xs k (by omega)]
   have:=ih (by omega)
   unfold insS
   split
   ·simp;omega
   ·split<;>(simp;omega)
set_option maxHeartbeats 2000000 in
theorem l4Put_any (v:Value) (es:List EdD) (e:EdD) (w:World) (h:ArgE w v es) (he:E64 e) (hl:es.length≤268435456):
  Calls Tryz.prog 59 #[v,edV e] w fun e' w'=> ∃r,e'= .returned r∧OwE w' w.heap.size r (insF cmpE es e)∧Below w.heap.size w w':=by
 have H:=hD h
 obtain⟨A,cap,rfl,hcap,hm,_,hr,_⟩:=h
 have HR:=hD hr
 have HE:=hD he
 unfold maxLen at hm
 clear hr he
 unfold edV
 go_enter Tryz.func59,Tryz.ntmps59
 go_wp2
 have hb:Below w.heap.size w ((w.alloc (Obj.cells #[Value.int IntKind.i64 e.1,Value.int IntKind.i64 e.2.1,Value.int IntKind.i64 e.2.2] 54)).alloc (Obj.cells #[] 54)):=(by repeat(first | exact Below.refl _ _ | (refine Below.setCell ?_ (by first | omega | (simp<;>omega)) _) | (refine bel_drewN ?_ _) | (refine Below.drew ?_) | (refine Below.alloc ?_ (by first | omega | (simp<;>omega)) _)))
 have k0:((w.alloc (Obj.cells #[Value.int IntKind.i64 e.1,Value.int IntKind.i64 e.2.1,Value.int IntKind.i64 e.2.2] 54)).alloc (Obj.cells #[] 54)).cell? ⟨w.heap.size,0,none⟩=some (.int .i64 e.1):=by simp[go_sem]
 have k1:((w.alloc (Obj.cells #[Value.int IntKind.i64 e.1,Value.int IntKind.i64 e.2.1,Value.int IntKind.i64 e.2.2] 54)).alloc (Obj.cells #[] 54)).cell? ⟨w.heap.size,1,none⟩=some (.int .i64 e.2.1):=by simp[go_sem]
 have k2:((w.alloc (Obj.cells #[Value.int IntKind.i64 e.1,Value.int IntKind.i64 e.2.1,Value.int IntKind.i64 e.2.2] 54)).alloc (Obj.cells #[] 54)).cell? ⟨w.heap.size,2,none⟩=some (.int .i64 e.2.2):=by simp[go_sem]
 have hs0:w.heap.size+1<((w.alloc (Obj.cells #[Value.int IntKind.i64 e.1,Value.int IntKind.i64 e.2.1,Value.int IntKind.i64 e.2.2] 54)).alloc (Obj.cells #[] 54)).heap.size:=by simp
 have o0:OwE ((w.alloc (Obj.cells #[Value.int IntKind.i64 e.1,Value.int IntKind.i64 e.2.1,Value.int IntKind.i64 e.2.2] 54)).alloc (Obj.cells #[] 54)) (w.heap.size+1) (.slice (some ⟨w.heap.size+1,0,none⟩) 0 0) []:=OwE_litN (w.alloc (Obj.cells #[Value.int IntKind.i64 e.1,Value.int IntKind.i64 e.2.1,Value.int IntKind.i64 e.2.2] 54)) (w.heap.size+1) (by simp) (Nat.le_refl _)
 generalize (w.alloc (Obj.cells #[Value.int IntKind.i64 e.1,Value.int IntKind.i64 e.2.1,Value.int IntKind.i64 e.2.2] 54)).alloc (Obj.cells #[] 54)=w1 at hb k0 k1 k2 hs0 o0⊢
 have HB:=hD hb
 have K0:=hD k0
 have K1:=hD k1
 have K2:=hD k2
 have O0:=hD o0
 clear hb k0 k1 k2 o0
 go_loopw [5,6,7] (fun out p i wr=> ∃k:Nat,k≤es.length∧i= .int .i64 k∧p= .bool (insE e es k).2∧OwE wr (w.heap.size+1) out (insE e es k).1∧Below (w.heap.size+1) w1 wr)
  (fun _ _ i _=>es.length-(intOf i).toNat)
 case atStart=>exact⟨0,Nat.zero_le _,rfl,rfl,O0.out,Below.refl _ _⟩
 case round=>
  obtain⟨k,hk,rfl,rfl,hown,hbel⟩:=hrel
  have hsz:=hbel.size
  have hal:=insE_len e es k hk
  have HB3:=hD (HB.out.trans (hbel.mono (by omega)))
  have HB2:=hD hbel
  have p0:=(hbel.cell (p:=⟨w.heap.size,0,none⟩) (show w.heap.size<w.heap.size+1 by omega)).trans K0.out
  have p1:=(hbel.cell (p:=⟨w.heap.size,1,none⟩) (show w.heap.size<w.heap.size+1 by omega)).trans K1.out
  have p2:=(hbel.cell (p:=⟨w.heap.size,2,none⟩) (show w.heap.size<w.heap.size+1 by omega)).trans K2.out
  clear hbel
  by_cases hlt:k<es.length
  ·obtain⟨b,off,rfl,hbw,c0,c1,c2,_⟩:=H.out.at hlt
   have hbl:b<wr.heap.size:=by omega
   have hwr:w.heap.size<wr.heap.size:=by omega
   have HC0:=hD c0
   have HC1:=hD c1
   have HC2:=hD c2
   replace c0:=(HB3.out.cell (p:=⟨b,off+k*3,none⟩) hbw).trans c0
   replace c1:=(HB3.out.cell (p:=⟨b,off+k*3+1,none⟩) hbw).trans c1
   replace c2:=(HB3.out.cell (p:=⟨b,off+k*3+2,none⟩) hbw).trans c2
   have HS:=hD (insE_succ e es k hlt)
   have HX:=hD (HR.out es[k] (by simp))
   generalize hs:insE e es k=s at hown HS hal⊢
   obtain⟨o,p⟩:=s
   generalize es[k]=z at c0 c1 c2 HC0 HC1 HC2 HS HX
   clear hs
   simp only at hal
   obtain⟨A1,cap1,rfl,hcap1,hm1,_,_⟩:=hown.form
   have HO0:=hD hown
   clear hown
   go_wp2_with fail
   have f0:=BelW.cell p0 hwr
   have f1:=BelW.cell p1 hwr
   have f2:=BelW.cell p2 hwr
   have f3:=BelW.cell c0 hbl
   have f4:=BelW.cell c1 hbl
   have f5:=BelW.cell c2 hbl
   (refine wp_region_quiet_bel (by kernel_rfl) (by kernel_rfl) ?_;(repeat(go_big_quiet_step (first | (go_at_call 97;exact Calls.bel_of (specCompareEdges_any e z _)))));refine wpQuiet_nil ?_;intro wq hw';obtain⟨pq,hw''⟩:=hw';have bq:=pq.h;rw[←hw''] at bq;clear hw'' pq)
   replace p0:=f0 ⟨wq,bq⟩
   replace p1:=f1 ⟨wq,bq⟩
   replace p2:=f2 ⟨wq,bq⟩
   replace c0:=f3 ⟨wq,bq⟩
   replace c1:=f4 ⟨wq,bq⟩
   replace c2:=f5 ⟨wq,bq⟩
   simp only at p0 p1 p2 c0 c1 c2
   clear f0 f1 f2 f3 f4 f5
   have hsq:=bq.size
   have hbq:b<wq.heap.size:=by omega
   have hwq:w.heap.size<wq.heap.size:=by omega
   have HO:=hD (HO0.out.below bq)
   have HQ2:=hD (HB2.out.trans (bq.mono (by omega)))
   have HQ3:=hD (HB3.out.trans (bq.mono (by omega)))
   clear bq
   have HS2:Hid (insE e es (k+1)=(if cmpE e z=0 then(o++ [z],true) else if cmpE e z<0∧p=false then(o++ [e,z],true) else(o++ [z],p))):=hD HS.out
   have HCC:Hid (cmpE e z=0∨cmpE e z<0∨0<cmpE e z):=hD (by omega)
   clear HS
   generalize cmpE e z=c at*
   rcases HCC.out with hc | hc | hc
   ·subst hc
    have F:Hid (insE e es (k+1)=(o++ [z],true)):=hD (by rw[HS2.out];rfl)
    clear HS2
    go_wp2_with (at_builtin;refine push_edge rfl (.tmp 34) (.tmp 39) rfl _ _ _ (HO.out.alloc _) rfl _ z rfl (edC_new _ _ _) HX.out (by first | omega | (simp;omega)) (by first | omega | (simp;omega)) ?_;intro v2 wv2 o2 g2 p2)
    go_roundw
    case rel=>exact⟨k+1,by omega,by go_num,by rw[F.out],by rw[F.out];exact o2,bel_pushE HQ2.out (by omega) HO.out (Nat.le_refl _) g2⟩
    case measure=>simp[intOf];omega
   ·have hc0:(c==0)=false:=by simp;omega
    cases p
    ·have F:Hid (insE e es (k+1)=(o++ [e,z],true)):=hD (by rw[HS2.out];rw[if_neg (by omega),if_pos ⟨hc,rfl⟩])
     clear HS2
     go_wp2_with (first | (at_builtin;refine push_edge rfl (.tmp 30) (.tmp 32) rfl _ _ _ (HO.out.alloc _) rfl _ e rfl (edC_new _ _ _) HE.out (by first | omega | (simp;omega)) (by first | omega | (simp;omega)) ?_;intro v1 wv1 o1 g1 p1;have hz1:=g1.size;simp at hz1;have hb1:=bel_pushE HQ3.out (show w.heap.size≤wq.heap.size by omega) HO.out (show w.heap.size≤w.heap.size+1 by omega) g1;replace c0:=(hb1.cell (p:=⟨b,off+k*3,none⟩) hbw).trans HC0.out;replace c1:=(hb1.cell (p:=⟨b,off+k*3+1,none⟩) hbw).trans HC1.out;replace c2:=(hb1.cell (p:=⟨b,off+k*3+2,none⟩) hbw).trans HC2.out;have hb1v:b<wv1.heap.size:=(by omega);clear hb1) | (at_builtin;refine push_edge rfl (.tmp 34) (.tmp 39) rfl _ _ _ (o1.alloc _) rfl _ z rfl (edC_new _ _ _) HX.out (by first | omega | (simp;omega)) (by first | omega | (simp;omega)) ?_;intro v2 wv2 o2 g2 p2))
     go_roundw
     case rel=>
      have hb1:=bel_pushE HQ2.out (show w.heap.size+1≤wq.heap.size by omega) HO.out (Nat.le_refl _) g1
      exact⟨k+1,by omega,by go_num,by rw[F.out],by rw[F.out];simpa using o2,bel_pushE hb1 (by omega) o1 (Nat.le_refl _) g2⟩
     case measure=>simp[intOf];omega
    ·have F:Hid (insE e es (k+1)=(o++ [z],true)):=hD (by rw[HS2.out];rw[if_neg (by omega),if_neg (by simp)])
     clear HS2
     go_wp2_with (at_builtin;refine push_edge rfl (.tmp 34) (.tmp 39) rfl _ _ _ (HO.out.alloc _) rfl _ z rfl (edC_new _ _ _) HX.out (by first | omega | (simp;omega)) (by first | omega | (simp;omega)) ?_;intro v2 wv2 o2 g2 p2)
     go_roundw
     case rel=>exact⟨k+1,by omega,by go_num,by rw[F.out],by rw[F.out];exact o2,bel_pushE HQ2.out (by omega) HO.out (Nat.le_refl _) g2⟩
     case measure=>simp[intOf];omega
   ·have hc0:(c==0)=false:=by simp;omega
    have hc1: ¬c<0:=by omega
    have F:Hid (insE e es (k+1)=(o++ [z],p)):=hD (by rw[HS2.out];rw[if_neg (by omega),if_neg (fun h=>hc1 h.1)])
    clear HS2
    go_wp2_with (at_builtin;refine push_edge rfl (.tmp 34) (.tmp 39) rfl _ _ _ (HO.out.alloc _) rfl _ z rfl (edC_new _ _ _) HX.out (by first | omega | (simp;omega)) (by first | omega | (simp;omega)) ?_;intro v2 wv2 o2 g2 p2)
    go_roundw
    case rel=>exact⟨k+1,by omega,by go_num,by rw[F.out],by rw[F.out];exact o2,bel_pushE HQ2.out (by omega) HO.out (Nat.le_refl _) g2⟩
    case measure=>simp[intOf];omega
  ·obtain rfl:k=es.length:=by omega
   have HF:Hid (insF cmpE es e=if(insE e es es.length).2 then(insE e es es.length).1 else(insE e es es.length).1++ [e]):=hD (by unfold insF insE;rw[List.take_length])
   have hwr:w.heap.size<wr.heap.size:=by omega
   generalize insE e es es.length=s at hown HF hal⊢
   obtain⟨o,p⟩:=s
   have HO:=hD hown
   obtain⟨A1,cap1,rfl,hcap1,hm1,_,_⟩:=hown.form
   clear hown
   simp only at hal
   cases p
   ·go_wp2_with (at_builtin;refine push_edge rfl (.tmp 43) (.tmp 45) rfl _ _ _ (HO.out.alloc _) rfl _ e rfl (edC_new _ _ _) HE.out (by first | omega | (simp;omega)) (by first | omega | (simp;omega)) ?_;intro v2 wv2 o2 g2 p2)
    go_ret
    exact⟨_,rfl,by rw[HF.out];exact o2.mono (by omega),bel_pushE HB3.out (by omega) HO.out (by omega) g2⟩
   ·go_wp2
    go_ret
    exact⟨_,rfl,by rw[HF.out];exact HO.out.mono (by omega),HB3.out⟩
end Go.Proofs.YtfadnkjlilhneaaGreat
namespace Go.Proofs.YtfadnkjlilhneaaGreat
set_option maxRecDepth 20000
set_option linter.unusedVariables false
set_option linter.unusedSimpArgs false
open Go.RowKit
def leafB (es:List EdD) (v:Nat):Bool:=decide (degL es v<2)|| !hasB (reachL es 0) v
def leafFrom (es:List EdD) (n:Nat):Nat→Nat→Int
 | 0,_=> -1
 | f+1,v=>if v<n then(if leafB es v then(v:Int) else leafFrom es n f (v+1)) else-1
def leafV (es:List EdD) (n:Nat):Int:=leafFrom es n (n-1) 1
theorem leafFrom_end (es:List EdD) (n f:Nat):leafFrom es n f n= -1:=by
 cases f with
 | zero=>rfl
 | succ f=>unfold leafFrom;rw[if_neg (Nat.lt_irrefl n)]
theorem leafFrom_hit {es:List EdD} {n v:Nat} (hv:v<n) (h:leafB es v=true):leafFrom es n (n-v) v=v:=by
 obtain⟨f,hf⟩: ∃f,n-v=f+1:=⟨n-v-1,by omega⟩
 rw[hf]
 unfold leafFrom
 rw[if_pos hv,if_pos h]
theorem leafFrom_miss {es:List EdD} {n v:Nat} (hv:v<n) (h:leafB es v=false):leafFrom es n (n-v) v=leafFrom es n (n-(v+1)) (v+1):=by
 obtain⟨f,hf⟩: ∃f,n-v=f+1:=⟨n-v-1,by omega⟩
 rw[hf]
 rw[leafFrom,if_pos hv,if_neg (by simp[h]),show n-(v+1)=f by omega]
set_option maxHeartbeats 2000000 in
theorem l8Leaf_any (v:Value) (g:GrD) (w:World) (h:ArgG w v g) (hg:grB g=true):
  Calls Tryz.prog 91 #[v] w fun e w'=>e= .returned (.int .i64 (leafV g.2.2 g.2.1.toNat))∧Below w.heap.size w w':=by
 have HG:=hD h
 have HGR:=hD hg
 obtain⟨_,hsz40,hl120,_⟩:=grB_parts hg
 have hu:inB 0 0 (wrap64 (g.2.1-1))=true:=by
  rw[IntWalk.wrap64_in _ ⟨by omega,by omega⟩]
  exact inB_iff.2 ⟨Int.le_refl _,by omega⟩
 have HU:=hD hu
 obtain⟨N,hN⟩: ∃N:Nat,g.2.1=(N:Int):=⟨g.2.1.toNat,by omega⟩
 clear hu hg
 obtain⟨s,rfl,_,_,ha⟩:=h
 obtain⟨A,cap,rfl⟩:=ha.form
 obtain⟨r,n,es⟩:=g
 simp only at hN hsz40 hl120
 subst hN
 simp only[Int.toNat_natCast]
 have hN1:1≤N:=by omega
 have hN2:N≤40:=by omega
 obtain⟨R,hR⟩: ∃R,R=leafV es N:=⟨_,rfl⟩
 rw[←hR]
 have HR:=hD hR
 clear hR ha hsz40
 have bx:Below w.heap.size w (w.alloc (Obj.cells #[Value.int IntKind.i64 r,Value.int IntKind.i64 N, .slice A es.length cap] 31)):=(by repeat(first | exact Below.refl _ _ | (refine Below.setCell ?_ (by first | omega | (simp<;>omega)) _) | (refine bel_drewN ?_ _) | (refine Below.drew ?_) | (refine Below.alloc ?_ (by first | omega | (simp<;>omega)) _)))
 have k0:(w.alloc (Obj.cells #[Value.int IntKind.i64 r,Value.int IntKind.i64 N, .slice A es.length cap] 31)).cell? ⟨w.heap.size,0,none⟩=some (.int .i64 r):=by simp[go_sem]
 have k1:(w.alloc (Obj.cells #[Value.int IntKind.i64 r,Value.int IntKind.i64 N, .slice A es.length cap] 31)).cell? ⟨w.heap.size,1,none⟩=some (.int .i64 N):=by simp[go_sem]
 have k2:(w.alloc (Obj.cells #[Value.int IntKind.i64 r,Value.int IntKind.i64 N, .slice A es.length cap] 31)).cell? ⟨w.heap.size,2,none⟩=some (.slice A es.length cap):=by simp[go_sem]
 have sx:w.heap.size<(w.alloc (Obj.cells #[Value.int IntKind.i64 r,Value.int IntKind.i64 N, .slice A es.length cap] 31)).heap.size:=by simp
 have BX:=hD bx
 have K0:=hD k0
 have K1:=hD k1
 have K2:=hD k2
 clear k0 k1 k2 bx
 go_enter Tryz.func91,Tryz.ntmps91
 go_wp2_with fail
 refine(reachedFrom_any _ (r,(N:Int),es) 0 _ (HG.out.below BX.out) HGR.out HU.out ⟨by decide,by decide⟩).mono ?_
 rintro e w1 ⟨rs,rfl,o1,b1⟩
 have HB:=hD (BX.out.trans (b1.mono BX.out.size))
 have s1:=b1.size
 have hs0:w.heap.size<w1.heap.size:=by omega
 have q0:=(b1.cell (p:=⟨w.heap.size,0,none⟩) sx).trans K0.out
 have q1:=(b1.cell (p:=⟨w.heap.size,1,none⟩) sx).trans K1.out
 have q2:=(b1.cell (p:=⟨w.heap.size,2,none⟩) sx).trans K2.out
 have Q0:=hD q0
 have Q1:=hD q1
 have Q2:=hD q2
 have O1:=hD o1
 obtain⟨A1,cap1,rfl,_⟩:=o1.form
 have hrl:(reachL es 0).length≤100000:=by
  have:=iterR_len es 0 (es.length+1) hl120
  unfold reachL
  omega
 have HLB:Hid (∀v:Nat,leafB es v=(decide (degL es v<2)|| !hasB (reachL es 0) v)):=hD fun v=>rfl
 clear q0 q1 q2 b1 o1 K0 K1 K2 s1 sx
 simp only at O1 hrl
 generalize reachL es 0=L at*
 go_wp2
 go_loopw [4] (fun i wr=> ∃k:Nat,1≤k∧k≤N∧i= .int .i64 k∧R=leafFrom es N (N-k) k∧Below w1.heap.size w1 wr) (fun i _=>N-(intOf i).toNat)
 case atStart=>exact⟨1,Nat.le_refl _,hN1,rfl,HR.out,Below.refl _ _⟩
 case round=>
  obtain⟨k,hk1,hk,rfl,hrem,hbel⟩:=hrel
  have HREM:=hD hrem
  have HB2:=hD hbel
  have HB3:=hD (HB.out.trans (hbel.mono HB.out.size))
  have hsz:=hbel.size
  have p0:=(hbel.cell (p:=⟨w.heap.size,0,none⟩) hs0).trans Q0.out
  have p1:=(hbel.cell (p:=⟨w.heap.size,1,none⟩) hs0).trans Q1.out
  have p2:=(hbel.cell (p:=⟨w.heap.size,2,none⟩) hs0).trans Q2.out
  have OL:=hD (O1.out.below hbel)
  clear hrem hbel
  by_cases hlt:k<N
  ·have hlti:(k:Int)<(N:Int):=by omega
   have hdle:degL es k≤240:=by have:=degL_le es k es.length;rw[List.take_length] at this;omega
   have LB:=hD (HLB.out k)
   go_wp2_with fail
   refine(specDegreeOf_any _ (r,(N:Int),es) k _ (HG.out.below HB3.out) (by simp only;omega)).mono ?_
   rintro e w2 ⟨rfl,b2⟩
   have B2:=hD b2
   have s2:=b2.size
   have OL2:=hD (OL.out.below b2)
   clear b2
   simp only
   generalize degL es k=d at*
   by_cases hd:d<2
   ·have hdi:(d:Int)<2:=by omega
    have F:=hD (leafFrom_hit hlt (by rw[LB.out];simp[hd]))
    go_wp2
    go_ret
    exact⟨ret_int (by rw[HREM.out,F.out]),HB3.out.trans (B2.out.mono (by omega))⟩
   ·have hdi: ¬(d:Int)<2:=by omega
    go_wp2_with fail
    refine(l4Has_any _ L k _ OL2.out.rd.arg (by omega)).mono ?_
    rintro e' w' ⟨rfl,rfl⟩
    rcases h1:hasB L k with _ | _
    ·have F:=hD (leafFrom_hit hlt (by rw[LB.out,h1];simp))
     go_wp2
     go_ret
     exact⟨ret_int (by rw[HREM.out,F.out]),HB3.out.trans (B2.out.mono (by omega))⟩
    ·have F:=hD (leafFrom_miss hlt (by rw[LB.out,h1];simp[hd]))
     go_wp2
     go_roundw
     case rel=>exact⟨k+1,by omega,by omega,by go_num,by rw[HREM.out,F.out],HB2.out.trans (B2.out.mono (by omega))⟩
     case measure=>simp[intOf];omega
  ·obtain rfl:k=N:=by omega
   have F:Hid (R= -1):=hD (by rw[HREM.out,leafFrom_end])
   go_wp2
   go_ret
   exact⟨ret_int F.out.symm,HB3.out⟩
theorem cfold_take_ok {g:GrD} (hg:grB g=true) {u:Int} (ls:List Int) (k:Nat) {o:List Int} (h:OrdOk g.2.1 o):OrdOk g.2.1 ((ls.take k).foldl (cstep g.2.2 u) o):=cfold_ok hg _ h
theorem cstep_no {es:List EdD} {u x:Int} {o:List Int} (h: ¬0≤nextV es u x):cstep es u o x=o:=by unfold cstep;rw[if_neg h]
theorem cstep_in {es:List EdD} {u x:Int} {o:List Int} (h:0≤nextV es u x) (h1:hasB o (nextV es u x)=true):cstep es u o x=o:=by unfold cstep;rw[if_pos h,if_pos h1]
theorem cstep_new {es:List EdD} {u x:Int} {o:List Int} (h:0≤nextV es u x) (h1:hasB o (nextV es u x)=false):cstep es u o x=o++ [nextV es u x]:=by unfold cstep;rw[if_pos h,if_neg (by simp[h1])]
set_option maxHeartbeats 1000000 in
theorem specCanonicalOrder_any (v:Value) (g:GrD) (w:World) (h:ArgG w v g) (hf:foldB g=true):
  Calls Tryz.prog 127 #[v] w fun e w'=> ∃r,e= .returned r∧OwI w' w.heap.size r (canO g)∧Below w.heap.size w w':=by
 have HG:=hD h
 obtain⟨hg,hfol⟩:=foldB_parts hf
 have HGR:=hD hg
 have HF:=hD hf
 have ONE:=hD (steps_one hfol)
 obtain⟨hr13,hsz40,hl120,_⟩:=grB_parts hg
 obtain⟨A,cap,hv⟩: ∃A cap,v= .agg #[.int .i64 g.1, .int .i64 g.2.1, .slice A g.2.2.length cap]:=by
  obtain⟨s,hv,_,_,ha⟩:=h
  obtain⟨A,cap,rfl⟩:=ha.form
  exact⟨A,cap,hv⟩
 subst hv
 obtain⟨rn,hrn⟩: ∃rn:Nat,g.1=(rn:Int):=⟨g.1.toNat,by omega⟩
 have hrn1:1≤rn:=by omega
 have hrn3:rn≤3:=by omega
 have HCO:Hid (canO g=canF g.2.2 (lettersL rn) 41 0 [0]):=hD (by unfold canO;rw[hrn];rfl)
 have OK0:=hD (OrdOk.one (n:=g.2.1) (by omega))
 have OKS:Hid (∀(u:Int) (o:List Int) (k:Nat),OrdOk g.2.1 o→OrdOk g.2.1 (((lettersL rn).take k).foldl (cstep g.2.2 u) o)):=hD fun u o k h=>cfold_take_ok hg _ k h
 have OKL:Hid (∀o:List Int,OrdOk g.2.1 o→o.length≤40):=hD fun o h=>h.len (by omega) (by omega)
 have NV:Hid (∀u x,nextV g.2.2 u x= -1∨(0≤nextV g.2.2 u x∧nextV g.2.2 u x<41)):=hD fun u x=>by
  rcases nextV_range hg u x with e | e
  ·exact .inl e
  ·exact .inr ⟨e.1,by omega⟩
 have HRN:=hD hrn
 clear hg hf hfol h hrn
 have hr1:1≤g.1∧g.1≤3:=hr13
 clear hsz40 hl120 hr13
 have bx:Below w.heap.size w (w.alloc (Obj.cells #[Value.int IntKind.i64 g.1,Value.int IntKind.i64 g.2.1, .slice A g.2.2.length cap] 31)):=(by repeat(first | exact Below.refl _ _ | (refine Below.setCell ?_ (by first | omega | (simp<;>omega)) _) | (refine bel_drewN ?_ _) | (refine Below.drew ?_) | (refine Below.alloc ?_ (by first | omega | (simp<;>omega)) _)))
 have k0:(w.alloc (Obj.cells #[Value.int IntKind.i64 g.1,Value.int IntKind.i64 g.2.1, .slice A g.2.2.length cap] 31)).cell? ⟨w.heap.size,0,none⟩=some (.int .i64 g.1):=by simp[go_sem]
 have k1:(w.alloc (Obj.cells #[Value.int IntKind.i64 g.1,Value.int IntKind.i64 g.2.1, .slice A g.2.2.length cap] 31)).cell? ⟨w.heap.size,1,none⟩=some (.int .i64 g.2.1):=by simp[go_sem]
 have k2:(w.alloc (Obj.cells #[Value.int IntKind.i64 g.1,Value.int IntKind.i64 g.2.1, .slice A g.2.2.length cap] 31)).cell? ⟨w.heap.size,2,none⟩=some (.slice A g.2.2.length cap):=by simp[go_sem]
 have sx:w.heap.size<(w.alloc (Obj.cells #[Value.int IntKind.i64 g.1,Value.int IntKind.i64 g.2.1, .slice A g.2.2.length cap] 31)).heap.size:=by simp
 have BX:=hD bx
 have K0:=hD k0
 have K1:=hD k1
 have K2:=hD k2
 clear k0 k1 k2 bx
 go_enter Tryz.func127,Tryz.ntmps127
 go_wp2_with fail
 have hfo:=specIsFolded_any _ g _ (HG.out.below BX.out)
 rw[HF.out] at hfo
 have HFO:=hD hfo
 clear hfo
 refine HFO.out.mono ?_
 rintro e w1 ⟨rfl,b1⟩
 clear HFO
 have HB:=hD (BX.out.trans (b1.mono BX.out.size))
 have s1:=b1.size
 have hs0:w.heap.size<w1.heap.size:=by omega
 have q0:=(b1.cell (p:=⟨w.heap.size,0,none⟩) sx).trans K0.out
 have q1:=(b1.cell (p:=⟨w.heap.size,1,none⟩) sx).trans K1.out
 have q2:=(b1.cell (p:=⟨w.heap.size,2,none⟩) sx).trans K2.out
 clear b1 K0 K1 K2 s1 sx
 go_wp2_with fail
 have hb2:Below w1.heap.size w1 (w1.alloc (Obj.cells #[Value.int IntKind.i64 0] 3)):=(Below.refl _ _).alloc (Nat.le_refl _) _
 have o2:OwI (w1.alloc (Obj.cells #[Value.int IntKind.i64 0] 3)) w1.heap.size (.slice (some ⟨w1.heap.size,0,none⟩) 1 1) [0]:=OwI_lit w1 [0] (fun x hx=>by simp at hx;subst hx;exact⟨by decide,by decide⟩) (by simp) (Nat.le_refl _)
 have s2:w1.heap.size<(w1.alloc (Obj.cells #[Value.int IntKind.i64 0] 3)).heap.size:=by simp
 generalize w1.alloc (Obj.cells #[Value.int IntKind.i64 0] 3)=w2 at hb2 o2 s2⊢
 have hle:=l5Letters_any rn w2 (by omega)
 rw[←HRN.out] at hle
 have HLE:=hD hle
 clear hle
 refine HLE.out.mono ?_
 rintro e w3 ⟨rl,rfl,ol,b3⟩
 have s3:=b3.size
 have hb13:=hb2.trans (b3.mono hb2.size)
 have HB3:=hD (HB.out.trans (hb13.mono HB.out.size))
 have Q0:=hD ((hb13.cell (p:=⟨w.heap.size,0,none⟩) hs0).trans q0)
 have Q1:=hD ((hb13.cell (p:=⟨w.heap.size,1,none⟩) hs0).trans q1)
 have Q2:=hD ((hb13.cell (p:=⟨w.heap.size,2,none⟩) hs0).trans q2)
 have O2:=hD ((o2.below b3).mono (base':=w.heap.size+1) (by omega))
 have hll:=lettersL_len rn
 generalize lettersL rn=ls at*
 obtain⟨Al,capl,rfl,hcl,hml,_,hfl⟩:=ol.form
 obtain⟨bl,rfl,hbl1,hbl2⟩:=hfl (by omega)
 unfold maxLen at hml
 have OL:=hD ol.rd
 have hblw:bl≠w1.heap.size:=by omega
 clear ol b3 hb2 o2 hb13 q0 q1 q2 hfl HLE
 go_wp2
 go_loopw [3,5] (fun out i wo=> ∃(k:Nat) (o:List Int),k≤o.length∧i= .int .i64 k∧OrdOk g.2.1 o∧canO g=canF g.2.2 ls (41-k) k o∧OwI wo (w.heap.size+1) out o∧RdI wo (.slice (some ⟨bl,0,none⟩) ls.length capl) ls∧out.ownBlock≠some bl∧bl<wo.heap.size∧Below (w.heap.size+1) w3 wo) (fun _ i _=>41-(intOf i).toNat)
 case atStart=>exact⟨0,[0],by simp,rfl,OK0.out,HCO.out,O2.out,OL.out,by simp[Value.ownBlock];omega,hbl2,Below.refl _ _⟩
 case round=>
  obtain⟨k,o,hk,rfl,hok,hco,hown,hrd,hne,hblt,hbel⟩:=hrel
  obtain⟨wo,rfl⟩: ∃wo:World,wo=wr:=⟨_,rfl⟩
  have hol:=OKL.out o hok
  have HOK:=hD hok
  have HC:=hD hco
  have HO:=hD hown
  have HRD:=hD hrd
  have HNE:=hD hne
  have HB2:=hD hbel
  have hsz:=hbel.size
  obtain⟨A1,cap1,rfl,_⟩:=hown.form
  clear hok hco hown hrd hne hbel
  by_cases hlt:k<o.length
  ·obtain⟨u,hu⟩: ∃u,o[k]? =some u:=⟨o[k],by simp⟩
   have hku:o[k]=u:=by rw[List.getElem?_eq_getElem hlt] at hu;injection hu
   have HCF:Hid (canO g=canF g.2.2 ls (41-(k+1)) (k+1) (ls.foldl (cstep g.2.2 u) o)):=hD (by
    rw[HC.out,show 41-k=(41-(k+1))+1 by omega,canF_step _ _ _ _ _ hlt,hku])
   have HPU:Hid (∀m:Nat,(((ls.take m).foldl (cstep g.2.2 u) o))[k]? =some u):=hD fun m=>cfold_prefix _ _ _ _ _ _ hu
   have HSU:Hid (∀(m:Nat) (hm:m<ls.length),(ls.take (m+1)).foldl (cstep g.2.2 u) o=cstep g.2.2 u ((ls.take m).foldl (cstep g.2.2 u) o) ls[m]):=hD fun m hm=>cfold_succ _ _ _ _ _ hm
   have HOKm:Hid (∀m:Nat,OrdOk g.2.1 ((ls.take m).foldl (cstep g.2.2 u) o)):=hD fun m=>OKS.out u o m HOK.out
   clear hu hku
   go_wp2
   go_loopw [3,6] (fun out j wr=> ∃m:Nat,m≤ls.length∧j= .int .i64 m∧OwI wr (w.heap.size+1) out ((ls.take m).foldl (cstep g.2.2 u) o)∧RdI wr (.slice (some ⟨bl,0,none⟩) ls.length capl) ls∧out.ownBlock≠some bl∧bl<wr.heap.size∧Below (w.heap.size+1) wo wr) (fun _ j _=>ls.length-(intOf j).toNat)
   case atStart=>exact⟨0,Nat.zero_le _,rfl,HO.out,HRD.out,HNE.out,hblt,Below.refl _ _⟩
   case round=>
    obtain⟨m,hm1,rfl,hown,hrd,hne,hblr,hbi⟩:=hrel
    have hsi:=hbi.size
    have HBI:=hD hbi
    have HB4:=hD (HB3.out.trans ((HB2.out.trans hbi).mono (by omega)))
    have hws:w.heap.size<wr.heap.size:=by omega
    have hbb:=HB2.out.trans hbi
    have p0:=(hbb.cell (p:=⟨w.heap.size,0,none⟩) (show w.heap.size<w.heap.size+1 by omega)).trans Q0.out
    have p1:=(hbb.cell (p:=⟨w.heap.size,1,none⟩) (show w.heap.size<w.heap.size+1 by omega)).trans Q1.out
    have p2:=(hbb.cell (p:=⟨w.heap.size,2,none⟩) (show w.heap.size<w.heap.size+1 by omega)).trans Q2.out
    have HRR:=hD hrd
    have HNR:=hD hne
    clear hbi hbb
    by_cases hlt2:m<ls.length
    ·have hokm:=HOKm.out m
     have hlm:=OKL.out _ hokm
     have hpu:=HPU.out m
     have HS:=hD (HSU.out m hlt2)
     obtain⟨_,_,hAl,_,hcl⟩:=hrd.at (by omega)
     obtain⟨rfl,rfl⟩:bl=_∧0=_:=by simpa using hAl
     have c0:=hcl m hlt2
     rw[Nat.zero_add] at c0
     generalize ls[m]=x at c0 HS
     generalize (ls.take m).foldl (cstep g.2.2 u) o=om at*
     have hkm:k<om.length:=(List.getElem?_eq_some_iff.1 hpu).1
     have hkg:om[k]=u:=by rw[List.getElem?_eq_getElem hkm] at hpu;injection hpu
     have HOM:=hD hown
     obtain⟨A2,cap2,rfl,_,_,_,hf2⟩:=hown.form
     obtain⟨b2,rfl,hb21,hb22⟩:=hf2 (by omega)
     have d0:=hown.cellAt k hkm
     rw[hkg] at d0
     have NX:=hD (NV.out u x)
     have N0:=hD (cstep_no (es:=g.2.2) (u:=u) (x:=x) (o:=om))
     have N1:=hD (cstep_in (es:=g.2.2) (u:=u) (x:=x) (o:=om))
     have N2:=hD (cstep_new (es:=g.2.2) (u:=u) (x:=x) (o:=om))
     have HNX:=hD (fun W (h:ArgG W (.agg #[.int .i64 g.1, .int .i64 g.2.1, .slice A g.2.2.length cap]) g)=>specNextVertex_any _ g u x W h (ONE.out u x))
     clear hcl hAl hown hrd hf2 hpu hkg hokm
     go_wp2_with fail
     have f0:=BelW.cell p0 hws
     have f1:=BelW.cell p1 hws
     have f2:=BelW.cell p2 hws
     have f3:=BelW.cell c0 hblr
     have f4:=BelW.cell d0 hb22
     (refine wp_region_quiet_bel (by kernel_rfl) (by kernel_rfl) ?_;(repeat(go_big_quiet_step (first | (go_at_call 58;exact Calls.bel_of (HNX.out _ (HG.out.below (HB4.out.trans ((BelW.h _).mono (by omega)))))))));refine wpQuiet_nil ?_;intro wq hw';obtain⟨pq,hw''⟩:=hw';have bq:=pq.h;rw[←hw''] at bq;clear hw'' pq)
     clear f0 f1 f2 f3 f4 p0 p1 p2 c0 d0
     have sq:=bq.size
     have HQ:=hD (HBI.out.trans (bq.mono (by omega)))
     have HOQ:=hD (HOM.out.below bq)
     have HRQ:=hD (HRR.out.below bq)
     clear bq
     generalize nextV g.2.2 u x=y at*
     rcases NX.out with hy | hy
     ·subst hy
      have F:=hD (N0.out (by omega))
      go_wp2
      go_roundw
      case rel=>exact⟨m+1,by omega,by go_num,by rw[HS.out,F.out];exact HOQ.out,HRQ.out,HNR.out,by omega,HQ.out⟩
      case measure=>simp[intOf];omega
     ·have hy0:(0:Int)≤y:=hy.1
      have hy41:y<41:=hy.2
      go_wp2_with fail
      refine(l4Has_any _ om y _ HOQ.out.rd.arg (by omega)).mono ?_
      rintro e' w' ⟨rfl,rfl⟩
      rcases h1:hasB om y with _ | _
      ·have F:=hD (N2.out hy0 h1)
       have HY:Hid (I64 y):=hD ⟨by omega,by omega⟩
       go_wp2_with (at_builtin;refine push_int rfl (.tmp 46) (.tmp 48) rfl _ _ _ (OwI.alloc HOQ.out _) rfl _ _ rfl (cell_new1 _ _ _) HY.out (by first | omega | (simp<;>omega)) (by first | omega | (simp<;>omega)) ?_;intro v9 wv9 o9 g9 p9)
       have hz9:=g9.size
       simp at hz9
       go_roundw
       case rel=>
        refine⟨m+1,by omega,by go_num,by rw[HS.out,F.out];exact o9,(HRQ.out.alloc _).grown g9 (fun b hb hb'=> ?_),fun e=> ?_,by omega,bel_push HQ.out (by omega) HOQ.out.1 (Nat.le_refl _) g9⟩
        ·simp[Value.ownBlock] at hb hb'
         have:=HNR.out
         simp[Value.ownBlock] at this
         omega
        ·rcases p9 with p9 | p9
         ·rw[p9] at e;exact HNR.out e
         ·rw[p9] at e;simp at e;omega
       case measure=>simp[intOf];omega
      ·have F:=hD (N1.out hy0 h1)
       go_wp2
       go_roundw
       case rel=>exact⟨m+1,by omega,by go_num,by rw[HS.out,F.out];exact HOQ.out,HRQ.out,HNR.out,by omega,HQ.out⟩
       case measure=>simp[intOf];omega
    ·obtain rfl:m=ls.length:=by omega
     rw[List.take_length] at hown
     have hokm:=HOKm.out ls.length
     rw[List.take_length] at hokm
     have HOKF:=hD hokm
     have HOM:=hD hown
     have hlen:k+1≤(ls.foldl (cstep g.2.2 u) o).length:=by
      have:=HPU.out ls.length
      rw[List.take_length] at this
      have:=(List.getElem?_eq_some_iff.1 this).1
      omega
     obtain⟨A2,cap2,rfl,_⟩:=hown.form
     clear hown hrd hne hokm p0 p1 p2
     go_wp2
     go_roundw
     case rel=>exact⟨k+1,_,hlen,by go_num,HOKF.out,HCF.out,HOM.out,HRR.out,HNR.out,hblr,HB2.out.trans HBI.out⟩
     case measure=>simp[intOf];omega
  ·obtain rfl:k=o.length:=by omega
   have F:Hid (canO g=o):=hD (by rw[HC.out,canF_end])
   go_wp2
   go_ret
   exact⟨_,rfl,by rw[F.out];exact HO.out.mono (by omega),HB3.out.trans (HB2.out.mono (by omega))⟩
end Go.Proofs.YtfadnkjlilhneaaGreat
namespace Go.Proofs.YtfadnkjlilhneaaGreat
set_option maxRecDepth 20000
set_option linter.unusedVariables false
set_option linter.unusedSimpArgs false
open Go.RowKit
def plv:List Int→Int→Int
 | [],_=>0
 | u::o,v=>if u=v then 1 else if plv o v=0 then 0 else plv o v+1
theorem plv_range (o:List Int) (v:Int):0≤plv o v∧plv o v≤o.length:=by
 induction o with
 | nil=>simp[plv]
 | cons u o ih=>
   unfold plv
   simp only[List.length_cons]
   split
   ·omega
   ·split<;>omega
theorem plv_zero {o:List Int} {v:Int}:plv o v=0↔v∉o:=by
 induction o with
 | nil=>simp[plv]
 | cons u o ih=>
   unfold plv
   have:=plv_range o v
   split
   ·rename_i h
    simp[h]
   ·rename_i h
    rw[List.mem_cons]
    split
    ·rename_i h0
     constructor
     ·intro _
      rintro(e | e)
      ·exact h e.symm
      ·exact ih.1 h0 e
     ·intro _;rfl
    ·rename_i h0
     constructor
     ·intro e;omega
     ·intro hn
      exact absurd (ih.2 fun e=>hn (.inr e)) h0
theorem plv_snoc {o:List Int} {u:Int} (hu:u∉o) (v:Int):plv (o++ [u]) v=if v=u then(o.length:Int)+1 else plv o v:=by
 induction o with
 | nil=>
   simp only[List.nil_append,plv,List.length_nil]
   by_cases h:u=v
   ·simp[h]
   ·have h': ¬v=u:=fun e=>h e.symm
    simp[h,h']
 | cons a o ih=>
   have hu':u∉o:=fun e=>hu (by simp[e])
   have hau:a≠u:=fun e=>hu (by simp[e])
   have ih:=ih hu'
   simp only[List.cons_append,plv,List.length_cons]
   by_cases h:a=v
   ·rw[if_pos h,if_pos h,if_neg (fun e=>hau (h.trans e))]
   ·rw[if_neg h,if_neg h,ih]
    by_cases h2:v=u
    ·rw[if_pos h2,if_pos h2,if_neg (by omega)]
     omega
    ·rw[if_neg h2,if_neg h2]
theorem plv_inj {o:List Int} {v v':Int} (h:plv o v=plv o v') (h0:plv o v≠0):v=v':=by
 induction o with
 | nil=>exact absurd rfl h0
 | cons a o ih=>
   have r1:=plv_range o v
   have r2:=plv_range o v'
   unfold plv at h h0
   by_cases e1:a=v
   ·by_cases e2:a=v'
    ·rw[←e1,←e2]
    ·rw[if_pos e1,if_neg e2] at h
     split at h<;>omega
   ·by_cases e2:a=v'
    ·rw[if_neg e1,if_pos e2] at h
     split at h<;>omega
    ·rw[if_neg e1,if_neg e2] at h
     rw[if_neg e1] at h0
     by_cases z1:plv o v=0
     ·rw[if_pos z1] at h0;exact absurd rfl h0
     ·by_cases z2:plv o v'=0
      ·rw[if_neg z1,if_pos z2] at h;omega
      ·rw[if_neg z1,if_neg z2] at h
       exact ih (by omega) z1
def plc (n:Nat) (o:List Int) (d:Int):List Int:=(List.range n).map fun v=>plv o (v:Nat)-d
theorem plc_len (n:Nat) (o:List Int) (d:Int):(plc n o d).length=n:=by simp[plc]
theorem plc_get (n:Nat) (o:List Int) (d:Int) (v:Nat) (h:v<n):(plc n o d)[v]'(by rw[plc_len];exact h)=plv o v-d:=by simp[plc]
theorem plc_nil (n:Nat) (d:Int):plc n [] d=List.replicate n (-d):=by
 apply List.ext_getElem?
 intro i
 simp only[plc,plv,List.getElem?_map,List.getElem?_replicate]
 by_cases h:i<n
 ·simp[h]
 ·simp[h]
theorem plc_succ (n:Nat) (o:List Int) (d:Int) (k:Nat) (hk:k<o.length) (hd:o.Nodup) (u:Nat) (hu:o[k]=(u:Int)):
  (plc n (o.take k) d).set u ((k:Int)+1-d)=plc n (o.take (k+1)) d:=by
 have hn:(u:Int)∉o.take k:=by
  rw[←hu]
  intro hm
  obtain⟨j,hj,e⟩:=List.getElem_of_mem hm
  rw[List.getElem_take] at e
  have hjk:j<k:=by rw[List.length_take] at hj;omega
  have:=(List.pairwise_iff_getElem.1 hd) j k (by omega) hk hjk
  exact this e
 rw[List.take_succ_eq_append_getElem hk,hu]
 have hl:(o.take k).length=k:=by rw[List.length_take];omega
 apply List.ext_getElem?
 intro i
 rw[List.getElem?_set]
 simp only[plc,List.getElem?_map,List.length_map,List.length_range]
 by_cases hi:i<n
 ·simp only[List.getElem?_range hi,Option.map_some]
  rw[plv_snoc hn,hl]
  by_cases e:u=i
  ·subst e
   simp[hi]
  ·rw[if_neg e,if_neg (by omega)]
 ·simp only[List.getElem?_eq_none (show(List.range n).length≤i by simp;omega),Option.map_none]
  split
  ·rename_i e
   rw[if_neg (by omega)]
  ·rfl
def rnE (o:List Int) (e:EdD):Option EdD:=if 0<plv o e.1∧0<plv o e.2.2 then some (plv o e.1-1,e.2.1,plv o e.2.2-1) else none
def rnL (es:List EdD) (o:List Int):List EdD:=es.filterMap (rnE o)
def rnG (g:GrD) (o:List Int):GrD:=(g.1,o.length,srt cmpE (rnL g.2.2 o))
theorem rnL_succ (es:List EdD) (o:List Int) (k:Nat) (h:k<es.length):rnL (es.take (k+1)) o=rnL (es.take k) o++(rnE o es[k]).toList:=by
 unfold rnL
 rw[List.take_succ_eq_append_getElem h,List.filterMap_append]
 congr 1
theorem rnL_len (es:List EdD) (o:List Int):(rnL es o).length≤es.length:=List.length_filterMap_le _ _
theorem rnL_nodup {es:List EdD} (o:List Int) (h:es.Nodup):(rnL es o).Nodup:=by
 unfold rnL
 unfold List.Nodup at*
 rw[List.pairwise_filterMap]
 refine h.imp fun {a b} hab x hx y hy e=>hab ?_
 subst e
 unfold rnE at hx hy
 split at hx
 ·rename_i ha
  split at hy
  ·rename_i hb
   injection hx with hx
   injection hy with hy
   rw[←hy] at hx
   injection hx with e1 hx
   injection hx with e2 e3
   have i1:=plv_inj (o:=o) (v:=a.1) (v':=b.1) (by omega) (by omega)
   have i3:=plv_inj (o:=o) (v:=a.2.2) (v':=b.2.2) (by omega) (by omega)
   obtain⟨_,_,_⟩:=a
   obtain⟨_,_,_⟩:=b
   simp only at i1 e2 i3
   rw[i1,e2,i3]
  ·cases hy
 ·cases hx
theorem gr_nodup {g:GrD} (h:grB g=true):Srt cmpE g.2.2∧g.2.2.Nodup:=by
 obtain⟨_,_,_,h4⟩:=grB_parts h
 have adj: ∀k (hk:k+1<g.2.2.length),cmpE g.2.2[k] g.2.2[k+1]<0:=fun k hk=>by
  have:=h4 (k+1) hk
  rw[okE_pos (by omega) hk,Bool.and_eq_true] at this
  have h2:=this.2
  simp only[Bool.not_eq_true',decide_eq_false_iff_not,Nat.add_sub_cancel] at h2
  omega
 have all: ∀d k (hk:k+d+1<g.2.2.length),cmpE (g.2.2[k]'(by omega)) g.2.2[k+d+1]<0:=by
  intro d
  induction d with
  | zero=>intro k hk;exact adj k hk
  | succ d ih=>intro k hk;exact cmpE_ord.trans (ih k (by omega)) (adj (k+d+1) hk)
 have hs:Srt cmpE g.2.2:=by
  unfold Srt
  rw[List.pairwise_iff_getElem]
  intro i j hi hj hij
  have:=all (j-i-1) i (by omega)
  have e:i+(j-i-1)+1=j:=by omega
  simpa only[e] using this
 refine⟨hs,hs.imp fun {a b} hab e=> ?_⟩
 rw[e] at hab
 exact cmpE_ord.irrefl b hab
theorem grown_bel {w w':World} {row:Option Nat} (h:Below w.heap.size w w'):w.grownBy w' row:=⟨h.os,h.tape,h.output,h.size,fun b hb _=>h.block b hb⟩
theorem grown_cell {w w':World} {x b o:Nat} (h:w.grownBy w' (some x)) (hb:b<w.heap.size) (hne:b≠x):w'.cell? ⟨b,o,none⟩=w.cell? ⟨b,o,none⟩:=
 World.cell?_of_block (w:=w) (h.block b hb fun e=>hne (by injection e))
theorem grown_frozen {w w':World} {x b o:Nat} (h:w.grownBy w' (some x)) (hb:b<w.heap.size) (hne:b≠x):w'.frozen? ⟨b,o,none⟩=w.frozen? ⟨b,o,none⟩:=
 World.frozen?_of_block (w:=w) (h.block b hb fun e=>hne (by injection e))
theorem cell_set_other (w:World) (b o b' o':Nat) (u:Value) (h:b≠b'):(w.setCell ⟨b',o',none⟩ u).cell? ⟨b,o,none⟩=w.cell? ⟨b,o,none⟩:=
 World.cell?_of_block (w:=w) (Below.heap_setCell w _ u b h)
set_option maxHeartbeats 1000000 in
theorem specRenumber_anyN (v vo:Value) (g:GrD) (o:List Int) (w:World) (h:ArgG w v g) (ho:RdI w vo o) (hg:grB g=true) (hok:OrdN g.2.1 o):
  Calls Tryz.prog 122 #[v,vo] w fun e w'=> ∃r,e= .returned (.tuple #[r, .bool true])∧OwG w' w.heap.size r (rnG g o)∧Below w.heap.size w w':=by
 have HG:=hD h
 have HGR:=hD hg
 have HOK:=hD hok
 have HOR:=hD ho
 obtain⟨hr13,hsz40,hl120,_⟩:=grB_parts hg
 have HED:=hD (fun e he=>edge_of_gr hg (e:=e) he)
 obtain⟨N,hN⟩: ∃N:Nat,g.2.1=(N:Int):=⟨g.2.1.toNat,by omega⟩
 have hol:o.length≤N:=nodup_len N o hok.1 fun y hy=>by have:=hok.2.1 y hy;omega
 have hol1:1≤o.length:=hok.2.2
 have HRANGE:Hid (∀k (hk:k<o.length),∃u:Nat,o[k]=(u:Int)∧u<N):=hD fun k hk=>by
  have:=hok.2.1 o[k] (by simp)
  exact⟨o[k].toNat,by omega,by omega⟩
 have HND:=hD hok.1
 clear hg hok h
 obtain⟨r,n,es⟩:=g
 simp only at hN hr13 hsz40 hl120
 subst hN
 have hN1:1≤N:=by omega
 have hN2:N≤40:=by omega
 have hN3:(N:Int)≤40:=by omega
 clear hsz40
 obtain⟨A,cap,rfl,HE⟩: ∃A cap,v= .agg #[.int .i64 r, .int .i64 N, .slice A es.length cap]∧Hid (ArgE w (.slice A es.length cap) es):=by
  obtain⟨s,hv,_,_,ha⟩:=HG.out
  obtain⟨A,cap,rfl⟩:=ha.form
  exact⟨A,cap,hv,hD ha⟩
 obtain⟨Ao,capo,rfl,hco,hmo,_⟩:=ho.arg
 have hbndE:es.length≤cap∧cap≤maxLen:=by
  obtain⟨_,_,hv,h1,h2,_⟩:=HE.out
  injection hv with _ _ e3
  subst e3
  exact⟨h1,h2⟩
 obtain⟨hcap,hm⟩:=hbndE
 unfold maxLen at hmo hm
 clear ho
 have bx:Below w.heap.size w (((w.alloc (Obj.cells #[Value.int IntKind.i64 r,Value.int IntKind.i64 N, .slice A es.length cap] 31)).alloc (Obj.cells #[Value.int IntKind.i64 0,Value.int IntKind.i64 0, .slice none 0 0] 31)).alloc (Obj.cells #[Value.int IntKind.i64 r,Value.int IntKind.i64 o.length, .slice none 0 0] 31)):=(by repeat(first | exact Below.refl _ _ | (refine Below.setCell ?_ (by first | omega | (simp<;>omega)) _) | (refine bel_drewN ?_ _) | (refine Below.drew ?_) | (refine Below.alloc ?_ (by first | omega | (simp<;>omega)) _)))
 go_enter Tryz.func122,Tryz.ntmps122
 go_wp2_with fail
 obtain⟨W0,hW0⟩: ∃W,W=((w.alloc (Obj.cells #[Value.int IntKind.i64 r,Value.int IntKind.i64 N, .slice A es.length cap] 31)).alloc (Obj.cells #[Value.int IntKind.i64 0,Value.int IntKind.i64 0, .slice none 0 0] 31)).alloc (Obj.cells #[Value.int IntKind.i64 r,Value.int IntKind.i64 o.length, .slice none 0 0] 31):=⟨_,rfl⟩
 rw[←hW0] at bx⊢
 have hsW:W0.heap.size=w.heap.size+3:=by rw[hW0];simp
 have b0:W0.cell? ⟨w.heap.size,0,none⟩=some (.int .i64 r):=by rw[hW0];simp[go_sem]
 have b1:W0.cell? ⟨w.heap.size,1,none⟩=some (.int .i64 N):=by rw[hW0];simp[go_sem]
 have b2:W0.cell? ⟨w.heap.size,2,none⟩=some (.slice A es.length cap):=by rw[hW0];simp[go_sem]
 have r0: ∃u,W0.cell? ⟨w.heap.size+1,0,none⟩=some u:=⟨.int .i64 0,by rw[hW0];simp[go_sem]⟩
 have r1: ∃u,W0.cell? ⟨w.heap.size+1,1,none⟩=some u:=⟨.int .i64 0,by rw[hW0];simp[go_sem]⟩
 have r2: ∃u,W0.cell? ⟨w.heap.size+1,2,none⟩=some u:=⟨.slice none 0 0,by rw[hW0];simp[go_sem]⟩
 have rf: ∀j,W0.frozen? ⟨w.heap.size+1,j,none⟩=false:=fun j=>by rw[hW0];simp[go_sem]
 have x0:W0.cell? ⟨w.heap.size+1+1,0,none⟩=some (.int .i64 r):=by rw[hW0];simp[go_sem]
 have x1:W0.cell? ⟨w.heap.size+1+1,1,none⟩=some (.int .i64 o.length):=by rw[hW0];simp[go_sem]
 have x2:W0.cell? ⟨w.heap.size+1+1,2,none⟩=some (.slice none 0 0):=by rw[hW0];simp[go_sem]
 have xf: ∀j,W0.frozen? ⟨w.heap.size+1+1,j,none⟩=false:=fun j=>by rw[hW0];simp[go_sem]
 clear hW0
 have BX:=hD bx
 have B0:=hD b0
 have B1:=hD b1
 have B2:=hD b2
 have R0:=hD r0
 have R1:=hD r1
 have R2:=hD r2
 have RF:=hD rf
 have X0:=hD x0
 have X1:=hD x1
 have X2:=hD x2
 have XF:=hD xf
 have hgr:=specIsGraph_any _ (r,(N:Int),es) W0 (HG.out.below bx)
 rw[HGR.out] at hgr
 have HGRC:=hD hgr
 clear hgr b0 b1 b2 r0 r1 r2 rf x0 x1 x2 xf
 refine HGRC.out.mono ?_
 rintro e w1 ⟨rfl,bW⟩
 clear HGRC
 have q1:=(bW.cell (p:=⟨w.heap.size,1,none⟩) (show w.heap.size<W0.heap.size by omega)).trans B1.out
 have s1:=bW.size
 have HB1:=hD bW
 clear bW bx
 have g0:((o.length:Int)==0)=false:=by rw[beq_eq_false_iff_ne];omega
 have g1: ¬(N:Int)<(o.length:Int):=by omega
 obtain⟨i0,hi0,hz0,hz1,hz2⟩:=info_parts int_info
 go_wp2_with (at_make;refine wpList_make_full _ rfl _ _ 26 rfl w1.heap.size 3 i0 (.int .i64 0) 1 Tryz.underlying26 hi0 hz0 hz1 _ _ _ _ N rfl rfl rfl rfl (by rw[hz2];omega) (by unfold maxLen;omega) (Nat.le_refl _) ?_)
 intro w2 hown0 hgrow0
 have own0:OwI w2 w1.heap.size (.slice (some ⟨w1.heap.size,0,none⟩) N N) (plc N (o.take 0) 0):=by
  refine⟨?_,fun y hy=> ?_⟩
  ·rw[List.take_zero,plc_nil,List.length_replicate]
   have:ints (List.replicate N (-0))=List.replicate N (Value.int .i64 0):=by simp[ints]
   rw[this]
   simpa[toList_madeCells_one] using hown0
  ·rw[List.take_zero,plc_nil] at hy
   obtain⟨_,rfl⟩:=List.mem_replicate.1 hy
   exact⟨by decide,by decide⟩
 have HO0:=hD own0
 have HB2:=hD (HB1.out.grown hgrow0 s1 (fun k h=>by cases h))
 clear own0 hown0 hgrow0 q1 g0 g1
 go_wp2
 go_loopw [8] (fun i wr=> ∃k:Nat,k≤o.length∧i= .int .i64 k∧OwI wr w1.heap.size (.slice (some ⟨w1.heap.size,0,none⟩) N N) (plc N (o.take k) 0)∧Below W0.heap.size W0 wr) (fun i _=>o.length-(intOf i).toNat)
 case atStart=>exact⟨0,Nat.zero_le _,rfl,HO0.out,HB2.out⟩
 case round=>
  obtain⟨k,hk,rfl,hown,hbel⟩:=hrel
  have HB3:=hD hbel
  have HBw:=hD (BX.out.trans (hbel.mono (by omega)))
  have hsz:=hbel.size
  have hP:=(hown.1.lt w1.heap.size rfl).2
  have hq1:=(hbel.cell (p:=⟨w.heap.size,1,none⟩) (show w.heap.size<W0.heap.size by omega)).trans B1.out
  have HO:=hD hown
  clear hbel
  by_cases hlt:k<o.length
  ·obtain⟨bo,offo,rfl,hbo,hco2⟩:=(HOR.out.below HBw.out).at (by omega)
   have c0:=hco2 k hlt
   obtain⟨u,hu,huN⟩:=HRANGE.out k hlt
   rw[hu] at c0
   have hcur:=hown.cellAt u (by rw[plc_len];exact huN)
   have hz:(plc N (o.take k) 0)[u]'(by rw[plc_len];exact huN)=0:=by
    rw[plc_get _ _ _ _ huN,plv_zero.2,Int.sub_zero]
    intro hm
    rw[←hu] at hm
    obtain⟨j,hj,e⟩:=List.getElem_of_mem hm
    rw[List.getElem_take] at e
    have hjk:j<k:=by rw[List.length_take] at hj;omega
    exact(List.pairwise_iff_getElem.1 HND.out) j k (by omega) hlt hjk e
   rw[hz] at hcur
   have hfz:=hown.free u
   have HSET:=hD (hown.set u ((k:Int)+1) ⟨by omega,by omega⟩)
   have HSUC:Hid ((plc N (o.take k) 0).set u ((k:Int)+1)=plc N (o.take (k+1)) 0):=hD (by
    have:=plc_succ N o 0 k hlt HND.out u hu
    rwa [Int.sub_zero] at this)
   have j0:(0:Int)≤(u:Int):=by omega
   have j1:(u:Int)<(N:Int):=by omega
   have hin:=fun w=>l1In_any (u:Int) 0 ((N:Int)-1) w
   have hib:inB (u:Int) 0 ((N:Int)-1)=true:=inB_iff.2 ⟨by omega,by omega⟩
   simp only[hib] at hin
   have HIN:=hD hin
   have hws:w.heap.size<wr.heap.size:=by omega
   clear hco2 hu hz hown hin hib
   go_wp2_with fail
   have f0:=BelW.cell hq1 hws
   have f1:=BelW.cell c0 hbo
   have f2:=BelW.cell hcur hP
   (refine wp_region_quiet_bel (by kernel_rfl) (by kernel_rfl) ?_;(repeat(go_big_quiet_step (first | (go_at_call 57;exact Calls.bel_same (HIN.out _)))));refine wpQuiet_nil ?_;intro wq hw';obtain⟨pq,hw''⟩:=hw';have bq:=pq.h;rw[←hw''] at bq;clear hw'' pq)
   replace c0:=f1 ⟨wq,bq⟩
   replace hcur:=f2 ⟨wq,bq⟩
   simp only at c0 hcur
   clear f0 f1 f2
   have hfq:=(bq.frozen (p:=⟨w1.heap.size,u,none⟩) hP).trans hfz
   have sq:=bq.size
   have HOQ:=hD ((HO.out.below bq).set u ((k:Int)+1) ⟨by omega,by omega⟩)
   have HBQ:=hD (HB3.out.trans (bq.mono (by omega)))
   clear bq hfz hq1
   go_wp2
   go_roundw
   case rel=>exact⟨k+1,by omega,by go_num,by rw[←HSUC.out];exact HOQ.out.1,HBQ.out.grown HOQ.out.2 (by omega) (fun j hj=>by cases hj;omega)⟩
   case measure=>simp[intOf];omega
  ·obtain rfl:k=o.length:=by omega
   rw[List.take_length] at HO
   clear hown
   have HP:=hD HO.out
   obtain⟨w5,rfl⟩: ∃w5:World,w5=wr:=⟨_,rfl⟩
   have hX:w.heap.size+1+1<w5.heap.size:=by omega
   have PX2:=hD ((HB3.out.cell (p:=⟨w.heap.size+1+1,2,none⟩) (show w.heap.size+1+1<W0.heap.size by omega)).trans X2.out)
   have PX0:=hD ((HB3.out.cell (p:=⟨w.heap.size+1+1,0,none⟩) (show w.heap.size+1+1<W0.heap.size by omega)).trans X0.out)
   have PX1:=hD ((HB3.out.cell (p:=⟨w.heap.size+1+1,1,none⟩) (show w.heap.size+1+1<W0.heap.size by omega)).trans X1.out)
   have PXF:Hid (∀j,w5.frozen? ⟨w.heap.size+1+1,j,none⟩=false):=hD fun j=>(HB3.out.frozen (p:=⟨w.heap.size+1+1,j,none⟩) (show w.heap.size+1+1<W0.heap.size by omega)).trans (XF.out j)
   clear hq1
   have HPL:Hid (∀(wr:World),w5.grownBy wr (some (w.heap.size+1+1))→ ∀u:Nat,u<N→wr.cell? ⟨w1.heap.size,u,none⟩=some (.int .i64 (plv o u))):=hD fun wr hg u hu=>by
    rw[grown_cell hg hP (by omega),HP.out.cellAt u (by rw[plc_len];exact hu),plc_get _ _ _ _ hu,Int.sub_zero]
   have PLR:Hid (∀v:Int,0≤plv o v∧plv o v≤40):=hD fun v=>by have:=plv_range o v;omega
   go_wp2
   go_loopw [9] (fun i wr=> ∃(k:Nat) (A2:Option Addr) (cap2:Nat),k≤es.length∧i= .int .i64 k∧wr.cell? ⟨w.heap.size+1+1,2,none⟩=some (.slice A2 (srt cmpE (rnL (es.take k) o)).length cap2)∧OwE wr (w.heap.size+1+1+1) (.slice A2 (srt cmpE (rnL (es.take k) o)).length cap2) (srt cmpE (rnL (es.take k) o))∧w5.grownBy wr (some (w.heap.size+1+1))∧wr.cell? ⟨w.heap.size+1+1,0,none⟩=some (.int .i64 r)∧wr.cell? ⟨w.heap.size+1+1,1,none⟩=some (.int .i64 o.length)∧ ∀j,wr.frozen? ⟨w.heap.size+1+1,j,none⟩=false) (fun i _=>es.length-(intOf i).toNat)
   case atStart=>exact⟨0,none,0,Nat.zero_le _,rfl,PX2.out,OwE.nil,World.grownBy.refl _ _,PX0.out,PX1.out,PXF.out⟩
   case round=>
    obtain⟨k,A2,cap2,hk2,rfl,hx2,hown2,hgr,hx0,hx1,hxf⟩:=hrel
    have HGW:=hD hgr
    have hsz2:=hgr.size
    have HBw2:=hD (HBw.out.grown hgr (by omega) (fun j hj=>by cases hj;omega))
    have b2:=(grown_cell (o:=2) hgr (show w.heap.size<w5.heap.size by omega) (by omega)).trans ((HB3.out.cell (p:=⟨w.heap.size,2,none⟩) (show w.heap.size<W0.heap.size by omega)).trans B2.out)
    have HX2:=hD hx2
    have HX0:=hD hx0
    have HX1:=hD hx1
    have HXF:=hD hxf
    clear hx0 hx1 hxf
    have HOW2:=hD hown2
    clear hgr hown2
    by_cases hlt2:k<es.length
    ·obtain⟨be,offe,rfl,hbe,c0,c1,c2,he64⟩:=(HE.out.below HBw2.out).at hlt2
     obtain⟨e1,e2,e3⟩:=HED.out es[k] (by simp)
     have HS:=hD (rnL_succ es o k hlt2)
     have HSS:Hid (∀x,rnE o es[k]=some x→srt cmpE (rnL (es.take (k+1)) o)=insF cmpE (srt cmpE (rnL (es.take k) o)) x):=hD fun x hx=>by
      rw[HS.out,hx]
      unfold srt
      rw[List.foldl_append]
      rfl
     have HSN:Hid (rnE o es[k]=none→rnL (es.take (k+1)) o=rnL (es.take k) o):=hD fun hx=>by rw[HS.out,hx];simp
     have hlr:(srt cmpE (rnL (es.take k) o)).length≤120:=by
      have h1:=srt_len (c:=cmpE) (rnL (es.take k) o)
      have h2:=rnL_len (es.take k) o
      rw[List.length_take] at h2
      omega
     have HE64:=hD he64
     generalize es[k]=e at*
     obtain⟨f,l,t⟩:=e
     simp only at e1 e2 e3 c0 c1 c2
     obtain⟨a,rfl⟩: ∃a:Nat,f=(a:Int):=⟨f.toNat,by omega⟩
     obtain⟨c,rfl⟩: ∃c:Nat,t=(c:Int):=⟨t.toNat,by omega⟩
     have pa:=HPL.out wr HGW.out a (by omega)
     have pc:=HPL.out wr HGW.out c (by omega)
     obtain⟨ra1,ra2⟩:=PLR.out a
     obtain⟨rc1,rc2⟩:=PLR.out c
     have RN:Hid (rnE o ((a:Int),l,(c:Int))=if 0<plv o a∧0<plv o c then some (plv o a-1,l,plv o c-1) else none):=hD rfl
     have ja:(a:Int)<(N:Int):=by omega
     have jc:(c:Int)<(N:Int):=by omega
     have ja0:(0:Int)≤(a:Int):=by omega
     have jc0:(0:Int)≤(c:Int):=by omega
     have hPr:w1.heap.size<wr.heap.size:=by omega
     have hXr:w.heap.size+1+1<wr.heap.size:=by omega
     have hl64:I64 l:=by unfold I64;omega
     have HL64:=hD hl64
     generalize plv o a=pav at*
     generalize plv o c=pcv at*
     generalize hL:srt cmpE (rnL (es.take k) o)=L at*
     clear hl64 HS HE64 he64
     have bA:Below wr.heap.size wr (wr.alloc (Obj.cells #[Value.int IntKind.i64 a,Value.int IntKind.i64 l,Value.int IntKind.i64 c] 54)):=(Below.refl _ _).alloc (Nat.le_refl _) _
     by_cases t1:0<pav
     ·by_cases t2:0<pcv
      ·have F:=hD (HSS.out _ (by rw[RN.out,if_pos ⟨t1,t2⟩]))
       go_wp2_with fail
       have sA:wr.heap.size<(wr.alloc (Obj.cells #[Value.int IntKind.i64 a,Value.int IntKind.i64 l,Value.int IntKind.i64 c] 54)).heap.size:=by simp
       have l0:(wr.alloc (Obj.cells #[Value.int IntKind.i64 a,Value.int IntKind.i64 l,Value.int IntKind.i64 c] 54)).cell? ⟨wr.heap.size,0,none⟩=some (.int .i64 a):=by simp[go_sem]
       have l1:(wr.alloc (Obj.cells #[Value.int IntKind.i64 a,Value.int IntKind.i64 l,Value.int IntKind.i64 c] 54)).cell? ⟨wr.heap.size,1,none⟩=some (.int .i64 l):=by simp[go_sem]
       have l2:(wr.alloc (Obj.cells #[Value.int IntKind.i64 a,Value.int IntKind.i64 l,Value.int IntKind.i64 c] 54)).cell? ⟨wr.heap.size,2,none⟩=some (.int .i64 c):=by simp[go_sem]
       generalize wr.alloc (Obj.cells #[Value.int IntKind.i64 a,Value.int IntKind.i64 l,Value.int IntKind.i64 c] 54)=W at bA sA l0 l1 l2⊢
       have la:=(bA.cell (p:=⟨w1.heap.size,a,none⟩) hPr).trans pa
       have lc:=(bA.cell (p:=⟨w1.heap.size,c,none⟩) hPr).trans pc
       have lx:=(bA.cell (p:=⟨w.heap.size+1+1,2,none⟩) hXr).trans HX2.out
       have LX0:=hD ((bA.cell (p:=⟨w.heap.size+1+1,0,none⟩) hXr).trans HX0.out)
       have LX1:=hD ((bA.cell (p:=⟨w.heap.size+1+1,1,none⟩) hXr).trans HX1.out)
       have LXF:Hid (∀j,W.frozen? ⟨w.heap.size+1+1,j,none⟩=false):=hD fun j=>(bA.frozen (p:=⟨w.heap.size+1+1,j,none⟩) hXr).trans (HXF.out j)
       have OW:=hD (HOW2.out.below bA)
       have GW:=hD (HGW.out.trans (grown_bel bA))
       have hXW:w.heap.size+1+1<W.heap.size:=by omega
       have hPW:w1.heap.size<W.heap.size:=by omega
       have hPX:w1.heap.size≠w.heap.size+1+1:=by omega
       have hwX:wr.heap.size≠w.heap.size+1+1:=by omega
       clear bA pa pc hx2
       have wa1:IntKind.i64.wrap (pav-1)=pav-1:=by rw[IntKind.wrap_i64];omega
       have wc1:IntKind.i64.wrap (pcv-1)=pcv-1:=by rw[IntKind.wrap_i64];omega
       have f0:=BelW.cell l0 sA
       have f1:=BelW.cell l1 sA
       have f2:=BelW.cell l2 sA
       have f3:=BelW.cell la hPW
       have f4:=BelW.cell lc hPW
       have f5:=BelW.cell lx hXW
       (refine wp_region_call3 17 (by kernel_rfl) (by kernel_rfl) (by kernel_rfl) (by kernel_rfl) (by rfl) (by rfl) ?_;dsimp only[dum3,dumO];(repeat(go_big_quiet_step (fail)));refine wpQuiet_nil ?_;refine⟨⟨_,fun _=>by rfl⟩,?_⟩;intro wq hw';obtain⟨pq,hw''⟩:=hw';have bq:=pq.h;rw[←hw''] at bq;clear hw'' pq;refine⟨_,_,by rfl,?_⟩)
       clear f0 f1 f2 f3 f4 f5
       simp only[wa1,wc1,List.map_toArray,List.map_cons,List.map_nil,Array.empty_append,Array.append_empty]
       refine(show Calls Tryz.prog 59 #[.slice A2 L.length cap2, .agg #[.int .i64 (pav-1), .int .i64 l, .int .i64 (pcv-1)]] wq _ from ?_)
       refine(l4Put_any _ L (pav-1,l,pcv-1) wq (OW.out.below bq).arg ⟨⟨by simp only;omega,by simp only;omega⟩,HL64.out,⟨by simp only;omega,by simp only;omega⟩⟩ (by omega)).mono ?_
       rintro e' w9 ⟨r9,rfl,o9,b9⟩
       have B9:=hD (bq.trans (b9.mono bq.size))
       have qx:=(B9.out.cell (p:=⟨w.heap.size+1+1,2,none⟩) hXW).trans lx
       have qf:=(B9.out.frozen (p:=⟨w.heap.size+1+1,2,none⟩) hXW).trans (LXF.out 2)
       have s9:W.heap.size≤w9.heap.size:=B9.out.size
       have O9:=hD o9
       obtain⟨A9,cap9,rfl,_⟩:=o9.form
       clear o9 b9
       refine⟨_,rfl,?_⟩
       simp only[Act.put,List.setIfInBounds_toArray,List.set_cons_zero,List.set_cons_succ]
       go_wp2
       go_roundw
       case rel=>
        have g9:w5.grownBy w9 (some (w.heap.size+1+1)):=GW.out.trans (grown_bel B9.out)
        refine⟨k+1,A9,cap9,by omega,by go_num,by rw[F.out];exact World.cell?_setCell_same _ _ _ qx,?_,g9.trans (set_grown _ _ _ _),?_,?_,fun j=>by rw[World.frozen?_setCell];exact(B9.out.frozen (p:=⟨w.heap.size+1+1,j,none⟩) hXW).trans (LXF.out j)⟩
        ·rw[F.out]
         exact(O9.out.mono (by show _≤wq.heap.size;have:=bq.size;omega)).far (show w.heap.size+1+1<w.heap.size+1+1+1 by omega) _
        ·rw[World.cell?_setCell_other _ _ _ _ (by simp)]
         exact(B9.out.cell (p:=⟨w.heap.size+1+1,0,none⟩) hXW).trans LX0.out
        ·rw[World.cell?_setCell_other _ _ _ _ (by simp)]
         exact(B9.out.cell (p:=⟨w.heap.size+1+1,1,none⟩) hXW).trans LX1.out
       case measure=>simp[intOf];omega
      ·have F:=hD (HSN.out (by rw[RN.out,if_neg (fun h=>t2 h.2)]))
       go_wp2
       go_roundw
       case rel=>exact⟨k+1,A2,cap2,by omega,by go_num,by rw[F.out,hL];exact(bA.cell (p:=⟨w.heap.size+1+1,2,none⟩) hXr).trans HX2.out,by rw[F.out,hL];exact HOW2.out.below bA,HGW.out.trans (grown_bel bA),(bA.cell (p:=⟨w.heap.size+1+1,0,none⟩) hXr).trans HX0.out,(bA.cell (p:=⟨w.heap.size+1+1,1,none⟩) hXr).trans HX1.out,fun j=>(bA.frozen (p:=⟨w.heap.size+1+1,j,none⟩) hXr).trans (HXF.out j)⟩
       case measure=>simp[intOf];omega
     ·have F:=hD (HSN.out (by rw[RN.out,if_neg (fun h=>t1 h.1)]))
      go_wp2
      go_roundw
      case rel=>exact⟨k+1,A2,cap2,by omega,by go_num,by rw[F.out,hL];exact(bA.cell (p:=⟨w.heap.size+1+1,2,none⟩) hXr).trans HX2.out,by rw[F.out,hL];exact HOW2.out.below bA,HGW.out.trans (grown_bel bA),(bA.cell (p:=⟨w.heap.size+1+1,0,none⟩) hXr).trans HX0.out,(bA.cell (p:=⟨w.heap.size+1+1,1,none⟩) hXr).trans HX1.out,fun j=>(bA.frozen (p:=⟨w.heap.size+1+1,j,none⟩) hXr).trans (HXF.out j)⟩
      case measure=>simp[intOf];omega
    ·obtain rfl:k=es.length:=by omega
     rw[List.take_length] at hx2 HOW2
     have RR0:=(grown_cell (o:=0) HGW.out (show w.heap.size+1<w5.heap.size by omega) (by omega)).trans (HB3.out.cell (p:=⟨w.heap.size+1,0,none⟩) (show w.heap.size+1<W0.heap.size by omega))
     have RR1:=(grown_cell (o:=1) HGW.out (show w.heap.size+1<w5.heap.size by omega) (by omega)).trans (HB3.out.cell (p:=⟨w.heap.size+1,1,none⟩) (show w.heap.size+1<W0.heap.size by omega))
     have RR2:=(grown_cell (o:=2) HGW.out (show w.heap.size+1<w5.heap.size by omega) (by omega)).trans (HB3.out.cell (p:=⟨w.heap.size+1,2,none⟩) (show w.heap.size+1<W0.heap.size by omega))
     have rrf: ∀j,wr.frozen? ⟨w.heap.size+1,j,none⟩=false:=fun j=>((grown_frozen (o:=j) HGW.out (show w.heap.size+1<w5.heap.size by omega) (by omega)).trans (HB3.out.frozen (p:=⟨w.heap.size+1,j,none⟩) (show w.heap.size+1<W0.heap.size by omega))).trans (RF.out j)
     obtain⟨u0,hu0⟩:=R0.out
     obtain⟨u1,hu1⟩:=R1.out
     obtain⟨u2,hu2⟩:=R2.out
     have rr0:=RR0.trans hu0
     have rr1:=RR1.trans hu1
     have rr2:=RR2.trans hu2
     have hx0:=HX0.out
     have hx1:=HX1.out
     have rf0:=rrf 0
     have rf1:=rrf 1
     have rf2:=rrf 2
     have hRw:w.heap.size+1<wr.heap.size:=by omega
     clear RR0 RR1 RR2 hu0 hu1 hu2 rrf
     generalize hL:srt cmpE (rnL es o)=L at*
     have HLL:=hD hL
     clear hL
     go_wp2
     have c0:(((wr.setCell ⟨w.heap.size+1,0,none⟩ (.int .i64 r)).setCell ⟨w.heap.size+1,1,none⟩ (.int .i64 o.length)).setCell ⟨w.heap.size+1,2,none⟩ (.slice A2 L.length cap2)).cell? ⟨w.heap.size+1,0,none⟩=some (.int .i64 r):=by
      rw[World.cell?_setCell_other _ _ _ _ (by simp),World.cell?_setCell_other _ _ _ _ (by simp),World.cell?_setCell_same _ _ _ rr0]
     have c1:(((wr.setCell ⟨w.heap.size+1,0,none⟩ (.int .i64 r)).setCell ⟨w.heap.size+1,1,none⟩ (.int .i64 o.length)).setCell ⟨w.heap.size+1,2,none⟩ (.slice A2 L.length cap2)).cell? ⟨w.heap.size+1,1,none⟩=some (.int .i64 o.length):=by
      rw[World.cell?_setCell_other _ _ _ _ (by simp)]
      exact World.cell?_setCell_same _ _ _ ((World.cell?_setCell_other _ _ _ _ (by simp)).trans rr1)
     have c2:(((wr.setCell ⟨w.heap.size+1,0,none⟩ (.int .i64 r)).setCell ⟨w.heap.size+1,1,none⟩ (.int .i64 o.length)).setCell ⟨w.heap.size+1,2,none⟩ (.slice A2 L.length cap2)).cell? ⟨w.heap.size+1,2,none⟩=some (.slice A2 L.length cap2):=
      World.cell?_setCell_same _ _ _ ((World.cell?_setCell_other _ _ _ _ (by simp)).trans ((World.cell?_setCell_other _ _ _ _ (by simp)).trans rr2))
     have bw:Below w.heap.size w (((wr.setCell ⟨w.heap.size+1,0,none⟩ (.int .i64 r)).setCell ⟨w.heap.size+1,1,none⟩ (.int .i64 o.length)).setCell ⟨w.heap.size+1,2,none⟩ (.slice A2 L.length cap2)):=(by repeat(first | exact Below.refl _ _ | (refine Below.setCell ?_ (by first | omega | (simp<;>omega)) _) | (refine bel_drewN ?_ _) | (refine Below.drew ?_) | (refine Below.alloc ?_ (by first | omega | (simp<;>omega)) _) | (refine Below.trans ?_ (Below.mono (Hid.out HBw2) (by first | omega | (simp<;>omega))))))
     have ow:OwE (((wr.setCell ⟨w.heap.size+1,0,none⟩ (.int .i64 r)).setCell ⟨w.heap.size+1,1,none⟩ (.int .i64 o.length)).setCell ⟨w.heap.size+1,2,none⟩ (.slice A2 L.length cap2)) (w.heap.size+1+1+1) (.slice A2 L.length cap2) L:=
      ((HOW2.out.far (by show w.heap.size+1<_;omega) _).far (by show w.heap.size+1<_;omega) _).far (by show w.heap.size+1<_;omega) _
     generalize ((wr.setCell ⟨w.heap.size+1,0,none⟩ (.int .i64 r)).setCell ⟨w.heap.size+1,1,none⟩ (.int .i64 o.length)).setCell ⟨w.heap.size+1,2,none⟩ (.slice A2 L.length cap2)=wf at*
     refine bodyPost_ret (v:= .tuple #[.agg #[.int .i64 r, .int .i64 o.length, .slice A2 L.length cap2], .bool true]) (by simp[results,Tryz.results122,go_sem,c0,c1,c2]) rfl ⟨_,rfl,⟨.slice A2 L.length cap2,?_,?_,?_,?_⟩,bw⟩
     ·rfl
     ·show I64 r
      unfold I64
      omega
     ·show I64 (o.length:Int)
      unfold I64
      omega
     ·show OwE wf w.heap.size (.slice A2 L.length cap2) (srt cmpE (rnL es o))
      rw[HLL.out]
      exact ow.mono (by omega)
theorem specRenumber_any (v vo:Value) (g:GrD) (o:List Int) (w:World) (h:ArgG w v g) (ho:RdI w vo o) (hg:grB g=true) (hok:OrdOk g.2.1 o):
  Calls Tryz.prog 122 #[v,vo] w fun e w'=> ∃r,e= .returned (.tuple #[r, .bool true])∧OwG w' w.heap.size r (rnG g o)∧Below w.heap.size w w':=specRenumber_anyN v vo g o w h ho hg hok.toN
end Go.Proofs.YtfadnkjlilhneaaGreat
namespace Go.Proofs.YtfadnkjlilhneaaGreat
set_option maxRecDepth 20000
set_option linter.unusedVariables false
set_option linter.unusedSimpArgs false
open Go.RowKit
theorem grB_of {g:GrD} (h1:1≤g.1∧g.1≤3) (h2:1≤g.2.1∧g.2.1≤40) (h3:g.2.2.length≤120) (hs:Srt cmpE g.2.2)
  (he: ∀e∈g.2.2,(0≤e.1∧e.1<g.2.1)∧(1≤e.2.1∧e.2.1≤g.1)∧(0≤e.2.2∧e.2.2<g.2.1)):grB g=true:=by
 have hw:wrap64 (g.2.1-1)=g.2.1-1:=by unfold wrap64;omega
 have ho: ∀k (hk:k<g.2.2.length),edgeOk g.1 g.2.1 g.2.2[k]=true:=fun k hk=>by
  obtain⟨⟨a1,a2⟩,⟨b1,b2⟩,c1,c2⟩:=he g.2.2[k] (by simp)
  unfold edgeOk
  rw[hw]
  simp only[Bool.and_eq_true]
  exact⟨⟨inB_iff.2 ⟨by omega,by omega⟩,inB_iff.2 ⟨by omega,by omega⟩⟩,inB_iff.2 ⟨by omega,by omega⟩⟩
 unfold grB
 simp only[Bool.and_eq_true,decide_eq_true_eq,List.all_eq_true,List.mem_range]
 refine⟨⟨⟨inB_iff.2 h1,inB_iff.2 h2⟩,h3⟩,fun k hk=> ?_⟩
 rcases Nat.eq_zero_or_pos k with rfl | h0
 ·rw[okE_zero hk];exact ho 0 hk
 ·rw[okE_pos h0 hk,ho k hk]
  have:=(List.pairwise_iff_getElem.1 hs) (k-1) k (by omega) hk (by omega)
  simp only[Bool.true_and,Bool.not_eq_true',decide_eq_false_iff_not]
  omega
theorem rnE_ok {o:List Int} {r n:Int} {e x:EdD} (he:(0≤e.1∧e.1<n)∧(1≤e.2.1∧e.2.1≤r)∧(0≤e.2.2∧e.2.2<n)) (h:rnE o e=some x):
  (0≤x.1∧x.1<o.length)∧(1≤x.2.1∧x.2.1≤r)∧(0≤x.2.2∧x.2.2<o.length):=by
 unfold rnE at h
 split at h
 ·rename_i hp
  injection h with h
  subst h
  have h1:=plv_range o e.1
  have h2:=plv_range o e.2.2
  simp only
  omega
 ·cases h
theorem grB_rnGN {g:GrD} {o:List Int} (hg:grB g=true) (ho:OrdN g.2.1 o):grB (rnG g o)=true:=by
 obtain⟨h1,h2,h3,_⟩:=grB_parts hg
 have hol:o.length≤g.2.1.toNat:=nodup_len g.2.1.toNat o ho.1 fun y hy=>by have:=ho.2.1 y hy;omega
 have hol1:1≤o.length:=ho.2.2
 have hsp:=srt_spec cmpE_ord (rnL g.2.2 o)
 refine grB_of h1 ⟨by show(1:Int)≤(o.length:Int);omega,by show(o.length:Int)≤40;omega⟩ ?_ hsp.1 fun e he=> ?_
 ·have a:=srt_len (c:=cmpE) (rnL g.2.2 o)
  have b:=rnL_len g.2.2 o
  show(srt cmpE (rnL g.2.2 o)).length≤120
  omega
 ·have hm:=(hsp.2 e).1 he
  unfold rnL at hm
  obtain⟨d,hd,hx⟩:=List.mem_filterMap.1 hm
  exact rnE_ok (edge_of_gr hg hd) hx
theorem grB_rnG {g:GrD} {o:List Int} (hg:grB g=true) (ho:OrdOk g.2.1 o):grB (rnG g o)=true:=grB_rnGN hg ho.toN
def delO (n:Nat) (x:Int):List Int:=((List.range n).map fun v=>((v:Nat):Int)).filter fun y=>decide (y≠x)
theorem delO_succ (n:Nat) (x:Int):delO (n+1) x=if(n:Int)≠x then delO n x++ [(n:Int)] else delO n x:=by
 unfold delO
 rw[List.range_succ,List.map_append,List.filter_append]
 by_cases h:(n:Int)=x<;>simp[h]
theorem delO_mem {n:Nat} {x y:Int}:y∈delO n x↔(0≤y∧y<n)∧y≠x:=by
 unfold delO
 simp only[List.mem_filter,List.mem_map,List.mem_range,decide_eq_true_eq]
 constructor
 ·rintro⟨⟨v,hv,rfl⟩,h⟩
  exact⟨⟨by omega,by omega⟩,h⟩
 ·rintro⟨⟨h0,h1⟩,h⟩
  exact⟨⟨y.toNat,by omega,by omega⟩,h⟩
theorem delO_nodup (n:Nat) (x:Int):(delO n x).Nodup:=by
 induction n with
 | zero=>exact List.nodup_nil
 | succ n ih=>
   rw[delO_succ]
   split
   ·rw[List.nodup_append]
    refine⟨ih,by simp,fun a ha b hb e=> ?_⟩
    have:=(delO_mem.1 ha).1.2
    simp only[List.mem_singleton] at hb
    omega
   ·exact ih
theorem delO_head {n:Nat} {x:Int} (hn:1≤n) (hx:1≤x):(delO n x)[0]? =some 0:=by
 obtain⟨m,rfl⟩: ∃m,n=m+1:=⟨n-1,by omega⟩
 induction m with
 | zero=>
   rw[delO_succ,if_pos (by omega)]
   rfl
 | succ m ih=>
   rw[delO_succ]
   have:=ih (by omega)
   split
   ·rw[List.getElem?_append_left (by
     cases h:delO (m+1) x with
     | nil=>rw[h] at this;cases this
     | cons _ _=>simp)]
    exact this
   ·exact this
theorem delO_ok {n:Nat} {x:Int} (hn:1≤n) (hx:1≤x):OrdOk (n:Int) (delO n x):=
 ⟨delO_nodup n x,fun y hy=>(delO_mem.1 hy).1,delO_head hn hx⟩
theorem delO_len {n:Nat} {x:Int} (hx:0≤x) (hxn:x<n):(delO n x).length+1≤n:=by
 have h1:(delO n x).length≤n-1:=by
  have hn:=delO_nodup n x
  have key:=nodup_len (n-1) ((delO n x).map fun y=>if y<x then y else y-1) ?_ ?_
  ·rwa [List.length_map] at key
  ·unfold List.Nodup at*
   rw[List.pairwise_map]
   refine hn.imp_of_mem fun {a b} ha hb hab e=>hab ?_
   have h1:=(delO_mem.1 ha).2
   have h2:=(delO_mem.1 hb).2
   split at e<;>split at e<;>omega
  ·intro y hy
   obtain⟨z,hz,rfl⟩:=List.mem_map.1 hy
   obtain⟨⟨a,b⟩,c⟩:=delO_mem.1 hz
   split<;>omega
 omega
theorem leafFrom_range (es:List EdD) (n:Nat): ∀f v:Nat,leafFrom es n f v= -1∨((v:Int)≤leafFrom es n f v∧leafFrom es n f v<n)
 | 0,v=> .inl rfl
 | f+1,v=>by
   unfold leafFrom
   split
   ·split
    ·right;omega
    ·rcases leafFrom_range es n f (v+1) with h | h
     ·exact .inl h
     ·right;omega
   ·exact .inl rfl
theorem leafV_range (es:List EdD) (n:Nat):leafV es n= -1∨(1≤leafV es n∧leafV es n<n):=by
 have:=leafFrom_range es n (n-1) 1
 unfold leafV
 omega
end Go.Proofs.YtfadnkjlilhneaaGreat
namespace Go.Proofs.YtfadnkjlilhneaaGreat
set_option maxRecDepth 20000
set_option linter.unusedVariables false
set_option linter.unusedSimpArgs false
open Go.RowKit
theorem letters_mem {r:Nat} {x:Int}:x∈lettersL r↔(1≤x∧x≤r)∨(-(r:Int)≤x∧x≤ -1):=by
 induction r with
 | zero=>simp[lettersL];omega
 | succ n ih=>
   unfold lettersL
   rw[List.mem_append,ih]
   simp
   omega
theorem nextV_mem {es:List EdD} {v x:Int} (h:0≤nextV es v x): ∃e∈es,mt v x e=some (nextV es v x):=by
 unfold nextV at*
 cases hs:stepsL es v x with
 | nil=>rw[hs] at h;simp at h
 | cons y l=>
   have hy:y∈stepsL es v x:=by rw[hs];simp
   unfold stepsL at hy
   obtain⟨e,he,hm⟩:=List.mem_filterMap.1 hy
   exact⟨e,he,by simpa using hm⟩
theorem nextV_of {es:List EdD} (hf:Fol es) {v x y:Int} {e:EdD} (he:e∈es) (hm:mt v x e=some y):nextV es v x=y:=by
 have hy:y∈stepsL es v x:=List.mem_filterMap.2 ⟨e,he,hm⟩
 have h1:=steps_one hf v x
 unfold nextV
 cases hs:stepsL es v x with
 | nil=>rw[hs] at hy;simp at hy
 | cons z l=>
   rw[hs] at h1 hy
   have:l= []:=by simpa using h1
   subst this
   simp at hy
   simp[hy]
theorem nextV_back {g:GrD} (hg:grB g=true) (hf:Fol g.2.2) {v x:Int} (hx: -3≤x∧x≤3) (h:0≤nextV g.2.2 v x):nextV g.2.2 (nextV g.2.2 v x) (-x)=v:=by
 obtain⟨e,he,hm⟩:=nextV_mem h
 refine nextV_of hf he ?_
 generalize nextV g.2.2 v x=y at*
 have hw1:wrap64 (-x)= -x:=IntWalk.wrap64_in _ ⟨by omega,by omega⟩
 have hw2:wrap64 (- -x)=x:=by rw[Int.neg_neg];exact IntWalk.wrap64_in _ ⟨by omega,by omega⟩
 unfold mt at hm⊢
 by_cases hp:0<x
 ·rw[if_pos hp] at hm
  split at hm
  ·rename_i a
   injection hm with hm
   rw[if_neg (by omega),if_pos (by omega),hw2,if_pos ⟨a.1,hm⟩,a.2]
  ·cases hm
 ·rw[if_neg hp] at hm
  by_cases hn:x<0
  ·rw[if_pos hn,hw1] at hm
   split at hm
   ·rename_i a
    injection hm with hm
    rw[if_pos (by omega),if_pos ⟨a.1,hm⟩,a.2]
   ·cases hm
  ·rw[if_neg hn] at hm;cases hm
def walkF (es:List EdD):Int→List Int→Int
 | v,[]=>v
 | v,x::w=>if nextV es v x<0 then-1 else walkF es (nextV es v x) w
theorem walkF_step (es:List EdD) (v:Int) (w:List Int) (k:Nat) (h:k<w.length):walkF es v (w.drop k)=if nextV es v w[k]<0 then-1 else walkF es (nextV es v w[k]) (w.drop (k+1)):=by
 rw[List.drop_eq_getElem_cons h]
 rfl
set_option maxHeartbeats 1000000 in
theorem walkWord_any (v vw:Value) (g:GrD) (u:Int) (ws:List Int) (w:World) (h:ArgG w v g) (hw:RdI w vw ws) (hf:foldB g=true) (hu:0≤u∧u<g.2.1):
  Calls Tryz.prog 81 #[v, .int .i64 u,vw] w fun e w'=>e= .returned (.tuple #[.int .i64 (walkF g.2.2 u ws), .bool (decide (0≤walkF g.2.2 u ws))])∧Below w.heap.size w w':=by
 have HG:=hD h
 have HW:=hD hw
 have HF:=hD hf
 obtain⟨hg,hfol⟩:=foldB_parts hf
 have ONE:=hD (steps_one hfol)
 obtain⟨hr13,hsz40,hl120,_⟩:=grB_parts hg
 have NV:Hid (∀v x,nextV g.2.2 v x= -1∨(0≤nextV g.2.2 v x∧nextV g.2.2 v x<g.2.1)):=hD fun v x=>nextV_range hg v x
 have hin:inB u 0 (wrap64 (g.2.1-1))=true:=by
  rw[IntWalk.wrap64_in _ ⟨by omega,by omega⟩]
  exact inB_iff.2 ⟨hu.1,by omega⟩
 have hsub:IntKind.i64.wrap (g.2.1-1)=g.2.1-1:=by rw[IntKind.wrap_i64];omega
 have hin':inB u 0 (g.2.1-1)=true:=inB_iff.2 ⟨hu.1,by omega⟩
 have HIN:=hD hin
 have HIN2:=hD hin'
 obtain⟨s,rfl,hi1,hi2,ha⟩:=h
 obtain⟨A,cap,rfl⟩:=ha.form
 obtain⟨Aw,capw,rfl,hcw,hmw,_⟩:=hw.arg
 unfold maxLen at hmw
 clear hf hg hfol ha hw hin hin'
 have HR:Hid (walkF g.2.2 u ws=walkF g.2.2 u (ws.drop 0)):=hD (by rw[List.drop_zero])
 generalize walkF g.2.2 u ws=R at*
 go_enter Tryz.func81,Tryz.ntmps81
 go_wp2_with fail
 have bx:Below w.heap.size w (w.alloc (Obj.cells #[Value.int IntKind.i64 g.1,Value.int IntKind.i64 g.2.1, .slice A g.2.2.length cap] 31)):=(by repeat(first | exact Below.refl _ _ | (refine Below.setCell ?_ (by first | omega | (simp<;>omega)) _) | (refine bel_drewN ?_ _) | (refine Below.drew ?_) | (refine Below.alloc ?_ (by first | omega | (simp<;>omega)) _)))
 have l0:(w.alloc (Obj.cells #[Value.int IntKind.i64 g.1,Value.int IntKind.i64 g.2.1, .slice A g.2.2.length cap] 31)).cell? ⟨w.heap.size,0,none⟩=some (.int .i64 g.1):=by simp[go_sem]
 have l1:(w.alloc (Obj.cells #[Value.int IntKind.i64 g.1,Value.int IntKind.i64 g.2.1, .slice A g.2.2.length cap] 31)).cell? ⟨w.heap.size,1,none⟩=some (.int .i64 g.2.1):=by simp[go_sem]
 have l2:(w.alloc (Obj.cells #[Value.int IntKind.i64 g.1,Value.int IntKind.i64 g.2.1, .slice A g.2.2.length cap] 31)).cell? ⟨w.heap.size,2,none⟩=some (.slice A g.2.2.length cap):=by simp[go_sem]
 have sA:w.heap.size<(w.alloc (Obj.cells #[Value.int IntKind.i64 g.1,Value.int IntKind.i64 g.2.1, .slice A g.2.2.length cap] 31)).heap.size:=by simp
 generalize w.alloc (Obj.cells #[Value.int IntKind.i64 g.1,Value.int IntKind.i64 g.2.1, .slice A g.2.2.length cap] 31)=W at bx l0 l1 l2 sA⊢
 have BX:=hD bx
 have HA:Hid (∀w',Below W.heap.size W w'→ArgG w' (.agg #[.int .i64 g.1, .int .i64 g.2.1, .slice A g.2.2.length cap]) g):=hD fun w' hb=>HG.out.below (BX.out.trans (hb.mono (by omega)))
 have hif:=specIsFolded_any _ g W (HA.out _ (Below.refl _ _))
 rw[HF.out] at hif
 have HIF:=hD hif
 clear bx hif
 refine HIF.out.mono ?_
 rintro e w1 ⟨rfl,b1⟩
 have q0:=(b1.cell (p:=⟨w.heap.size,0,none⟩) sA).trans l0
 have q1:=(b1.cell (p:=⟨w.heap.size,1,none⟩) sA).trans l1
 have q2:=(b1.cell (p:=⟨w.heap.size,2,none⟩) sA).trans l2
 have BW:=hD b1
 have L0:=hD l0
 have L1:=hD l1
 have L2:=hD l2
 clear b1 HIF l0 l1 l2
 go_wp2_with fail
 refine(l1In_any _ _ _ _).mono ?_
 rintro e w2 ⟨rfl,rfl⟩
 simp only[HIN2.out]
 go_wp2
 go_loopw [1,8] (fun a i wr=> ∃(k:Nat) (u':Int),k≤ws.length∧i= .int .i64 k∧a= .int .i64 u'∧(0≤u'∧u'<g.2.1)∧R=walkF g.2.2 u' (ws.drop k)∧Below W.heap.size W wr) (fun _ i _=>ws.length-(intOf i).toNat)
 case atStart=>exact⟨0,u,Nat.zero_le _,rfl,rfl,hu,HR.out,BW.out⟩
 case round=>
  obtain⟨k,u',hk,rfl,rfl,hu',hR,hbel⟩:=hrel
  have HB:=hD hbel
  have HRk:=hD hR
  have hs:=hbel.size
  have q0:=(hbel.cell (p:=⟨w.heap.size,0,none⟩) sA).trans L0.out
  have q1:=(hbel.cell (p:=⟨w.heap.size,1,none⟩) sA).trans L1.out
  have q2:=(hbel.cell (p:=⟨w.heap.size,2,none⟩) sA).trans L2.out
  have hwr:w.heap.size<wr.heap.size:=by omega
  by_cases hlt:k<ws.length
  ·have HRW:=hD (HW.out.below (BX.out.trans (hbel.mono (by omega))))
   obtain⟨bw,offw,rfl,hbw,hcw2⟩:=HRW.out.at (by omega)
   have c0:=hcw2 k hlt
   have ST:=hD (walkF_step g.2.2 u' ws k hlt)
   generalize ws[k]=x at c0 ST
   have NX:=hD (NV.out u' x)
   have HNX:=hD (fun W' (h:ArgG W' (.agg #[.int .i64 g.1, .int .i64 g.2.1, .slice A g.2.2.length cap]) g)=>specNextVertex_any _ g u' x W' h (ONE.out u' x))
   clear hbel hR hcw2
   go_wp2_with fail
   have f0:=BelW.cell q0 hwr
   have f1:=BelW.cell q1 hwr
   have f2:=BelW.cell q2 hwr
   have f3:=BelW.cell c0 hbw
   (refine wp_region_quiet_bel (by kernel_rfl) (by kernel_rfl) ?_;(repeat(go_big_quiet_step (first | (go_at_call 58;exact Calls.bel_of (HNX.out _ (HA.out _ (HB.out.trans ((BelW.h _).mono (by omega)))))))));refine wpQuiet_nil ?_;intro wq hw';obtain⟨pq,hw''⟩:=hw';have bq:=pq.h;rw[←hw''] at bq;clear hw'' pq)
   clear f0 f1 f2 f3 q0 q1 q2 c0
   have HQ:=hD (HB.out.trans (bq.mono (by omega)))
   have sq:=bq.size
   clear bq
   generalize nextV g.2.2 u' x=y at*
   rcases NX.out with hy | hy
   ·subst hy
    have F:Hid (R= -1):=hD (by rw[HRk.out,ST.out];rfl)
    go_wp2
    exact bodyPost_ret (v:= .tuple #[.int .i64 (-1), .bool false]) (by simp[results,Tryz.results81]) rfl ⟨by rw[F.out];rfl,BX.out.trans (HQ.out.mono (by omega))⟩
   ·have hy0: ¬y<0:=by omega
    have F:Hid (R=walkF g.2.2 y (ws.drop (k+1))):=hD (by rw[HRk.out,ST.out,if_neg hy0])
    go_wp2
    go_roundw
    case rel=>exact⟨k+1,y,by omega,by go_num,rfl,hy,F.out,HQ.out⟩
    case measure=>simp[intOf];omega
  ·obtain rfl:k=ws.length:=by omega
   have F:Hid (R=u'):=hD (by rw[HRk.out,List.drop_length];rfl)
   have hd:Hid (decide (0≤u')=true):=hD (by simp[hu'.1])
   clear hbel hR
   go_wp2
   exact bodyPost_ret (v:= .tuple #[.int .i64 u', .bool true]) (by simp[results,Tryz.results81]) rfl ⟨by rw[F.out,hd.out],BX.out.trans (HB.out.mono (by omega))⟩
end Go.Proofs.YtfadnkjlilhneaaGreat
namespace Go.Proofs.YtfadnkjlilhneaaGreat
set_option maxRecDepth 20000
set_option linter.unusedVariables false
set_option linter.unusedSimpArgs false
open Go.RowKit
set_option maxHeartbeats 400000 in
theorem copyInts_any (v:Value) (xs:List Int) (w:World) (h:RdI w v xs) (hl:xs.length≤1073741824):
  Calls Tryz.prog 136 #[v] w fun e w'=> ∃r,e= .returned r∧OwI w' w.heap.size r xs∧Below w.heap.size w w':=by
 have H:=hD h
 obtain⟨A,cap,rfl,_⟩:=h.arg
 clear h
 go_enter Tryz.func136,Tryz.ntmps136
 go_wp2_with (at_builtin;refine append_ints rfl (.tmp 3) (.tmp 4) rfl w.heap.size _ [] (OwI_lit _ [] I64s_nil (by simp) (Nat.le_refl _)) rfl _ _ (H.out.alloc _) rfl (by simp;omega) (by simp) ?_;intro v1 w1 o1 g1 p1)
 go_ret
 exact⟨_,rfl,by simpa using o1,((Below.refl _ _).alloc (Nat.le_refl _) _).grown g1 (by simp) (fun k hk=>by simp[Value.ownBlock] at hk;omega)⟩
end Go.Proofs.YtfadnkjlilhneaaGreat
namespace Go.Proofs.YtfadnkjlilhneaaGreat
set_option maxRecDepth 20000
set_option linter.unusedVariables false
set_option linter.unusedSimpArgs false
open Go.RowKit
set_option maxHeartbeats 400000 in
theorem ins1_any (v:Value) (n:Int) (w:World) (hn:n=0∨n=1):
  Calls Tryz.prog 159 #[v, .int .i64 0, .int .i64 n] w fun e w'=>e= .returned (.tuple #[])∧w=w':=by
 rcases hn with rfl | rfl
 all_goals (
  go_enter Tryz.func159,Tryz.ntmps159
  go_wp2
  refine wp_loop_rounds 1 ?_
  rw[rounds_succ]
  go_wp2
  go_end0
  exact⟨rfl,rfl⟩)
set_option maxHeartbeats 1000000 in
theorem len64_any (n:Int) (w:World) (hn:n=0∨n=1):
  Calls Tryz.prog 154 #[.int .u64 n] w fun e w'=>(∃l:Int,e= .returned (.int .i64 l))∧w=w':=by
 rcases hn with rfl | rfl
 ·go_enter Tryz.func154,Tryz.ntmps154
  go_wp2
  go_ret
  exact⟨⟨_,rfl⟩,rfl⟩
 ·go_enter Tryz.func154,Tryz.ntmps154
  go_wp2
  go_ret
  exact⟨⟨_,rfl⟩,rfl⟩
set_option maxHeartbeats 400000 in
theorem len1_any (n:Int) (w:World) (hn:n=0∨n=1):
  Calls Tryz.prog 134 #[.int .u64 n] w fun e w'=>(∃l:Int,e= .returned (.int .i64 l))∧w=w':=by
 have h:=len64_any n w hn
 have HN:=hD h
 clear h
 rcases hn with rfl | rfl
 all_goals (
  go_enter Tryz.func134,Tryz.ntmps134
  go_wp2_with fail
  refine HN.out.mono ?_
  rintro e w' ⟨⟨l,rfl⟩,rfl⟩
  go_wp2
  go_ret
  exact⟨⟨_,rfl⟩,rfl⟩)
set_option maxHeartbeats 400000 in
theorem pdq1_any (v:Value) (n:Int) (l:Int) (w:World) (hn:n=0∨n=1):
  Calls Tryz.prog 144 #[v, .int .i64 0, .int .i64 n, .int .i64 l] w fun e w'=>e= .returned (.tuple #[])∧w=w':=by
 have h:=ins1_any v n w hn
 have HN:=hD h
 clear h
 rcases hn with rfl | rfl
 all_goals (
  go_enter Tryz.func144,Tryz.ntmps144
  go_wp2
  refine wp_loop_rounds 1 ?_
  rw[rounds_succ]
  go_wp2_with fail
  refine HN.out.mono ?_
  rintro e w' ⟨rfl,rfl⟩
  go_wp2
  exact bodyPost_ret (v:= .tuple #[]) (by simp[results,Tryz.results144,go_sem]) rfl ⟨rfl,rfl⟩)
set_option maxHeartbeats 400000 in
theorem sort1_any (v:Value) (xs:List Int) (w:World) (h:RdI w v xs) (hn:xs.length≤1):
  Calls Tryz.prog 131 #[v] w fun e w'=>e= .returned (.tuple #[])∧w=w':=by
 obtain⟨A,cap,rfl,_⟩:=h.arg
 have hn1:(xs.length:Int)=0∨(xs.length:Int)=1:=by omega
 have H1:=hD (len1_any (xs.length:Int) w hn1)
 have H2:=hD (fun l=>pdq1_any (.slice A xs.length cap) (xs.length:Int) l w hn1)
 have hw:IntKind.u64.wrap (xs.length:Int)=(xs.length:Int):=by
  rcases hn1 with h | h<;>rw[h]<;>decide+kernel
 clear hn1 h
 go_enter Tryz.func131,Tryz.ntmps131
 go_wp2_with fail
 refine H1.out.mono ?_
 rintro e w' ⟨⟨l,rfl⟩,rfl⟩
 go_wp2_with fail
 refine(H2.out l).mono ?_
 rintro e w' ⟨rfl,rfl⟩
 go_wp2
 go_end0
 exact⟨rfl,rfl⟩
set_option maxHeartbeats 400000 in
theorem compact1_any (A:Option Addr) (n cap:Nat) (w:World) (hn:n≤1):
  Calls Tryz.prog 132 #[.slice A n cap] w fun e w'=>e= .returned (.slice A n cap)∧w=w':=by
 have h1:(n:Int)<2:=by omega
 go_enter Tryz.func132,Tryz.ntmps132
 go_wp2
 go_ret
 exact⟨rfl,rfl⟩
set_option maxHeartbeats 2000000 in
theorem implStepsFrom_any (v:Value) (g:GrD) (u x:Int) (w:World) (h:ArgG w v g) (hone:(stepsL g.2.2 u x).length≤1) (hlet: ∀e∈g.2.2,1≤e.2.1):
  Calls Tryz.prog 105 #[v, .int .i64 u, .int .i64 x] w fun e w'=> ∃r,e= .returned r∧OwI w' w.heap.size r (stepsL g.2.2 u x)∧Below w.heap.size w w':=by
 obtain⟨s,rfl,_,_,ha⟩:=h
 have H:=hD ha
 obtain⟨A,cap,rfl,hcap,hm,_,hr,_⟩:=ha
 have HR:=hD hr
 unfold maxLen at hm
 clear hr
 have HLET:=hD hlet
 clear hlet
 go_enter Tryz.func105,Tryz.ntmps105
 go_wp2
 have hb:Below w.heap.size w ((w.alloc (Obj.cells #[Value.int IntKind.i64 g.1,Value.int IntKind.i64 g.2.1, .slice A g.2.2.length cap] 31)).alloc (Obj.cells #[] 3)):=(by repeat(first | exact Below.refl _ _ | (refine Below.setCell ?_ (by first | omega | (simp<;>omega)) _) | (refine bel_drewN ?_ _) | (refine Below.drew ?_) | (refine Below.alloc ?_ (by first | omega | (simp<;>omega)) _)))
 have k2:((w.alloc (Obj.cells #[Value.int IntKind.i64 g.1,Value.int IntKind.i64 g.2.1, .slice A g.2.2.length cap] 31)).alloc (Obj.cells #[] 3)).cell? ⟨w.heap.size,2,none⟩=some (.slice A g.2.2.length cap):=by simp[go_sem]
 have hs0:w.heap.size+1<((w.alloc (Obj.cells #[Value.int IntKind.i64 g.1,Value.int IntKind.i64 g.2.1, .slice A g.2.2.length cap] 31)).alloc (Obj.cells #[] 3)).heap.size:=by simp
 have o0:OwI ((w.alloc (Obj.cells #[Value.int IntKind.i64 g.1,Value.int IntKind.i64 g.2.1, .slice A g.2.2.length cap] 31)).alloc (Obj.cells #[] 3)) (w.heap.size+1) (.slice (some ⟨w.heap.size+1,0,none⟩) 0 0) []:=OwI_litN (w.alloc (Obj.cells #[Value.int IntKind.i64 g.1,Value.int IntKind.i64 g.2.1, .slice A g.2.2.length cap] 31)) [] (w.heap.size+1) (by simp) I64s_nil (by simp) (Nat.le_refl _)
 generalize (w.alloc (Obj.cells #[Value.int IntKind.i64 g.1,Value.int IntKind.i64 g.2.1, .slice A g.2.2.length cap] 31)).alloc (Obj.cells #[] 3)=w1 at hb k2 hs0 o0⊢
 have HB:=hD hb
 have K2:=hD k2
 have O0:=hD o0
 clear hb k2 o0
 go_loopw [7,14] (fun out i wr=> ∃k:Nat,k≤g.2.2.length∧i= .int .i64 k∧OwI wr (w.heap.size+1) out (stepsL (g.2.2.take k) u x)∧Below (w.heap.size+1) w1 wr) (fun _ i _=>g.2.2.length-(intOf i).toNat)
 case atStart=>exact⟨0,Nat.zero_le _,rfl,O0.out,Below.refl _ _⟩
 case round=>
  obtain⟨k,hk,rfl,hown,hbel⟩:=hrel
  have hsz:=hbel.size
  have HB3:=hD (HB.out.trans (hbel.mono (by omega)))
  have p2:=(hbel.cell (p:=⟨w.heap.size,2,none⟩) (show w.heap.size<w.heap.size+1 by omega)).trans K2.out
  have HO:=hD hown
  have HB2:=hD hbel
  obtain⟨A1,cap1,rfl,hcap1,hm1,_,_⟩:=hown.form
  clear hbel
  by_cases hlt:k<g.2.2.length
  ·obtain⟨b,off,rfl,hbl,c0,c1,c2,_⟩:=(H.out.below HB3.out).at hlt
   have HS:=hD (stepsL_succ g.2.2 u x k hlt)
   have HX:=hD (HR.out g.2.2[k] (by simp))
   have HLE:=hD (HLET.out g.2.2[k] (by simp))
   have hl1:=stepsL_take g.2.2 u x (k+1)
   have hl0:(stepsL (g.2.2.take k) u x).length≤1:=by have:=stepsL_take g.2.2 u x k;omega
   have HL1:Hid ((stepsL (g.2.2.take (k+1)) u x).length≤1):=hD (by omega)
   clear hl1 hown
   generalize g.2.2[k]=e at*
   obtain⟨f,l,t⟩:=e
   simp only at c0 c1 c2
   have keep:mt u x (f,l,t)=none→stepsL (g.2.2.take (k+1)) u x=stepsL (g.2.2.take k) u x:=fun e=>by rw[HS.out,e];simp
   have KE:=hD keep
   have put: ∀y,mt u x (f,l,t)=some y→stepsL (g.2.2.take k) u x= []∧stepsL (g.2.2.take (k+1)) u x= [y]:=fun y e=>by
    have h1:=HS.out
    have h2:=HL1.out
    rw[e] at h1
    rw[h1] at h2
    simp at h2
    refine⟨h2,by rw[h1,h2];rfl⟩
   have PU:=hD put
   clear keep put
   by_cases hp:0<x
   ·have hn: ¬x<0:=by omega
    rcases e1:(l==x) with _ | _
    ·have F:=hD (KE.out (by simp at e1;simp[mt,hp,e1]))
     go_wp2
     go_roundw
     case rel=>exact⟨k+1,by omega,by go_num,by rw[F.out];exact HO.out.alloc _,HB2.out.alloc (by omega) _⟩
     case measure=>simp[intOf];omega
    ·rcases e2:(f==u) with _ | _
     ·have F:=hD (KE.out (by simp at e2;simp[mt,hp,e2]))
      go_wp2
      go_roundw
      case rel=>exact⟨k+1,by omega,by go_num,by rw[F.out];exact HO.out.alloc _,HB2.out.alloc (by omega) _⟩
      case measure=>simp[intOf];omega
     ·have F:=hD (PU.out t (by simp at e1 e2;simp[mt,hp,e1,e2]))
      go_wp2_with (at_builtin;refine push_int rfl (.tmp 33) (.tmp 36) rfl _ _ _ (OwI.alloc (OwI.alloc HO.out _) _) rfl (wr.heap.size+1) t rfl (by simp[go_sem]) HX.out.2.2 (by omega) (by simp;omega) ?_;intro v9 wv9 o9 g9 p9)
      go_roundw
      case rel=>exact⟨k+1,by omega,by go_num,by have:=o9;rw[F.out.1] at this;rw[F.out.2];exact this,bel_push (B:=w.heap.size+1) (HB2.out.alloc (by omega) _) (by simp;omega) (OwI.alloc HO.out _).1 (Nat.le_refl _) g9⟩
      case measure=>simp[intOf];omega
   ·by_cases hn:x<0
    ·rcases e0:(x != -9223372036854775808) with _ | _
     ·have hx0:x= -9223372036854775808:=by simpa using e0
      have F:=hD (KE.out (by
       have h1:wrap64 (-x)= -9223372036854775808:=by rw[hx0];decide+kernel
       have h2:=HLE.out
       unfold mt
       rw[if_neg hp,if_pos hn,h1,if_neg (fun h=>by have:=h.1;simp only at this;omega)]))
      go_wp2
      go_roundw
      case rel=>exact⟨k+1,by omega,by go_num,by rw[F.out];exact HO.out.alloc _,HB2.out.alloc (by omega) _⟩
      case measure=>simp[intOf];omega
     rcases e1:(l==wrap64 (-x)) with _ | _
     ·have F:=hD (KE.out (by simp at e1;simp[mt,hp,hn,e1]))
      go_wp2
      go_roundw
      case rel=>exact⟨k+1,by omega,by go_num,by rw[F.out];exact HO.out.alloc _,HB2.out.alloc (by omega) _⟩
      case measure=>simp[intOf];omega
     ·rcases e2:(t==u) with _ | _
      ·have F:=hD (KE.out (by simp at e2;simp[mt,hp,hn,e2]))
       go_wp2
       go_roundw
       case rel=>exact⟨k+1,by omega,by go_num,by rw[F.out];exact HO.out.alloc _,HB2.out.alloc (by omega) _⟩
       case measure=>simp[intOf];omega
      ·have F:=hD (PU.out f (by simp at e1 e2;simp[mt,hp,hn,e1,e2]))
       go_wp2_with (at_builtin;refine push_int rfl (.tmp 58) (.tmp 61) rfl _ _ _ (OwI.alloc (OwI.alloc HO.out _) _) rfl (wr.heap.size+1) f rfl (by simp[go_sem]) HX.out.1 (by omega) (by simp;omega) ?_;intro v9 wv9 o9 g9 p9)
       go_roundw
       case rel=>exact⟨k+1,by omega,by go_num,by have:=o9;rw[F.out.1] at this;rw[F.out.2];exact this,bel_push (B:=w.heap.size+1) (HB2.out.alloc (by omega) _) (by simp;omega) (OwI.alloc HO.out _).1 (Nat.le_refl _) g9⟩
       case measure=>simp[intOf];omega
    ·have F:=hD (KE.out (by simp[mt,hp,hn]))
     go_wp2
     go_roundw
     case rel=>exact⟨k+1,by omega,by go_num,by rw[F.out];exact HO.out.alloc _,HB2.out.alloc (by omega) _⟩
     case measure=>simp[intOf];omega
  ·obtain rfl:k=g.2.2.length:=by omega
   clear hown
   rw[List.take_length]
   rw[List.take_length] at HO hcap1
   have hn1:(stepsL g.2.2 u x).length≤1:=hone
   go_wp2_with fail
   refine(sort1_any _ _ _ HO.out.rd hn1).mono ?_
   rintro e wz ⟨rfl,rfl⟩
   go_wp2_with fail
   refine(compact1_any _ _ _ _ hn1).mono ?_
   rintro e wz ⟨rfl,rfl⟩
   go_wp2
   go_ret
   exact⟨_,rfl,HO.out.mono (base':=w.heap.size) (by omega),HB3.out⟩
set_option maxHeartbeats 1000000 in
theorem implNextVertex_any (v:Value) (g:GrD) (u x:Int) (w:World) (h:ArgG w v g) (hone:(stepsL g.2.2 u x).length≤1) (hlet: ∀e∈g.2.2,1≤e.2.1):
  Calls Tryz.prog 67 #[v, .int .i64 u, .int .i64 x] w fun e w'=>e= .returned (.int .i64 (nextV g.2.2 u x))∧Below w.heap.size w w':=by
 have H:=hD h
 obtain⟨s,rfl,_,_,ha⟩:=h
 obtain⟨A,cap,rfl⟩:=ha.form
 obtain⟨R,hR⟩: ∃R,R=nextV g.2.2 u x:=⟨_,rfl⟩
 rw[←hR]
 unfold nextV at hR
 have HR:=hD hR
 clear hR
 go_enter Tryz.func67,Tryz.ntmps67
 go_wp2_with fail
 have hb:Below w.heap.size w (w.alloc (Obj.cells #[Value.int IntKind.i64 g.1,Value.int IntKind.i64 g.2.1, .slice A g.2.2.length cap] 31)):=(by repeat(first | exact Below.refl _ _ | (refine Below.setCell ?_ (by first | omega | (simp<;>omega)) _) | (refine bel_drewN ?_ _) | (refine Below.drew ?_) | (refine Below.alloc ?_ (by first | omega | (simp<;>omega)) _)))
 refine(implStepsFrom_any _ g u x _ (H.out.below hb) hone hlet).mono ?_
 rintro e w1 ⟨r,rfl,o1,b1⟩
 have B1:=hD (hb.trans (b1.mono hb.size))
 generalize stepsL g.2.2 u x=L at o1 HR
 clear hb b1 ha
 obtain⟨A1,cap1,rfl,hc1,hm1,_,_⟩:=o1.form
 match L,o1,HR with
 | [],o1,HR=>
   have F:Hid (R= -1):=HR
   clear o1
   go_wp2
   go_ret
   exact⟨ret_int F.out.symm,B1.out⟩
 | y::L,o1,HR=>
   obtain rfl:R=y:=HR.out
   clear HR
   obtain⟨b,off,rfl,hbl,hc⟩:=o1.rd.at (by simp)
   have c0:=hc 0 (by simp)
   simp only[List.getElem_cons_zero,Nat.add_zero] at c0
   clear o1 hc
   go_wp2
   go_ret
   exact⟨rfl,B1.out⟩
structure TreeW (bb P N:Nat) (w:World) (ord:Value) (o:List Int):Prop where
 ex: ∃vs:List Value,vs.length=N∧w.ownsRow bb 26 1 (.slice (some ⟨P,0,none⟩) N N) N vs∧ ∀(j:Nat) (hj:j<vs.length),
  ((j:Int)∉o∧vs[j]= .slice none 0 0)∨((j:Int)∈o∧ ∃(b cap:Nat) (ws:List Int),vs[j]= .slice (some ⟨b,0,none⟩) ws.length cap∧ws.length≤o.length∧RdI w vs[j] ws∧b≠P∧ord.ownBlock≠some b∧b<w.heap.size)
 ne:ord.ownBlock≠some P
section
variable {bb P N:Nat} {w w':World} {ord:Value} {o:List Int}
theorem TreeW.lt (h:TreeW bb P N w ord o):bb≤P∧P<w.heap.size:=by
 obtain⟨vs,_,h2,_⟩:=h.ex
 exact h2.lt P rfl
theorem TreeW.at_new (h:TreeW bb P N w ord o) {y:Nat} (hy:y<N) (hn:(y:Int)∉o):w.cell? ⟨P,y,none⟩=some (.slice none 0 0):=by
 obtain⟨vs,h1,h2,h3⟩:=h.ex
 rw[World.ownsRow.cellAt h2 y (by omega)]
 rcases h3 y (by omega) with ⟨_,h4⟩ | ⟨h4,_⟩
 ·rw[List.getElem?_eq_getElem (by omega),h4]
 ·exact absurd h4 hn
theorem TreeW.at_old (h:TreeW bb P N w ord o) {y:Nat} (hy:y<N) (hn:(y:Int)∈o):
  ∃(b cap:Nat) (ws:List Int),w.cell? ⟨P,y,none⟩=some (.slice (some ⟨b,0,none⟩) ws.length cap)∧ws.length≤o.length∧RdI w (.slice (some ⟨b,0,none⟩) ws.length cap) ws:=by
 obtain⟨vs,h1,h2,h3⟩:=h.ex
 rw[World.ownsRow.cellAt h2 y (by omega)]
 rcases h3 y (by omega) with ⟨h4,_⟩ | ⟨_,b,cap,ws,e1,e2,e3,_⟩
 ·exact absurd hn h4
 ·rw[e1] at e3
  exact⟨b,cap,ws,by rw[List.getElem?_eq_getElem (by omega),e1],e2,e3⟩
theorem TreeW.free (h:TreeW bb P N w ord o) (j:Nat):w.frozen? ⟨P,j,none⟩=false:=by
 obtain⟨vs,h1,h2,h3⟩:=h.ex
 exact World.ownsRow.frozenAt h2 j
theorem TreeW.below (h:TreeW bb P N w ord o) (hb:Below w.heap.size w w'):TreeW bb P N w' ord o:=by
 obtain⟨vs,h1,h2,h3⟩:=h.ex
 refine⟨⟨vs,h1,ownsRow_below h2 hb,fun j hj=> ?_⟩,h.ne⟩
 rcases h3 j hj with h4 | ⟨h4,b,cap,ws,e1,e2,e3,e4,e5,e6⟩
 ·exact .inl h4
 ·exact .inr ⟨h4,b,cap,ws,e1,e2,e3.below hb,e4,e5,by have:=hb.size;omega⟩
theorem TreeW.set (h:TreeW bb P N w ord o) {y:Nat} (hy:y<N) {b cap:Nat} {ws:List Int} (hr:RdI w (.slice (some ⟨b,0,none⟩) ws.length cap) ws) (hl:ws.length≤o.length+1) (hb:b≠P) (ho:ord.ownBlock≠some b) (hlt:b<w.heap.size):
  TreeW bb P N (w.setCell ⟨P,y,none⟩ (.slice (some ⟨b,0,none⟩) ws.length cap)) ord (o++ [(y:Int)]):=by
 obtain⟨vs,h1,h2,h3⟩:=h.ex
 obtain⟨s1,s2⟩:=World.ownsRow.stored h2 y (.slice (some ⟨b,0,none⟩) ws.length cap)
 have hsz:(w.setCell ⟨P,y,none⟩ (.slice (some ⟨b,0,none⟩) ws.length cap)).heap.size=w.heap.size:=by simp
 have hg:w.grownBy (w.setCell ⟨P,y,none⟩ (.slice (some ⟨b,0,none⟩) ws.length cap)) (some P):=set_grown _ _ _ _
 refine⟨⟨_,by simpa using h1,s1,fun j hj=> ?_⟩,h.ne⟩
 have hj':j<vs.length:=by simpa using hj
 by_cases hjy:j=y
 ·subst hjy
  refine .inr ⟨by simp,b,cap,ws,by simp,by simp;omega,?_,hb,ho,by omega⟩
  rw[List.getElem_set_self]
  exact hr.grown hg fun x hx hx'=>by simp[Value.ownBlock] at hx hx';omega
 ·rw[List.getElem_set_ne (Ne.symm hjy)]
  rcases h3 j hj' with ⟨h4,h5⟩ | ⟨h4,b',cap',ws',e1,e2,e3,e4,e5,e6⟩
  ·refine .inl ⟨?_,h5⟩
   rw[List.mem_append,List.mem_singleton]
   rintro(h6 | h6)
   ·exact h4 h6
   ·omega
  ·refine .inr ⟨List.mem_append_left _ h4,b',cap',ws',e1,by simp;omega,e3.grown hg fun x hx hx'=> ?_,e4,e5,by omega⟩
   rw[e1] at hx
   simp[Value.ownBlock] at hx hx'
   omega
theorem TreeW.lit (h:TreeW bb P N w (.slice none 0 0) o) (ob:Obj) (n c:Nat):TreeW bb P N (w.alloc ob) (.slice (some ⟨w.heap.size,0,none⟩) n c) o:=by
 have hlt:=h.lt
 obtain⟨vs,h1,h2,h3⟩:=h.ex
 refine⟨⟨vs,h1,ownsRow_below h2 ((Below.refl w.heap.size w).alloc (Nat.le_refl _) ob),fun j hj=> ?_⟩,by simp[Value.ownBlock];omega⟩
 rcases h3 j hj with h4 | ⟨h4,b,cap,ws,e1,e2,e3,e4,e5,e6⟩
 ·exact .inl h4
 ·exact .inr ⟨h4,b,cap,ws,e1,e2,e3.alloc _,e4,by simp[Value.ownBlock];omega,by simp;omega⟩
theorem TreeW.push (h:TreeW bb P N w ord o) {w9:World} {v9:Value} {ob:Obj} (hg:(w.alloc ob).grownBy w9 ord.ownBlock) (hp:v9.ownBlock=ord.ownBlock∨v9.ownBlock=some (w.alloc ob).heap.size):TreeW bb P N w9 v9 o:=by
 have hlt:=h.lt
 have h':=h.below ((Below.refl w.heap.size w).alloc (Nat.le_refl _) ob)
 obtain⟨vs,h1,h2,h3⟩:=h'.ex
 have hs:(w.alloc ob).heap.size=w.heap.size+1:=by simp
 have hs9:=hg.size
 refine⟨⟨vs,h1,h2.kept hg (.inr fun e=>h.ne e.symm),fun j hj=> ?_⟩,?_⟩
 ·rcases h3 j hj with h4 | ⟨h4,b,cap,ws,e1,e2,e3,e4,e5,e6⟩
  ·exact .inl h4
  ·refine .inr ⟨h4,b,cap,ws,e1,e2,e3.grown hg fun x hx hx'=> ?_,e4,?_,by omega⟩
   ·rw[e1] at hx
    simp only[Value.ownBlock,Option.some.injEq] at hx
    subst hx
    exact e5 hx'
   ·rcases hp with hp | hp
    ·rw[hp];exact e5
    ·rw[hp]
     intro e
     injection e with e
     omega
 ·rcases hp with hp | hp
  ·rw[hp];exact h.ne
  ·rw[hp]
   intro e
   injection e with e
   omega
end
theorem ints_info':(Tryz.prog.info? 26).map (fun i=>(i.zero,i.size,i.bytes))=some (some (.slice none 0 0),1,24):=by kernel_rfl
set_option maxHeartbeats 1000000 in
theorem tree_any (v:Value) (g:GrD) (w:World) (h:ArgG w v g) (hf:foldB g=true):
  Calls Tryz.prog 110 #[v, .int .i64 0] w fun e w'=> ∃r s,e= .returned (.tuple #[r,s])∧OwI w' w.heap.size r (canO g)∧Below w.heap.size w w':=by
 have HG:=hD h
 obtain⟨hg,hfol⟩:=foldB_parts hf
 have ONE:=hD (steps_one hfol)
 have LET:=hD (let_of_gr hg)
 obtain⟨hr13,hsz40,hl120,_⟩:=grB_parts hg
 obtain⟨A,cap,hv⟩: ∃A cap,v= .agg #[.int .i64 g.1, .int .i64 g.2.1, .slice A g.2.2.length cap]:=by
  obtain⟨s,hv,_,_,ha⟩:=h
  obtain⟨A,cap,rfl⟩:=ha.form
  exact⟨A,cap,hv⟩
 subst hv
 obtain⟨N,hN⟩: ∃N:Nat,g.2.1=(N:Int):=⟨g.2.1.toNat,by omega⟩
 obtain⟨rn,hrn⟩: ∃rn:Nat,g.1=(rn:Int):=⟨g.1.toNat,by omega⟩
 have hrn1:1≤rn:=by omega
 have hrn3:rn≤3:=by omega
 have hN1:1≤N:=by omega
 have hN2:N≤40:=by omega
 have HCO:Hid (canO g=canF g.2.2 (lettersL rn) 41 0 [0]):=hD (by unfold canO;rw[hrn];rfl)
 have OK0:=hD (OrdOk.one (n:=g.2.1) (by omega))
 have OKS:Hid (∀(u:Int) (o:List Int) (k:Nat),OrdOk g.2.1 o→OrdOk g.2.1 (((lettersL rn).take k).foldl (cstep g.2.2 u) o)):=hD fun u o k h=>cfold_take_ok hg _ k h
 have OKL:Hid (∀o:List Int,OrdOk g.2.1 o→o.length≤40):=hD fun o h=>h.len (by omega) (by omega)
 have OKR:Hid (∀o:List Int,OrdOk g.2.1 o→ ∀y∈o,0≤y∧y<N):=hD fun o h y hy=>by have:=h.2.1 y hy;omega
 have NV:Hid (∀u x,nextV g.2.2 u x= -1∨(0≤nextV g.2.2 u x∧nextV g.2.2 u x<N)):=hD fun u x=>by
  rcases nextV_range hg u x with e | e
  ·exact .inl e
  ·exact .inr ⟨e.1,by omega⟩
 have hll:=lettersL_len rn
 have HLE:Hid (∀W:World,Calls Tryz.prog 66 #[.int .i64 g.1] W fun e w'=> ∃r,e= .returned r∧OwI w' W.heap.size r (lettersL rn)∧Below W.heap.size W w'):=hD fun W=>by
  rw[hrn]
  exact letters_any rn W (by omega)
 generalize lettersL rn=ls at*
 rw[hN] at HG
 clear hg hf hfol h hrn
 have hr1:1≤g.1∧g.1≤3:=hr13
 clear hsz40 hl120 hr13
 rw[hN]
 have bx:Below w.heap.size w (w.alloc (Obj.cells #[Value.int IntKind.i64 g.1,Value.int IntKind.i64 N, .slice A g.2.2.length cap] 31)):=(by repeat(first | exact Below.refl _ _ | (refine Below.setCell ?_ (by first | omega | (simp<;>omega)) _) | (refine bel_drewN ?_ _) | (refine Below.drew ?_) | (refine Below.alloc ?_ (by first | omega | (simp<;>omega)) _)))
 have k0:(w.alloc (Obj.cells #[Value.int IntKind.i64 g.1,Value.int IntKind.i64 N, .slice A g.2.2.length cap] 31)).cell? ⟨w.heap.size,0,none⟩=some (.int .i64 g.1):=by simp[go_sem]
 have k1:(w.alloc (Obj.cells #[Value.int IntKind.i64 g.1,Value.int IntKind.i64 N, .slice A g.2.2.length cap] 31)).cell? ⟨w.heap.size,1,none⟩=some (.int .i64 N):=by simp[go_sem]
 have k2:(w.alloc (Obj.cells #[Value.int IntKind.i64 g.1,Value.int IntKind.i64 N, .slice A g.2.2.length cap] 31)).cell? ⟨w.heap.size,2,none⟩=some (.slice A g.2.2.length cap):=by simp[go_sem]
 have sx:w.heap.size<(w.alloc (Obj.cells #[Value.int IntKind.i64 g.1,Value.int IntKind.i64 N, .slice A g.2.2.length cap] 31)).heap.size:=by simp
 have ex:(w.alloc (Obj.cells #[Value.int IntKind.i64 g.1,Value.int IntKind.i64 N, .slice A g.2.2.length cap] 31)).heap.size=w.heap.size+1:=by simp
 have qT: ∀(w:World) (a:Option Addr) (n c n' c':Nat),(binOp .eql 26 (.slice a n c) (.slice none n' c')).run Tryz.prog w= .ok (.bool a.isNone) w:=fun w a n c n' c'=>Lib.run_eql_slice_nil w _ _ a n c n' c' Tryz.underlying26
 go_enter Tryz.func110,Tryz.ntmps110
 obtain⟨i0,hi0,hz0,hz1,hz2⟩:=info_parts ints_info'
 go_wp2_with (at_make;refine wpList_make_full _ rfl _ _ 57 rfl (w.heap.size+1) 26 i0 (.slice none 0 0) 1 Tryz.underlying57 hi0 hz0 hz1 _ _ _ _ N rfl rfl rfl rfl (by rw[hz2];omega) (by unfold maxLen;omega) (by simp) ?_)
 generalize w.alloc (Obj.cells #[Value.int IntKind.i64 g.1,Value.int IntKind.i64 N, .slice A g.2.2.length cap] 31)=w1 at bx k0 k1 k2 sx ex⊢
 rw[←ex]
 have BX:=hD bx
 have K0:=hD k0
 have K1:=hD k1
 have K2:=hD k2
 have EX:=hD ex
 clear k0 k1 k2 bx ex
 intro w2 hown0 hgrow0
 have hP2:w1.heap.size<w2.heap.size:=(hown0.lt w1.heap.size rfl).2
 have B12:Below w1.heap.size w1 w2:=(Below.refl w1.heap.size w1).grown hgrow0 (Nat.le_refl _) (fun k h=>by cases h)
 have TW0:TreeW w1.heap.size w1.heap.size N w2 (.slice none 0 0) []:=⟨⟨List.replicate N (.slice none 0 0),by simp,by simpa[toList_madeCells_one] using hown0,fun j hj=> .inl ⟨by simp,by simp⟩⟩,by simp[Value.ownBlock]⟩
 have TW1:TreeW w1.heap.size w1.heap.size N (w2.alloc (.cells #[] 3)) (.slice none 0 0) []:=TW0.below ((Below.refl _ _).alloc (Nat.le_refl _) _)
 have oE:OwI (w2.alloc (.cells #[] 3)) w2.heap.size (.slice (some ⟨w2.heap.size,0,none⟩) 0 0) []:=OwI_lit w2 [] (fun _ h=>by cases h) (by simp) (Nat.le_refl _)
 have TW2:=TW1.set (y:=0) (by omega) (b:=w2.heap.size) (cap:=0) (ws:= []) oE.rd (by simp) (by omega) (by simp[Value.ownBlock]) (by simp)
 have hc0:=TW1.at_new (y:=0) (by omega) (by simp)
 have hf0:=TW1.free 0
 have j1:(0:Int)<(N:Int):=by omega
 have TWH:=hD TW2
 have B13:Hid (Below w1.heap.size w1 ((w2.alloc (.cells #[] 3)).setCell ⟨w1.heap.size,0,none⟩ (.slice (some ⟨w2.heap.size,0,none⟩) 0 0))):=hD ((B12.alloc (by omega) _).setCell (by show w1.heap.size≤w1.heap.size;omega) _)
 clear TW0 TW1 TW2 oE hown0 hgrow0 B12
 go_wp2
 have oO:OwI (((w2.alloc (.cells #[] 3)).setCell ⟨w1.heap.size,0,none⟩ (.slice (some ⟨w2.heap.size,0,none⟩) 0 0)).alloc (.cells #[Value.int IntKind.i64 0] 3)) (w1.heap.size+1) (.slice (some ⟨w2.heap.size+1,0,none⟩) 1 1) [0]:=OwI_litN _ [0] (w2.heap.size+1) (by simp) (fun x hx=>by simp at hx;subst hx;exact⟨by decide,by decide⟩) (by simp) (by omega)
 have TWL:=TWH.out.lit (.cells #[Value.int IntKind.i64 0] 3) 1 1
 have B14:Below w1.heap.size w1 (((w2.alloc (.cells #[] 3)).setCell ⟨w1.heap.size,0,none⟩ (.slice (some ⟨w2.heap.size,0,none⟩) 0 0)).alloc (.cells #[Value.int IntKind.i64 0] 3)):=B13.out.alloc (by simp;omega) _
 have e3:((w2.alloc (.cells #[] 3)).setCell ⟨w1.heap.size,0,none⟩ (.slice (some ⟨w2.heap.size,0,none⟩) 0 0)).heap.size=w2.heap.size+1:=by simp
 simp only[List.length_nil,List.nil_append] at TWL
 rw[e3] at TWL
 have hsw:(w2.alloc (.cells #[] 3)).setCell ⟨w1.heap.size,0,none⟩ (.slice (some ⟨w2.heap.size,0,none⟩) 0 0)=(w2.setCell ⟨w1.heap.size,0,none⟩ (.slice (some ⟨w2.heap.size,0,none⟩) 0 0)).alloc (.cells #[] 3):=World.setCell_alloc_past _ _ _ _ hP2
 rw[hsw] at oO TWL B14
 generalize ((w2.setCell ⟨w1.heap.size,0,none⟩ (.slice (some ⟨w2.heap.size,0,none⟩) 0 0)).alloc (.cells #[] 3)).alloc (.cells #[Value.int IntKind.i64 0] 3)=w3 at oO TWL B14⊢
 have OO:=hD oO
 have TW:=hD TWL
 have HB0:=hD B14
 clear oO TWL B14 e3 hc0 hf0 TWH B13
 go_loopw [7,8] (fun out i wo=> ∃(k:Nat) (o:List Int),k≤o.length∧i= .int .i64 k∧OrdOk g.2.1 o∧canO g=canF g.2.2 ls (41-k) k o∧OwI wo (w1.heap.size+1) out o∧TreeW w1.heap.size w1.heap.size N wo out o∧Below w1.heap.size w1 wo) (fun _ i _=>41-(intOf i).toNat)
 case atStart=>exact⟨0,[0],by simp,rfl,OK0.out,HCO.out,OO.out,TW.out,HB0.out⟩
 case round=>
  obtain⟨k,o,hk,rfl,hok,hco,hown,htw,hbel⟩:=hrel
  obtain⟨wo,rfl⟩: ∃wo:World,wo=wr:=⟨_,rfl⟩
  have hol:=OKL.out o hok
  have HOK:=hD hok
  have HC:=hD hco
  have HO:=hD hown
  have HTW:=hD htw
  have HB2:=hD hbel
  have hsz:=hbel.size
  have q0:=(hbel.cell (p:=⟨w.heap.size,0,none⟩) sx).trans K0.out
  obtain⟨A1,cap1,rfl,_,_,_,hf2⟩:=hown.form
  clear hok hco htw hbel
  by_cases hlt:k<o.length
  ·obtain⟨u,hu⟩: ∃u,o[k]? =some u:=⟨o[k],by simp⟩
   have hku:o[k]=u:=by rw[List.getElem?_eq_getElem hlt] at hu;injection hu
   have HCF:Hid (canO g=canF g.2.2 ls (41-(k+1)) (k+1) (ls.foldl (cstep g.2.2 u) o)):=hD (by
    rw[HC.out,show 41-k=(41-(k+1))+1 by omega,canF_step _ _ _ _ _ hlt,hku])
   have HPU:Hid (∀m:Nat,(((ls.take m).foldl (cstep g.2.2 u) o))[k]? =some u):=hD fun m=>cfold_prefix _ _ _ _ _ _ hu
   have HSU:Hid (∀(m:Nat) (hm:m<ls.length),(ls.take (m+1)).foldl (cstep g.2.2 u) o=cstep g.2.2 u ((ls.take m).foldl (cstep g.2.2 u) o) ls[m]):=hD fun m hm=>cfold_succ _ _ _ _ _ hm
   have HOKm:Hid (∀m:Nat,OrdOk g.2.1 ((ls.take m).foldl (cstep g.2.2 u) o)):=hD fun m=>OKS.out u o m HOK.out
   obtain⟨un,hun,hunN⟩: ∃un:Nat,u=(un:Int)∧un<N:=by
    have h1:=HOK.out.2.1 u (by rw[←hku];simp)
    exact⟨u.toNat,by omega,by omega⟩
   obtain⟨b1,rfl,_,hb1⟩:=hf2 (by omega)
   have ck:=hown.cellAt k hlt
   rw[hku] at ck
   have HUN:=hD hun
   clear hf2 hu hku hown hun
   go_wp2_with fail
   refine(HLE.out wo).mono ?_
   rintro e wl ⟨rl,rfl,ol,bl⟩
   have sl:=bl.size
   obtain⟨Al,capl,rfl,hcl,hml,_,hfl⟩:=ol.form
   obtain⟨gl,rfl,hgl1,hgl2⟩:=hfl (by omega)
   unfold maxLen at hml
   have OL:=hD ol.rd
   have BL:=hD bl
   have HO3:=hD (HO.out.below bl)
   have HT3:=hD (HTW.out.below bl)
   have hne1:b1≠gl:=by omega
   clear hfl ol bl
   go_wp2
   go_loopw [7,36] (fun out j wr=> ∃m:Nat,m≤ls.length∧j= .int .i64 m∧OwI wr (w1.heap.size+1) out ((ls.take m).foldl (cstep g.2.2 u) o)∧TreeW w1.heap.size w1.heap.size N wr out ((ls.take m).foldl (cstep g.2.2 u) o)∧RdI wr (.slice (some ⟨gl,0,none⟩) ls.length capl) ls∧out.ownBlock≠some gl∧gl≠w1.heap.size∧gl<wr.heap.size∧Below w1.heap.size wl wr) (fun _ j _=>ls.length-(intOf j).toNat)
   case atStart=>exact⟨0,Nat.zero_le _,rfl,HO3.out,HT3.out,OL.out,by simp[Value.ownBlock];omega,by have:=HTW.out.lt;omega,hgl2,Below.refl _ _⟩
   case round=>
    obtain⟨m,hm1,rfl,hown,htw,hrd,hne,hnP,hblr,hbi⟩:=hrel
    have hsi:=hbi.size
    have HBI:=hD hbi
    have HB4:Hid (Below w1.heap.size w1 wr):=hD ((HB2.out.trans (BL.out.mono (by omega))).trans hbi)
    have p0:=(HB4.out.cell (p:=⟨w.heap.size,0,none⟩) sx).trans K0.out
    have p1:=(HB4.out.cell (p:=⟨w.heap.size,1,none⟩) sx).trans K1.out
    have p2:=(HB4.out.cell (p:=⟨w.heap.size,2,none⟩) sx).trans K2.out
    have HRR:=hD hrd
    have HNR:=hD hne
    have HTW2:=hD htw
    clear hbi htw
    by_cases hlt2:m<ls.length
    ·have hokm:=HOKm.out m
     have hlm:=OKL.out _ hokm
     have hpu:=HPU.out m
     have HS:=hD (HSU.out m hlt2)
     have HORm:=hD (OKR.out _ hokm)
     obtain⟨_,_,hAl,_,hcl⟩:=hrd.at (by omega)
     obtain⟨rfl,rfl⟩:gl=_∧0=_:=by simpa using hAl
     have c0:=hcl m hlt2
     rw[Nat.zero_add] at c0
     have hx64:I64 ls[m]:=hrd.2 _ (by simp)
     generalize ls[m]=x at c0 HS hx64
     have HX:=hD hx64
     generalize (ls.take m).foldl (cstep g.2.2 u) o=om at*
     have hum:u∈om:=List.mem_of_getElem? hpu
     have HUM:=hD hum
     have HOM:=hD hown
     have NX:=hD (NV.out u x)
     have N0:=hD (cstep_no (es:=g.2.2) (u:=u) (x:=x) (o:=om))
     have N1:=hD (cstep_in (es:=g.2.2) (u:=u) (x:=x) (o:=om))
     have N2:=hD (cstep_new (es:=g.2.2) (u:=u) (x:=x) (o:=om))
     have HNX:=hD (implNextVertex_any _ g u x wr (HG.out.below (BX.out.trans (HB4.out.mono (by omega)))) (ONE.out u x) LET.out)
     clear hcl hAl hown hrd hpu hokm hx64 hum
     go_wp2_with fail
     refine HNX.out.mono ?_
     rintro e wq ⟨rfl,bq⟩
     clear HNX
     have sq:=bq.size
     have HQ:Hid (Below w1.heap.size wl wq):=hD (HBI.out.trans (bq.mono (by omega)))
     have HOQ:=hD (HOM.out.below bq)
     have HRQ:=hD (HRR.out.below bq)
     have HTQ:=hD (HTW2.out.below bq)
     clear bq p0 p1 p2
     generalize nextV g.2.2 u x=y at*
     rcases NX.out with hy | hy
     ·subst hy
      have F:=hD (N0.out (by omega))
      go_wp2
      go_roundw
      case rel=>exact⟨m+1,by omega,by go_num,by rw[HS.out,F.out];exact HOQ.out,by rw[HS.out,F.out];exact HTQ.out,HRQ.out,HNR.out,hnP,by omega,HQ.out⟩
      case measure=>simp[intOf];omega
     ·obtain⟨yn,rfl⟩: ∃yn:Nat,y=(yn:Int):=⟨y.toNat,by omega⟩
      have hy0:(0:Int)≤(yn:Int):=hy.1
      have hyN:(yn:Int)<(N:Int):=hy.2
      have hynN:yn<N:=by omega
      rcases h1:hasB om (yn:Int) with _ | _
      ·have F:=hD (N2.out hy0 h1)
       have HY:Hid (I64 (yn:Int)):=hD ⟨by omega,by omega⟩
       have hnotin:(yn:Int)∉om:=hasB_not h1
       have ct:=HTQ.out.at_new hynN hnotin
       have ft:=HTQ.out.free yn
       obtain⟨bu,capu,wu,cu,hwul,hru⟩:=HTQ.out.at_old hunN (by rw[←HUN.out];exact HUM.out)
       have HRU:=hD hru
       have huN':u<(N:Int):=by rw[HUN.out];omega
       have hu0':(0:Int)≤u:=by rw[HUN.out];omega
       have cu':wq.cell? ⟨w1.heap.size,u.toNat,none⟩=some (.slice (some ⟨bu,0,none⟩) wu.length capu):=by rw[HUN.out];exact cu
       clear hru hnotin
       go_wp2_with fail
       refine(copyInts_any _ wu _ HRU.out (by omega)).mono ?_
       rintro e wc ⟨rc,rfl,oc,bc⟩
       have sc:=bc.size
       have OC:=hD oc
       have BC:=hD bc
       have hPq:=HTQ.out.lt.2
       have hneT:=HTQ.out.ne
       have hA2: ∀x,u7.ownBlock=some x→x<wq.heap.size:=fun x hx=>(HOQ.out.1.lt x hx).2
       have HA2:=hD hA2
       have CT:=hD ct
       have FT:=hD ft
       obtain⟨Ac,capc,rfl,_⟩:=OwI.form oc
       clear oc bc ct ft hA2
       go_wp2_with (first | ((at_builtin;refine push_int rfl (.tmp 59) (.tmp 61) rfl _ _ _ (OwI.alloc OC.out _) rfl _ _ rfl (cell_new1 _ _ _) HX.out (by first | omega | (simp<;>omega)) (by first | omega | (simp<;>omega)) ?_;intro v8 wv8 o8 g8 p8);obtain⟨A8,cap8,rfl,hl8,hm8,_,hf8⟩:=OwI.form o8;obtain⟨b8,rfl,hb81,hb82⟩:=hf8 (by simp);have B8:Below wq.heap.size wq wv8:=bel_push BC.out sc OC.out.1 (Nat.le_refl _) g8;have ct3:=(B8.cell (p:=⟨w1.heap.size,yn,none⟩) hPq).trans CT.out;have ft3:=(B8.frozen (p:=⟨w1.heap.size,yn,none⟩) hPq).trans FT.out;have hts:=(HTQ.out.below B8).set hynN o8.rd (by simp;omega) (by omega) (fun e=>by have:=HA2.out _ e;omega) hb82;have s8:=B8.size;have HB8:=hD B8;simp only[List.length_append,List.length_cons,List.length_nil,Nat.zero_add] at hts;have HTS:=hD hts;clear o8 g8 p8 hf8 B8 hts;have hgS:wv8.grownBy (wv8.setCell ⟨w1.heap.size,yn,none⟩ (.slice (some ⟨b8,0,none⟩) (wu.length+1) cap8)) (some w1.heap.size):=set_grown _ _ _ _;have HOS:Hid (OwI (wv8.setCell ⟨w1.heap.size,yn,none⟩ (.slice (some ⟨b8,0,none⟩) (wu.length+1) cap8)) (w1.heap.size+1) u7 om):=hD ((HOQ.out.below HB8.out).far (p:=⟨w1.heap.size,yn,none⟩) (by show w1.heap.size<_;omega) _);have HRS:Hid (RdI (wv8.setCell ⟨w1.heap.size,yn,none⟩ (.slice (some ⟨b8,0,none⟩) (wu.length+1) cap8)) (.slice (some ⟨gl,0,none⟩) ls.length capl) ls):=hD ((HRQ.out.below HB8.out).grown hgS fun b hb hb'=>by simp[Value.ownBlock] at hb hb';omega);have HBS:Hid (Below w1.heap.size wl (wv8.setCell ⟨w1.heap.size,yn,none⟩ (.slice (some ⟨b8,0,none⟩) (wu.length+1) cap8))):=hD ((HQ.out.trans (HB8.out.mono (by omega))).setCell (by show w1.heap.size≤w1.heap.size;omega) _);clear hgS) | (at_builtin;refine push_int rfl (.tmp 64) (.tmp 66) rfl _ _ _ (OwI.alloc HOS.out _) rfl _ _ rfl (by simp[go_sem]) HY.out (by first | omega | (simp<;>omega)) (by first | omega | (simp<;>omega)) ?_;intro v9 wv9 o9 g9 p9))
       have hS:(wv8.setCell ⟨w1.heap.size,yn,none⟩ (.slice (some ⟨b8,0,none⟩) (wu.length+1) cap8)).heap.size=wv8.heap.size:=by simp
       have hz9:=g9.size
       simp at hz9
       go_roundw
       case rel=>
        refine⟨m+1,by omega,by go_num,by rw[HS.out,F.out];exact o9,by rw[HS.out,F.out];exact HTS.out.push g9 p9,(HRS.out.alloc _).grown g9 (fun b hb hb'=> ?_),fun e=> ?_,hnP,by omega,bel_push HBS.out (by omega) HOS.out.1 (by omega) g9⟩
        ·simp only[Value.ownBlock,Option.some.injEq] at hb
         subst hb
         exact HNR.out hb'
        ·rcases p9 with p9 | p9
         ·rw[p9] at e;exact HNR.out e
         ·rw[p9] at e;simp at e;omega
       case measure=>simp[intOf];omega
      ·have F:=hD (N1.out hy0 h1)
       obtain⟨bu,capu,wu,cu,hwul,hru⟩:=HTQ.out.at_old hynN (hasB_iff.1 h1)
       clear hru
       go_wp2
       go_roundw
       case rel=>exact⟨m+1,by omega,by go_num,by rw[HS.out,F.out];exact HOQ.out,by rw[HS.out,F.out];exact HTQ.out,HRQ.out,HNR.out,hnP,by omega,HQ.out⟩
       case measure=>simp[intOf];omega
    ·obtain rfl:m=ls.length:=by omega
     rw[List.take_length] at hown HTW2
     have hokm:=HOKm.out ls.length
     rw[List.take_length] at hokm
     have HOKF:=hD hokm
     have HOM:=hD hown
     have hlen:k+1≤(ls.foldl (cstep g.2.2 u) o).length:=by
      have:=HPU.out ls.length
      rw[List.take_length] at this
      have:=(List.getElem?_eq_some_iff.1 this).1
      omega
     obtain⟨A2,cap2,rfl,_⟩:=hown.form
     clear hown hrd hne hokm p0 p1 p2
     go_wp2
     go_roundw
     case rel=>exact⟨k+1,_,hlen,by go_num,HOKF.out,HCF.out,HOM.out,HTW2.out,HB4.out⟩
     case measure=>simp[intOf];omega
  ·obtain rfl:k=o.length:=by omega
   have F:Hid (canO g=o):=hD (by rw[HC.out,canF_end])
   clear hown hf2
   have HBW:Hid (Below w.heap.size w wo):=hD (BX.out.trans (HB2.out.mono (by omega)))
   have HEX:=EX.out
   have hbase:w.heap.size≤w1.heap.size+1:=by omega
   clear HEX
   go_wp2
   exact bodyPost_ret (v:= .tuple #[.slice A1 o.length cap1, .slice (some ⟨w1.heap.size,0,none⟩) N N]) (by simp[results,Tryz.results110]) rfl ⟨_,_,rfl,by rw[F.out];exact HO.out.mono hbase,HBW.out⟩
end Go.Proofs.YtfadnkjlilhneaaGreat
namespace Go.Proofs.YtfadnkjlilhneaaGreat
set_option maxRecDepth 20000
set_option linter.unusedVariables false
set_option linter.unusedSimpArgs false
open Go.RowKit
def readF (es:List EdD):Int→List Int→Int×Nat
 | v,[]=>(v,0)
 | v,x::w=>if nextV es v x<0 then(v,0) else((readF es (nextV es v x) w).1,(readF es (nextV es v x) w).2+1)
theorem readF_step (es:List EdD) (v:Int) (w:List Int) (k:Nat) (h:k<w.length):readF es v (w.drop k)=if nextV es v w[k]<0 then(v,0) else((readF es (nextV es v w[k]) (w.drop (k+1))).1,(readF es (nextV es v w[k]) (w.drop (k+1))).2+1):=by
 rw[List.drop_eq_getElem_cons h]
 rfl
theorem readF_le (es:List EdD): ∀(w:List Int) (v:Int),(readF es v w).2≤w.length
 | [],v=>Nat.le_refl _
 | x::w,v=>by
   unfold readF
   split
   ·exact Nat.zero_le _
   ·simp only[List.length_cons]
    have:=readF_le es w (nextV es v x)
    omega
set_option maxHeartbeats 1000000 in
theorem read_any (v vw:Value) (g:GrD) (u:Int) (ws:List Int) (w:World) (h:ArgG w v g) (hw:RdI w vw ws) (hf:foldB g=true) (hu:0≤u∧u<g.2.1):
  Calls Tryz.prog 89 #[v, .int .i64 u,vw] w fun e w'=>e= .returned (.tuple #[.int .i64 (readF g.2.2 u ws).1, .int .i64 ((readF g.2.2 u ws).2:Nat)])∧Below w.heap.size w w':=by
 have HG:=hD h
 have HW:=hD hw
 obtain⟨hg,hfol⟩:=foldB_parts hf
 have ONE:=hD (steps_one hfol)
 have LET:=hD (let_of_gr hg)
 have NV:Hid (∀v x,nextV g.2.2 v x= -1∨(0≤nextV g.2.2 v x∧nextV g.2.2 v x<g.2.1)):=hD fun v x=>nextV_range hg v x
 obtain⟨s,rfl,hi1,hi2,ha⟩:=h
 obtain⟨A,cap,rfl⟩:=ha.form
 obtain⟨Aw,capw,rfl,hcw,hmw,_⟩:=hw.arg
 unfold maxLen at hmw
 clear hf hg hfol ha hw
 have HR:Hid (readF g.2.2 u ws=((readF g.2.2 u (ws.drop 0)).1,0+(readF g.2.2 u (ws.drop 0)).2)):=hD (by rw[List.drop_zero,Nat.zero_add])
 generalize readF g.2.2 u ws=R at*
 go_enter Tryz.func89,Tryz.ntmps89
 go_wp2_with fail
 have bx:Below w.heap.size w (w.alloc (Obj.cells #[Value.int IntKind.i64 g.1,Value.int IntKind.i64 g.2.1, .slice A g.2.2.length cap] 31)):=(by repeat(first | exact Below.refl _ _ | (refine Below.setCell ?_ (by first | omega | (simp<;>omega)) _) | (refine bel_drewN ?_ _) | (refine Below.drew ?_) | (refine Below.alloc ?_ (by first | omega | (simp<;>omega)) _)))
 have l0:(w.alloc (Obj.cells #[Value.int IntKind.i64 g.1,Value.int IntKind.i64 g.2.1, .slice A g.2.2.length cap] 31)).cell? ⟨w.heap.size,0,none⟩=some (.int .i64 g.1):=by simp[go_sem]
 have l1:(w.alloc (Obj.cells #[Value.int IntKind.i64 g.1,Value.int IntKind.i64 g.2.1, .slice A g.2.2.length cap] 31)).cell? ⟨w.heap.size,1,none⟩=some (.int .i64 g.2.1):=by simp[go_sem]
 have l2:(w.alloc (Obj.cells #[Value.int IntKind.i64 g.1,Value.int IntKind.i64 g.2.1, .slice A g.2.2.length cap] 31)).cell? ⟨w.heap.size,2,none⟩=some (.slice A g.2.2.length cap):=by simp[go_sem]
 have sA:w.heap.size<(w.alloc (Obj.cells #[Value.int IntKind.i64 g.1,Value.int IntKind.i64 g.2.1, .slice A g.2.2.length cap] 31)).heap.size:=by simp
 generalize w.alloc (Obj.cells #[Value.int IntKind.i64 g.1,Value.int IntKind.i64 g.2.1, .slice A g.2.2.length cap] 31)=W at bx l0 l1 l2 sA⊢
 have BX:=hD bx
 have HA:Hid (∀w',Below W.heap.size W w'→ArgG w' (.agg #[.int .i64 g.1, .int .i64 g.2.1, .slice A g.2.2.length cap]) g):=hD fun w' hb=>HG.out.below (BX.out.trans (hb.mono (by omega)))
 have L0:=hD l0
 have L1:=hD l1
 have L2:=hD l2
 clear bx l0 l1 l2
 go_loopw [1,13] (fun a i wr=> ∃(k:Nat) (u':Int),k≤ws.length∧i= .int .i64 k∧a= .int .i64 u'∧(0≤u'∧u'<g.2.1)∧R=((readF g.2.2 u' (ws.drop k)).1,k+(readF g.2.2 u' (ws.drop k)).2)∧Below W.heap.size W wr) (fun _ i _=>ws.length-(intOf i).toNat)
 case atStart=>exact⟨0,u,Nat.zero_le _,rfl,rfl,hu,HR.out,Below.refl _ _⟩
 case round=>
  obtain⟨k,u',hk,rfl,rfl,hu',hR,hbel⟩:=hrel
  have HB:=hD hbel
  have HRk:=hD hR
  have hs:=hbel.size
  have q0:=(hbel.cell (p:=⟨w.heap.size,0,none⟩) sA).trans L0.out
  have q1:=(hbel.cell (p:=⟨w.heap.size,1,none⟩) sA).trans L1.out
  have q2:=(hbel.cell (p:=⟨w.heap.size,2,none⟩) sA).trans L2.out
  by_cases hlt:k<ws.length
  ·have HRW:=hD (HW.out.below (BX.out.trans (hbel.mono (by omega))))
   obtain⟨bw,offw,rfl,hbw,hcw2⟩:=HRW.out.at (by omega)
   have c0:=hcw2 k hlt
   have ST:=hD (readF_step g.2.2 u' ws k hlt)
   generalize ws[k]=x at c0 ST
   have NX:=hD (NV.out u' x)
   have HNX:=hD (implNextVertex_any _ g u' x wr (HA.out _ hbel) (ONE.out u' x) LET.out)
   clear hbel hR hcw2
   go_wp2_with fail
   refine HNX.out.mono ?_
   rintro e wq ⟨rfl,bq⟩
   have HQ:=hD (HB.out.trans (bq.mono (by omega)))
   clear bq HNX q0 q1 q2 c0
   generalize nextV g.2.2 u' x=y at*
   rcases NX.out with hy | hy
   ·subst hy
    have F:Hid (R=(u',k)):=hD (by rw[HRk.out,ST.out];rfl)
    go_wp2
    exact bodyPost_ret (v:= .tuple #[.int .i64 u', .int .i64 k]) (by simp[results,Tryz.results89]) rfl ⟨by rw[F.out],BX.out.trans (HQ.out.mono (by omega))⟩
   ·have hy0: ¬y<0:=by omega
    have F:Hid (R=((readF g.2.2 y (ws.drop (k+1))).1,(k+1)+(readF g.2.2 y (ws.drop (k+1))).2)):=hD (by
     rw[HRk.out,ST.out,if_neg hy0]
     simp only
     rw[Nat.add_assoc,Nat.add_comm 1])
    go_wp2
    go_roundw
    case rel=>exact⟨k+1,y,by omega,by go_num,rfl,hy,F.out,HQ.out⟩
    case measure=>simp[intOf];omega
  ·obtain rfl:k=ws.length:=by omega
   have F:Hid (R=(u',ws.length)):=hD (by rw[HRk.out,List.drop_length];rfl)
   clear hbel hR
   go_wp2
   exact bodyPost_ret (v:= .tuple #[.int .i64 u', .int .i64 ws.length]) (by simp[results,Tryz.results89]) rfl ⟨by rw[F.out],BX.out.trans (HB.out.mono (by omega))⟩
end Go.Proofs.YtfadnkjlilhneaaGreat
namespace Go.Proofs.YtfadnkjlilhneaaGreat
set_option maxRecDepth 20000
set_option linter.unusedVariables false
set_option linter.unusedSimpArgs false
open Go.RowKit
theorem srt_snocP {α:Type} (c:α→α→Int) (L:List α) (e:α):srt c (L++ [e])=insF c (srt c L) e:=by
 unfold srt
 rw[List.foldl_append]
 rfl
def stpE (u x v:Int):EdD:=if 0<x then(u,x,v) else(v,-x,u)
def nxP (N:Nat) (len:Nat) (v:Int) (j:Nat):Int:=if j+1<len then((N+j:Nat):Int) else v
def atP (N:Nat) (len:Nat) (u v:Int):Nat→Int
 | 0=>u
 | j+1=>nxP N len v j
theorem atP_succ (N len:Nat) (u v:Int) (j:Nat):atP N len u v (j+1)=nxP N len v j:=rfl
theorem atP_zero (N len:Nat) (u v:Int):atP N len u v 0=u:=rfl
theorem getD_at {α:Type} {l:List α} {i:Nat} {d:α} (h:i<l.length):l.getD i d=l[i]:=by simp[h]
def pthE (N:Nat) (u v:Int) (w:List Int) (j:Nat):EdD:=stpE (atP N w.length u v j) (w.getD j 0) (nxP N w.length v j)
def pthL (N:Nat) (u v:Int) (w:List Int) (k:Nat):List EdD:=(List.range k).map (pthE N u v w)
theorem pthL_succ (N:Nat) (u v:Int) (w:List Int) (k:Nat):pthL N u v w (k+1)=pthL N u v w k++ [pthE N u v w k]:=by
 unfold pthL
 rw[List.range_succ,List.map_append]
 rfl
theorem pthL_len (N:Nat) (u v:Int) (w:List Int) (k:Nat):(pthL N u v w k).length=k:=by simp[pthL]
def szP (N len j:Nat):Nat:=N+min j (len-1)
theorem szP_succ {N len j:Nat} (h:j<len):szP N len (j+1)=if j+1<len then szP N len j+1 else szP N len j:=by
 unfold szP
 split<;>omega
theorem szP_at {N len j:Nat} (h:j+1<len):szP N len j=N+j:=by
 unfold szP
 omega
theorem atP_range {N len j:Nat} {u v:Int} (hu:0≤u∧u<N) (hv:0≤v∧v<N):0≤atP N len u v j∧atP N len u v j<N+len:=by
 cases j with
 | zero=>show 0≤u∧u<N+len;omega
 | succ j=>
   unfold atP nxP
   split<;>omega
theorem nxP_range {N len j:Nat} {v:Int} (hv:0≤v∧v<N):0≤nxP N len v j∧nxP N len v j<N+len:=by
 unfold nxP
 split<;>omega
def addG (g:GrD) (u v:Int) (w:List Int):GrD:=(g.1,((g.2.1.toNat+(w.length-1):Nat):Int),srt cmpE (g.2.2++pthL g.2.1.toNat u v w w.length))
def addOk (g:GrD) (t:List Int):Bool:=decide (g.2.1+t.length-1≤40∧(g.2.2.length:Int)+t.length≤120)
theorem srt_self {L:List EdD} (h:Srt cmpE L):srt cmpE L=L:=(srt_eq cmpE_ord h fun _=>Iff.rfl).symm
end Go.Proofs.YtfadnkjlilhneaaGreat
