/- Parts of the proof: GrC, GrF, Let, CanP, GrG, GrH, CanS, Ren, CanG, RankS, RenQ, Srt. -/
import Derived.Test.YtfadnkjlilhneaaGreatP01
import Derived.Deep.RegionHeld3
import Derived.Shelf.SlSortCmp.WholeK
import Derived.Ground.SlsfProg
namespace Go.Proofs.YtfadnkjlilhneaaGreat
set_option maxRecDepth 20000
set_option linter.unusedVariables false
set_option linter.unusedSimpArgs false
open Go.RowKit
set_option maxHeartbeats 2000000 in
theorem implIsGraph_any (v:Value) (g:GrD) (w:World) (h:ArgG w v g):
  Calls Tryz.prog 98 #[v] w fun e w'=>e= .returned (.bool (grB g))∧Below w.heap.size w w':=by
 obtain⟨s,rfl,_,_,ha⟩:=h
 have H:=hDD ha
 obtain⟨A,cap,rfl,hcap,hm,_⟩:=ha
 unfold maxLen at hm
 rcases t1:inB g.1 1 3 with _ | _
 ·go_enter Tryz.func98,Tryz.ntmps98
  go_wp2_with (go_at_call 106;refine(within_any _ _ _ _).mono ?_;rintro e w' ⟨rfl,rfl⟩)
  go_ret
  exact⟨ret_bool (by unfold grB;rw[t1];rfl),(by repeat(first | exact Below.refl _ _ | (refine Below.setCell ?_ (by first | omega | (simp<;>omega)) _) | (refine bel_drewN ?_ _) | (refine Below.drew ?_) | (refine Below.alloc ?_ (by first | omega | (simp<;>omega)) _)))⟩
 rcases t2:inB g.2.1 1 40 with _ | _
 ·go_enter Tryz.func98,Tryz.ntmps98
  go_wp2_with (go_at_call 106;refine(within_any _ _ _ _).mono ?_;rintro e w' ⟨rfl,rfl⟩)
  go_ret
  exact⟨ret_bool (by unfold grB;rw[t1,t2];rfl),(by repeat(first | exact Below.refl _ _ | (refine Below.setCell ?_ (by first | omega | (simp<;>omega)) _) | (refine bel_drewN ?_ _) | (refine Below.drew ?_) | (refine Below.alloc ?_ (by first | omega | (simp<;>omega)) _)))⟩
 by_cases t3:120<g.2.2.length
 ·go_enter Tryz.func98,Tryz.ntmps98
  go_wp2_with (go_at_call 106;refine(within_any _ _ _ _).mono ?_;rintro e w' ⟨rfl,rfl⟩)
  go_ret
  exact⟨ret_bool (by unfold grB;rw[t1,t2,decide_eq_false (by omega)];rfl),(by repeat(first | exact Below.refl _ _ | (refine Below.setCell ?_ (by first | omega | (simp<;>omega)) _) | (refine bel_drewN ?_ _) | (refine Below.drew ?_) | (refine Below.alloc ?_ (by first | omega | (simp<;>omega)) _)))⟩
 go_enter Tryz.func98,Tryz.ntmps98
 go_wp2_with (go_at_call 106;refine(within_any _ _ _ _).mono ?_;rintro e w' ⟨rfl,rfl⟩)
 have hb:Below w.heap.size w (w.alloc (Obj.cells #[Value.int IntKind.i64 g.1,Value.int IntKind.i64 g.2.1, .slice A g.2.2.length cap] 31)):=(by repeat(first | exact Below.refl _ _ | (refine Below.setCell ?_ (by first | omega | (simp<;>omega)) _) | (refine bel_drewN ?_ _) | (refine Below.drew ?_) | (refine Below.alloc ?_ (by first | omega | (simp<;>omega)) _)))
 have k0:(w.alloc (Obj.cells #[Value.int IntKind.i64 g.1,Value.int IntKind.i64 g.2.1, .slice A g.2.2.length cap] 31)).cell? ⟨w.heap.size,0,none⟩=some (.int .i64 g.1):=by simp[go_sem]
 have k1:(w.alloc (Obj.cells #[Value.int IntKind.i64 g.1,Value.int IntKind.i64 g.2.1, .slice A g.2.2.length cap] 31)).cell? ⟨w.heap.size,1,none⟩=some (.int .i64 g.2.1):=by simp[go_sem]
 have k2:(w.alloc (Obj.cells #[Value.int IntKind.i64 g.1,Value.int IntKind.i64 g.2.1, .slice A g.2.2.length cap] 31)).cell? ⟨w.heap.size,2,none⟩=some (.slice A g.2.2.length cap):=by simp[go_sem]
 have hs0:w.heap.size<(w.alloc (Obj.cells #[Value.int IntKind.i64 g.1,Value.int IntKind.i64 g.2.1, .slice A g.2.2.length cap] 31)).heap.size:=by simp
 generalize w.alloc (Obj.cells #[Value.int IntKind.i64 g.1,Value.int IntKind.i64 g.2.1, .slice A g.2.2.length cap] 31)=w1 at hb k0 k1 k2 hs0⊢
 have HB:=hDD hb
 have K0:=hDD k0
 have K1:=hDD k1
 have K2:=hDD k2
 clear hb
 clear k0 k1 k2
 go_loopw [24] (fun i wr=> ∃k:Nat,k≤g.2.2.length∧i= .int .i64 k∧(∀j,j<k→okE g j=true)∧Below w1.heap.size w1 wr) (fun i _=>g.2.2.length-(intOf i).toNat)
 case atStart=>exact⟨0,Nat.zero_le _,rfl,fun j hj=>absurd hj (by omega),Below.refl _ _⟩
 case round=>
  obtain⟨k,hk,rfl,hall,hbel⟩:=hrel
  have HA:=hDD hall
  have HB2:=hDD hbel
  have HB3:=hDD (HB.out.trans (hbel.mono HB.out.size))
  have hsz:=hbel.size
  have p0:=(hbel.cell (p:=⟨w.heap.size,0,none⟩) hs0).trans K0.out
  have p1:=(hbel.cell (p:=⟨w.heap.size,1,none⟩) hs0).trans K1.out
  have p2:=(hbel.cell (p:=⟨w.heap.size,2,none⟩) hs0).trans K2.out
  have hws:w.heap.size<wr.heap.size:=by omega
  by_cases hlt:k<g.2.2.length
  ·obtain⟨b,off,rfl,hbl,c0,c1,c2,_⟩:=(H.out.below HB3.out).at hlt
   have ST:Hid (okE g k=true→ ∀j,j<k+1→okE g j=true):=hDD fun F j hj=>by
    rcases Nat.lt_or_eq_of_le (Nat.le_of_lt_succ hj) with hj | rfl
    ·exact HA.out j hj
    ·exact F
   have FA:Hid (okE g k=false→grB g=false):=hDD (grB_false k hlt)
   clear hall hbel
   by_cases h0:0<k
   ·obtain⟨j,rfl⟩: ∃j,k=j+1:=⟨k-1,by omega⟩
    obtain⟨b2,off2,hA2,_,d0,d1,d2,_⟩:=(H.out.below HB3.out).at (k:=j) (by omega)
    obtain⟨rfl,rfl⟩:b=b2∧off=off2:=by simpa using hA2
    have HZ:Hid (okE g (j+1)=(edgeOk g.1 g.2.1 g.2.2[j+1]&& !decide (0≤cmpE g.2.2[j] g.2.2[j+1]))):=hDD (okE_pos h0 hlt)
    have i0:(0:Int)≤(j:Int):=by omega
    have i1:(j:Int)<(g.2.2.length:Int):=by omega
    have i2:(j:Int)+1<(g.2.2.length:Int):=by omega
    clear hA2 h0
    generalize g.2.2[j]=y at d0 d1 d2 HZ
    generalize g.2.2[j+1]=x at c0 c1 c2 HZ
    have hE:=fun w=>accepts_any g.1 g.2.1 (some ⟨b,off,none⟩) g.2.2.length cap x w
    rcases e1:edgeOk g.1 g.2.1 x with _ | _
    ·have F:Hid (okE g (j+1)=false):=hDD (by rw[HZ.out,e1];rfl)
     simp only[e1] at hE
     have HE:=hDD hE
     clear hE
     go_wp2_with fail
     obtain⟨W,hW⟩: ∃W,W=World.alloc wr (Obj.cells #[.int .i64 x.1, .int .i64 x.2.1, .int .i64 x.2.2] 54):=⟨_,rfl⟩
     rw[←hW]
     have bW:Below wr.heap.size wr W:=by rw[hW];exact(Below.refl _ _).alloc (Nat.le_refl _) _
     have sW:wr.heap.size<W.heap.size:=by rw[hW];simp
     replace p0:=(bW.cell (p:=⟨w.heap.size,0,none⟩) (show w.heap.size<wr.heap.size by omega)).trans p0
     replace p1:=(bW.cell (p:=⟨w.heap.size,1,none⟩) (show w.heap.size<wr.heap.size by omega)).trans p1
     replace p2:=(bW.cell (p:=⟨w.heap.size,2,none⟩) (show w.heap.size<wr.heap.size by omega)).trans p2
     replace c0:=(bW.cell (p:=⟨b,off+(j+1)*3,none⟩) (show b<wr.heap.size by omega)).trans c0
     replace c1:=(bW.cell (p:=⟨b,off+(j+1)*3+1,none⟩) (show b<wr.heap.size by omega)).trans c1
     replace c2:=(bW.cell (p:=⟨b,off+(j+1)*3+2,none⟩) (show b<wr.heap.size by omega)).trans c2
     replace d0:=(bW.cell (p:=⟨b,off+j*3,none⟩) (show b<wr.heap.size by omega)).trans d0
     replace d1:=(bW.cell (p:=⟨b,off+j*3+1,none⟩) (show b<wr.heap.size by omega)).trans d1
     replace d2:=(bW.cell (p:=⟨b,off+j*3+2,none⟩) (show b<wr.heap.size by omega)).trans d2
     have l0:W.cell? ⟨wr.heap.size,0,none⟩=some (.int .i64 x.1):=by rw[hW];simp[go_sem]
     have l1:W.cell? ⟨wr.heap.size,1,none⟩=some (.int .i64 x.2.1):=by rw[hW];simp[go_sem]
     have l2:W.cell? ⟨wr.heap.size,2,none⟩=some (.int .i64 x.2.2):=by rw[hW];simp[go_sem]
     clear hW
     have f0:=BelW.cell p0 (show w.heap.size<W.heap.size by omega)
     have f1:=BelW.cell p1 (show w.heap.size<W.heap.size by omega)
     have f2:=BelW.cell p2 (show w.heap.size<W.heap.size by omega)
     have f3:=BelW.cell c0 (show b<W.heap.size by omega)
     have f4:=BelW.cell c1 (show b<W.heap.size by omega)
     have f5:=BelW.cell c2 (show b<W.heap.size by omega)
     have f6:=BelW.cell d0 (show b<W.heap.size by omega)
     have f7:=BelW.cell d1 (show b<W.heap.size by omega)
     have f8:=BelW.cell d2 (show b<W.heap.size by omega)
     have f9:=BelW.cell l0 (show wr.heap.size<W.heap.size by omega)
     have f10:=BelW.cell l1 (show wr.heap.size<W.heap.size by omega)
     have f11:=BelW.cell l2 (show wr.heap.size<W.heap.size by omega)
     (refine wp_region_quiet_bel (by kernel_rfl) (by kernel_rfl) ?_;(repeat(go_big_quiet_step (first | (go_at_call 130;exact Calls.bel_of (HE.out _)))));refine wpQuiet_nil ?_;intro wq hw';obtain⟨pq,hw''⟩:=hw';have bq:=pq.h;rw[←hw''] at bq;clear hw'' pq)
     clear f0 f1 f2 f3 f4 f5 f6 f7 f8 f9 f10 f11
     go_wp2
     go_ret
     exact⟨ret_bool (FA.out F.out).symm,(HB3.out.trans (bW.mono (by omega))).trans (bq.mono (by omega))⟩
    ·simp only[e1] at hE
     have HE:=hDD hE
     clear hE
     rcases e2:decide (0≤cmpE y x) with _ | _
     ·have F:Hid (okE g (j+1)=true):=hDD (by rw[HZ.out,e1,e2];rfl)
      go_wp2_with fail
      obtain⟨W,hW⟩: ∃W,W=World.alloc wr (Obj.cells #[.int .i64 x.1, .int .i64 x.2.1, .int .i64 x.2.2] 54):=⟨_,rfl⟩
      rw[←hW]
      have bW:Below wr.heap.size wr W:=by rw[hW];exact(Below.refl _ _).alloc (Nat.le_refl _) _
      have sW:wr.heap.size<W.heap.size:=by rw[hW];simp
      replace p0:=(bW.cell (p:=⟨w.heap.size,0,none⟩) (show w.heap.size<wr.heap.size by omega)).trans p0
      replace p1:=(bW.cell (p:=⟨w.heap.size,1,none⟩) (show w.heap.size<wr.heap.size by omega)).trans p1
      replace p2:=(bW.cell (p:=⟨w.heap.size,2,none⟩) (show w.heap.size<wr.heap.size by omega)).trans p2
      replace c0:=(bW.cell (p:=⟨b,off+(j+1)*3,none⟩) (show b<wr.heap.size by omega)).trans c0
      replace c1:=(bW.cell (p:=⟨b,off+(j+1)*3+1,none⟩) (show b<wr.heap.size by omega)).trans c1
      replace c2:=(bW.cell (p:=⟨b,off+(j+1)*3+2,none⟩) (show b<wr.heap.size by omega)).trans c2
      replace d0:=(bW.cell (p:=⟨b,off+j*3,none⟩) (show b<wr.heap.size by omega)).trans d0
      replace d1:=(bW.cell (p:=⟨b,off+j*3+1,none⟩) (show b<wr.heap.size by omega)).trans d1
      replace d2:=(bW.cell (p:=⟨b,off+j*3+2,none⟩) (show b<wr.heap.size by omega)).trans d2
      have l0:W.cell? ⟨wr.heap.size,0,none⟩=some (.int .i64 x.1):=by rw[hW];simp[go_sem]
      have l1:W.cell? ⟨wr.heap.size,1,none⟩=some (.int .i64 x.2.1):=by rw[hW];simp[go_sem]
      have l2:W.cell? ⟨wr.heap.size,2,none⟩=some (.int .i64 x.2.2):=by rw[hW];simp[go_sem]
      clear hW
      have f0:=BelW.cell p0 (show w.heap.size<W.heap.size by omega)
      have f1:=BelW.cell p1 (show w.heap.size<W.heap.size by omega)
      have f2:=BelW.cell p2 (show w.heap.size<W.heap.size by omega)
      have f3:=BelW.cell c0 (show b<W.heap.size by omega)
      have f4:=BelW.cell c1 (show b<W.heap.size by omega)
      have f5:=BelW.cell c2 (show b<W.heap.size by omega)
      have f6:=BelW.cell d0 (show b<W.heap.size by omega)
      have f7:=BelW.cell d1 (show b<W.heap.size by omega)
      have f8:=BelW.cell d2 (show b<W.heap.size by omega)
      have f9:=BelW.cell l0 (show wr.heap.size<W.heap.size by omega)
      have f10:=BelW.cell l1 (show wr.heap.size<W.heap.size by omega)
      have f11:=BelW.cell l2 (show wr.heap.size<W.heap.size by omega)
      (refine wp_region_quiet_bel (by kernel_rfl) (by kernel_rfl) ?_;(repeat(go_big_quiet_step (first | (go_at_call 130;exact Calls.bel_of (HE.out _)) | (go_at_call 108;exact Calls.bel_of (implCompareEdges_any y x _)))));refine wpQuiet_nil ?_;intro wq hw';obtain⟨pq,hw''⟩:=hw';have bq:=pq.h;rw[←hw''] at bq;clear hw'' pq)
      clear f0 f1 f2 f3 f4 f5 f6 f7 f8 f9 f10 f11
      go_wp2
      go_roundw
      case rel=>exact⟨j+1+1,by omega,by go_num,ST.out F.out,(HB2.out.trans (bW.mono (by omega))).trans (bq.mono (by omega))⟩
      case measure=>simp[intOf];omega
     ·have F:Hid (okE g (j+1)=false):=hDD (by rw[HZ.out,e1,e2];rfl)
      go_wp2_with fail
      obtain⟨W,hW⟩: ∃W,W=World.alloc wr (Obj.cells #[.int .i64 x.1, .int .i64 x.2.1, .int .i64 x.2.2] 54):=⟨_,rfl⟩
      rw[←hW]
      have bW:Below wr.heap.size wr W:=by rw[hW];exact(Below.refl _ _).alloc (Nat.le_refl _) _
      have sW:wr.heap.size<W.heap.size:=by rw[hW];simp
      replace p0:=(bW.cell (p:=⟨w.heap.size,0,none⟩) (show w.heap.size<wr.heap.size by omega)).trans p0
      replace p1:=(bW.cell (p:=⟨w.heap.size,1,none⟩) (show w.heap.size<wr.heap.size by omega)).trans p1
      replace p2:=(bW.cell (p:=⟨w.heap.size,2,none⟩) (show w.heap.size<wr.heap.size by omega)).trans p2
      replace c0:=(bW.cell (p:=⟨b,off+(j+1)*3,none⟩) (show b<wr.heap.size by omega)).trans c0
      replace c1:=(bW.cell (p:=⟨b,off+(j+1)*3+1,none⟩) (show b<wr.heap.size by omega)).trans c1
      replace c2:=(bW.cell (p:=⟨b,off+(j+1)*3+2,none⟩) (show b<wr.heap.size by omega)).trans c2
      replace d0:=(bW.cell (p:=⟨b,off+j*3,none⟩) (show b<wr.heap.size by omega)).trans d0
      replace d1:=(bW.cell (p:=⟨b,off+j*3+1,none⟩) (show b<wr.heap.size by omega)).trans d1
      replace d2:=(bW.cell (p:=⟨b,off+j*3+2,none⟩) (show b<wr.heap.size by omega)).trans d2
      have l0:W.cell? ⟨wr.heap.size,0,none⟩=some (.int .i64 x.1):=by rw[hW];simp[go_sem]
      have l1:W.cell? ⟨wr.heap.size,1,none⟩=some (.int .i64 x.2.1):=by rw[hW];simp[go_sem]
      have l2:W.cell? ⟨wr.heap.size,2,none⟩=some (.int .i64 x.2.2):=by rw[hW];simp[go_sem]
      clear hW
      have f0:=BelW.cell p0 (show w.heap.size<W.heap.size by omega)
      have f1:=BelW.cell p1 (show w.heap.size<W.heap.size by omega)
      have f2:=BelW.cell p2 (show w.heap.size<W.heap.size by omega)
      have f3:=BelW.cell c0 (show b<W.heap.size by omega)
      have f4:=BelW.cell c1 (show b<W.heap.size by omega)
      have f5:=BelW.cell c2 (show b<W.heap.size by omega)
      have f6:=BelW.cell d0 (show b<W.heap.size by omega)
      have f7:=BelW.cell d1 (show b<W.heap.size by omega)
      have f8:=BelW.cell d2 (show b<W.heap.size by omega)
      have f9:=BelW.cell l0 (show wr.heap.size<W.heap.size by omega)
      have f10:=BelW.cell l1 (show wr.heap.size<W.heap.size by omega)
      have f11:=BelW.cell l2 (show wr.heap.size<W.heap.size by omega)
      (refine wp_region_quiet_bel (by kernel_rfl) (by kernel_rfl) ?_;(repeat(go_big_quiet_step (first | (go_at_call 130;exact Calls.bel_of (HE.out _)) | (go_at_call 108;exact Calls.bel_of (implCompareEdges_any y x _)))));refine wpQuiet_nil ?_;intro wq hw';obtain⟨pq,hw''⟩:=hw';have bq:=pq.h;rw[←hw''] at bq;clear hw'' pq)
      clear f0 f1 f2 f3 f4 f5 f6 f7 f8 f9 f10 f11
      go_wp2
      go_ret
      exact⟨ret_bool (FA.out F.out).symm,(HB3.out.trans (bW.mono (by omega))).trans (bq.mono (by omega))⟩
   ·obtain rfl:k=0:=by omega
    have HZ:=hDD (okE_zero hlt)
    generalize g.2.2[0]=x at c0 c1 c2 HZ
    simp only[Nat.zero_mul,Nat.add_zero] at c0 c1 c2
    have hE:=fun w=>accepts_any g.1 g.2.1 (some ⟨b,off,none⟩) g.2.2.length cap x w
    rcases e1:edgeOk g.1 g.2.1 x with _ | _
    ·have F:Hid (okE g 0=false):=hDD (by rw[HZ.out,e1])
     simp only[e1] at hE
     have HE:=hDD hE
     clear hE
     go_wp2_with fail
     obtain⟨W,hW⟩: ∃W,W=World.alloc wr (Obj.cells #[.int .i64 x.1, .int .i64 x.2.1, .int .i64 x.2.2] 54):=⟨_,rfl⟩
     rw[←hW]
     have bW:Below wr.heap.size wr W:=by rw[hW];exact(Below.refl _ _).alloc (Nat.le_refl _) _
     have sW:wr.heap.size<W.heap.size:=by rw[hW];simp
     replace p0:=(bW.cell (p:=⟨w.heap.size,0,none⟩) (show w.heap.size<wr.heap.size by omega)).trans p0
     replace p1:=(bW.cell (p:=⟨w.heap.size,1,none⟩) (show w.heap.size<wr.heap.size by omega)).trans p1
     replace p2:=(bW.cell (p:=⟨w.heap.size,2,none⟩) (show w.heap.size<wr.heap.size by omega)).trans p2
     replace c0:=(bW.cell (p:=⟨b,off,none⟩) (show b<wr.heap.size by omega)).trans c0
     replace c1:=(bW.cell (p:=⟨b,off+1,none⟩) (show b<wr.heap.size by omega)).trans c1
     replace c2:=(bW.cell (p:=⟨b,off+2,none⟩) (show b<wr.heap.size by omega)).trans c2
     have l0:W.cell? ⟨wr.heap.size,0,none⟩=some (.int .i64 x.1):=by rw[hW];simp[go_sem]
     have l1:W.cell? ⟨wr.heap.size,1,none⟩=some (.int .i64 x.2.1):=by rw[hW];simp[go_sem]
     have l2:W.cell? ⟨wr.heap.size,2,none⟩=some (.int .i64 x.2.2):=by rw[hW];simp[go_sem]
     clear hW
     have f0:=BelW.cell p0 (show w.heap.size<W.heap.size by omega)
     have f1:=BelW.cell p1 (show w.heap.size<W.heap.size by omega)
     have f2:=BelW.cell p2 (show w.heap.size<W.heap.size by omega)
     have f3:=BelW.cell c0 (show b<W.heap.size by omega)
     have f4:=BelW.cell c1 (show b<W.heap.size by omega)
     have f5:=BelW.cell c2 (show b<W.heap.size by omega)
     have f6:=BelW.cell l0 (show wr.heap.size<W.heap.size by omega)
     have f7:=BelW.cell l1 (show wr.heap.size<W.heap.size by omega)
     have f8:=BelW.cell l2 (show wr.heap.size<W.heap.size by omega)
     (refine wp_region_quiet_bel (by kernel_rfl) (by kernel_rfl) ?_;(repeat(go_big_quiet_step (first | (go_at_call 130;exact Calls.bel_of (HE.out _)))));refine wpQuiet_nil ?_;intro wq hw';obtain⟨pq,hw''⟩:=hw';have bq:=pq.h;rw[←hw''] at bq;clear hw'' pq)
     clear f0 f1 f2 f3 f4 f5 f6 f7 f8
     go_wp2
     go_ret
     exact⟨ret_bool (FA.out F.out).symm,(HB3.out.trans (bW.mono (by omega))).trans (bq.mono (by omega))⟩
    ·have F:Hid (okE g 0=true):=hDD (by rw[HZ.out,e1])
     simp only[e1] at hE
     have HE:=hDD hE
     clear hE
     go_wp2_with fail
     obtain⟨W,hW⟩: ∃W,W=World.alloc wr (Obj.cells #[.int .i64 x.1, .int .i64 x.2.1, .int .i64 x.2.2] 54):=⟨_,rfl⟩
     rw[←hW]
     have bW:Below wr.heap.size wr W:=by rw[hW];exact(Below.refl _ _).alloc (Nat.le_refl _) _
     have sW:wr.heap.size<W.heap.size:=by rw[hW];simp
     replace p0:=(bW.cell (p:=⟨w.heap.size,0,none⟩) (show w.heap.size<wr.heap.size by omega)).trans p0
     replace p1:=(bW.cell (p:=⟨w.heap.size,1,none⟩) (show w.heap.size<wr.heap.size by omega)).trans p1
     replace p2:=(bW.cell (p:=⟨w.heap.size,2,none⟩) (show w.heap.size<wr.heap.size by omega)).trans p2
     replace c0:=(bW.cell (p:=⟨b,off,none⟩) (show b<wr.heap.size by omega)).trans c0
     replace c1:=(bW.cell (p:=⟨b,off+1,none⟩) (show b<wr.heap.size by omega)).trans c1
     replace c2:=(bW.cell (p:=⟨b,off+2,none⟩) (show b<wr.heap.size by omega)).trans c2
     have l0:W.cell? ⟨wr.heap.size,0,none⟩=some (.int .i64 x.1):=by rw[hW];simp[go_sem]
     have l1:W.cell? ⟨wr.heap.size,1,none⟩=some (.int .i64 x.2.1):=by rw[hW];simp[go_sem]
     have l2:W.cell? ⟨wr.heap.size,2,none⟩=some (.int .i64 x.2.2):=by rw[hW];simp[go_sem]
     clear hW
     have f0:=BelW.cell p0 (show w.heap.size<W.heap.size by omega)
     have f1:=BelW.cell p1 (show w.heap.size<W.heap.size by omega)
     have f2:=BelW.cell p2 (show w.heap.size<W.heap.size by omega)
     have f3:=BelW.cell c0 (show b<W.heap.size by omega)
     have f4:=BelW.cell c1 (show b<W.heap.size by omega)
     have f5:=BelW.cell c2 (show b<W.heap.size by omega)
     have f6:=BelW.cell l0 (show wr.heap.size<W.heap.size by omega)
     have f7:=BelW.cell l1 (show wr.heap.size<W.heap.size by omega)
     have f8:=BelW.cell l2 (show wr.heap.size<W.heap.size by omega)
     (refine wp_region_quiet_bel (by kernel_rfl) (by kernel_rfl) ?_;(repeat(go_big_quiet_step (first | (go_at_call 130;exact Calls.bel_of (HE.out _)))));refine wpQuiet_nil ?_;intro wq hw';obtain⟨pq,hw''⟩:=hw';have bq:=pq.h;rw[←hw''] at bq;clear hw'' pq)
     clear f0 f1 f2 f3 f4 f5 f6 f7 f8
     go_wp2
     go_roundw
     case rel=>exact⟨1,by omega,by go_num,ST.out F.out,(HB2.out.trans (bW.mono (by omega))).trans (bq.mono (by omega))⟩
     case measure=>simp[intOf];omega
  ·obtain rfl:k=g.2.2.length:=by omega
   have F:=hDD (grB_eq HA.out)
   clear hall hbel
   go_wp2
   go_ret
   exact⟨ret_bool (by rw[F.out,t1,t2,decide_eq_true (by omega)];rfl),HB3.out⟩
end Go.Proofs.YtfadnkjlilhneaaGreat
namespace Go.Proofs.YtfadnkjlilhneaaGreat
set_option maxRecDepth 20000
set_option linter.unusedVariables false
set_option linter.unusedSimpArgs false
open Go.RowKit
def clash (a b:EdD):Bool:=(a.2.1==b.2.1)&&((a.1==b.1)||(a.2.2==b.2.2))
theorem clash_comm (a b:EdD):clash a b=clash b a:=by
 have h: ∀x y:Int,(x==y)=(y==x):=fun x y=>by rw[Bool.eq_iff_iff];simp;constructor<;>(intro h;exact h.symm)
 unfold clash
 rw[h a.2.1,h a.1,h a.2.2]
def Fol (es:List EdD):Prop:=es.Pairwise fun a b=>clash a b=false
instance (es:List EdD):Decidable (Fol es):=by unfold Fol;infer_instance
def foldB (g:GrD):Bool:=grB g&&decide (Fol g.2.2)
theorem fol_of {es:List EdD} (h: ∀i (hi:i<es.length),∀k (hk:k<i),clash es[i] (es[k]'(by omega))=false):Fol es:=by
 unfold Fol
 rw[List.pairwise_iff_getElem]
 intro i j hi hj hij
 rw[clash_comm]
 exact h j hj i hij
theorem foldB_true {g:GrD} (h:grB g=true) (hf: ∀i (hi:i<g.2.2.length),∀k (hk:k<i),clash g.2.2[i] (g.2.2[k]'(by omega))=false):foldB g=true:=by
 unfold foldB
 rw[h,decide_eq_true (fol_of hf)]
 rfl
theorem foldB_no {g:GrD} (h:grB g=false):foldB g=false:=by
 unfold foldB
 rw[h]
 rfl
theorem foldB_clash {g:GrD} {i k:Nat} (hi:i<g.2.2.length) (hk:k<i) (h:clash g.2.2[i] (g.2.2[k]'(by omega))=true):foldB g=false:=by
 unfold foldB
 rw[decide_eq_false,Bool.and_false]
 intro hf
 unfold Fol at hf
 rw[List.pairwise_iff_getElem] at hf
 have:=hf k i (by omega) hi hk
 rw[clash_comm,h] at this
 cases this
theorem foldB_parts {g:GrD} (h:foldB g=true):grB g=true∧Fol g.2.2:=by
 unfold foldB at h
 simpa using h
set_option maxHeartbeats 2000000 in
theorem specIsFolded_any (v:Value) (g:GrD) (w:World) (h:ArgG w v g):
  Calls Tryz.prog 56 #[v] w fun e w'=>e= .returned (.bool (foldB g))∧Below w.heap.size w w':=by
 have HG:=hDD h
 obtain⟨s,rfl,_,_,ha⟩:=h
 have H:=hDD ha
 obtain⟨A,cap,rfl,hcap,hm,_⟩:=ha
 unfold maxLen at hm
 go_enter Tryz.func56,Tryz.ntmps56
 go_wp2
 have hb:Below w.heap.size w (w.alloc (Obj.cells #[Value.int IntKind.i64 g.1,Value.int IntKind.i64 g.2.1, .slice A g.2.2.length cap] 31)):=(by repeat(first | exact Below.refl _ _ | (refine Below.setCell ?_ (by first | omega | (simp<;>omega)) _) | (refine bel_drewN ?_ _) | (refine Below.drew ?_) | (refine Below.alloc ?_ (by first | omega | (simp<;>omega)) _)))
 have k0:(w.alloc (Obj.cells #[Value.int IntKind.i64 g.1,Value.int IntKind.i64 g.2.1, .slice A g.2.2.length cap] 31)).cell? ⟨w.heap.size,0,none⟩=some (.int .i64 g.1):=by simp[go_sem]
 have k1:(w.alloc (Obj.cells #[Value.int IntKind.i64 g.1,Value.int IntKind.i64 g.2.1, .slice A g.2.2.length cap] 31)).cell? ⟨w.heap.size,1,none⟩=some (.int .i64 g.2.1):=by simp[go_sem]
 have k2:(w.alloc (Obj.cells #[Value.int IntKind.i64 g.1,Value.int IntKind.i64 g.2.1, .slice A g.2.2.length cap] 31)).cell? ⟨w.heap.size,2,none⟩=some (.slice A g.2.2.length cap):=by simp[go_sem]
 have hs0:w.heap.size<(w.alloc (Obj.cells #[Value.int IntKind.i64 g.1,Value.int IntKind.i64 g.2.1, .slice A g.2.2.length cap] 31)).heap.size:=by simp
 generalize w.alloc (Obj.cells #[Value.int IntKind.i64 g.1,Value.int IntKind.i64 g.2.1, .slice A g.2.2.length cap] 31)=w1 at hb k0 k1 k2 hs0⊢
 have HB:=hDD hb
 have K0:=hDD k0
 have K1:=hDD k1
 have K2:=hDD k2
 clear hb
 clear k0 k1 k2
 go_loopw [3] (fun i wo=> ∃k:Nat,k≤g.2.2.length∧i= .int .i64 k∧(0<k→grB g=true)∧(∀i (hi:i<g.2.2.length),i<k→ ∀j (hj:j<i),clash g.2.2[i] (g.2.2[j]'(by omega))=false)∧Below w1.heap.size w1 wo) (fun i _=>g.2.2.length-(intOf i).toNat)
 case atStart=>exact⟨0,Nat.zero_le _,rfl,fun h=>absurd h (by omega),fun i hi h=>absurd h (by omega),Below.refl _ _⟩
 case round=>
  obtain⟨k,hk,rfl,hg0,hall,hbel⟩:=hrel
  obtain⟨wo,rfl⟩: ∃wo:World,wo=wr:=⟨_,rfl⟩
  have HA:=hDD hall
  have HG0:=hDD hg0
  have HB2:=hDD hbel
  have HB3:=hDD (HB.out.trans (hbel.mono HB.out.size))
  have hsz:=hbel.size
  have p0:=(hbel.cell (p:=⟨w.heap.size,0,none⟩) hs0).trans K0.out
  have p1:=(hbel.cell (p:=⟨w.heap.size,1,none⟩) hs0).trans K1.out
  have p2:=(hbel.cell (p:=⟨w.heap.size,2,none⟩) hs0).trans K2.out
  have hws:w.heap.size<wo.heap.size:=by omega
  clear hg0 hall hbel
  by_cases hlt:k<g.2.2.length
  ·go_wp2_with fail
   refine(specIsGraph_any _ g _ (HG.out.below HB3.out)).mono ?_
   rintro e wp ⟨rfl,bp⟩
   have BP:=hDD bp
   have szp:=bp.size
   replace p0:=(bp.cell (p:=⟨w.heap.size,0,none⟩) hws).trans p0
   replace p1:=(bp.cell (p:=⟨w.heap.size,1,none⟩) hws).trans p1
   replace p2:=(bp.cell (p:=⟨w.heap.size,2,none⟩) hws).trans p2
   have HB4:=hDD (HB3.out.trans (bp.mono (by omega)))
   have HB5:=hDD (HB2.out.trans (bp.mono (by omega)))
   clear bp
   rcases e0:grB g with _ | _
   ·go_wp2_with fail
    refine(specIsGraph_any _ g _ (HG.out.below HB4.out)).mono ?_
    rintro e wz ⟨rfl,bz⟩
    have BZ:=hDD bz
    clear bz
    go_wp2
    go_ret
    exact⟨ret_bool (by rw[foldB_no e0]),HB4.out.trans (BZ.out.mono (by omega))⟩
   go_wp2
   go_loopw [4] (fun j wr=> ∃m:Nat,m≤k∧j= .int .i64 m∧(∀j (hj:j<k),j<m→clash g.2.2[k] (g.2.2[j]'(by omega))=false)∧Below wp.heap.size wp wr) (fun j _=>k-(intOf j).toNat)
   case atStart=>exact⟨0,Nat.zero_le _,rfl,fun j hj h=>absurd h (by omega),Below.refl _ _⟩
   case round=>
    obtain⟨m,hm1,rfl,hin,hbi⟩:=hrel
    have HI:=hDD hin
    have HBI:=hDD hbi
    have szi:=hbi.size
    replace p0:=(hbi.cell (p:=⟨w.heap.size,0,none⟩) (show w.heap.size<wp.heap.size by omega)).trans p0
    replace p1:=(hbi.cell (p:=⟨w.heap.size,1,none⟩) (show w.heap.size<wp.heap.size by omega)).trans p1
    replace p2:=(hbi.cell (p:=⟨w.heap.size,2,none⟩) (show w.heap.size<wp.heap.size by omega)).trans p2
    have HB6:=hDD (HB4.out.trans (hbi.mono (by omega)))
    have hwr:w.heap.size<wr.heap.size:=by omega
    clear hin hbi
    by_cases hlt2:m<k
    ·obtain⟨b,off,rfl,hbl,c0,c1,c2,_⟩:=(H.out.below HB6.out).at hlt
     obtain⟨b2,off2,hA2,_,d0,d1,d2,_⟩:=(H.out.below HB6.out).at (k:=m) (by omega)
     obtain⟨rfl,rfl⟩:b=b2∧off=off2:=by simpa using hA2
     have i1:(m:Int)<(g.2.2.length:Int):=by omega
     have CL:Hid (clash g.2.2[k] (g.2.2[m]'(by omega))=true→foldB g=false):=hDD (foldB_clash hlt hlt2)
     have CN:Hid (clash g.2.2[k] (g.2.2[m]'(by omega))=false→ ∀j (hj:j<k),j<m+1→clash g.2.2[k] (g.2.2[j]'(by omega))=false):=hDD fun F j hj hjm=>by
      rcases Nat.lt_or_eq_of_le (Nat.le_of_lt_succ hjm) with h | rfl
      ·exact HI.out j hj h
      ·exact F
     clear hA2
     generalize g.2.2[k]=x at*
     generalize g.2.2[m]'(by omega)=y at*
     have hC:Hid (clash x y=((x.2.1==y.2.1)&&((x.1==y.1)||(x.2.2==y.2.2)))):=hDD rfl
     rcases t1:(x.2.1==y.2.1) with _ | _
     ·have F:=hDD (CN.out (by rw[hC.out,t1];rfl))
      go_wp2
      go_roundw
      case rel=>exact⟨m+1,by omega,by go_num,F.out,(HBI.out.alloc (by omega) _).alloc (by simp;omega) _⟩
      case measure=>simp[intOf];omega
     rcases t2:(x.1==y.1) with _ | _
     ·rcases t3:(x.2.2==y.2.2) with _ | _
      ·have F:=hDD (CN.out (by rw[hC.out,t1,t2,t3];rfl))
       go_wp2
       go_roundw
       case rel=>exact⟨m+1,by omega,by go_num,F.out,(HBI.out.alloc (by omega) _).alloc (by simp;omega) _⟩
       case measure=>simp[intOf];omega
      ·have F:=hDD (CL.out (by rw[hC.out,t1,t2,t3];rfl))
       go_wp2
       go_ret
       exact⟨ret_bool F.out.symm,(HB6.out.alloc (by omega) _).alloc (by simp;omega) _⟩
     ·have F:=hDD (CL.out (by rw[hC.out,t1,t2];rfl))
      go_wp2
      go_ret
      exact⟨ret_bool F.out.symm,(HB6.out.alloc (by omega) _).alloc (by simp;omega) _⟩
    ·obtain rfl:m=k:=by omega
     go_wp2
     go_roundw
     case rel=>exact⟨m+1,by omega,by go_num,fun _=>e0,fun i hi him j hj=>by
      rcases Nat.lt_or_eq_of_le (Nat.le_of_lt_succ him) with h | rfl
      ·exact HA.out i hi h j hj
      ·exact HI.out j hj hj,HB5.out.trans (HBI.out.mono (by omega))⟩
     case measure=>simp[intOf];omega
  ·obtain rfl:k=g.2.2.length:=by omega
   go_wp2_with fail
   refine(specIsGraph_any _ g _ (HG.out.below HB3.out)).mono ?_
   rintro e wz ⟨rfl,bz⟩
   have BZ:=hDD bz
   have F:Hid (grB g=foldB g):=hDD (by
    rcases e0:grB g with _ | _
    ·exact(foldB_no e0).symm
    ·exact(foldB_true e0 fun i hi j hj=>HA.out i hi hi j hj).symm)
   clear bz
   go_wp2
   go_ret
   exact⟨ret_bool F.out,HB3.out.trans (BZ.out.mono (by omega))⟩
set_option maxHeartbeats 2000000 in
theorem implIsFolded_any (v:Value) (g:GrD) (w:World) (h:ArgG w v g):
  Calls Tryz.prog 62 #[v] w fun e w'=>e= .returned (.bool (foldB g))∧Below w.heap.size w w':=by
 have HG:=hDD h
 obtain⟨s,rfl,_,_,ha⟩:=h
 have H:=hDD ha
 obtain⟨A,cap,rfl,hcap,hm,hn0,_⟩:=ha
 unfold maxLen at hm
 have bx:Below w.heap.size w (w.alloc (Obj.cells #[Value.int IntKind.i64 g.1,Value.int IntKind.i64 g.2.1, .slice A g.2.2.length cap] 31)):=(by repeat(first | exact Below.refl _ _ | (refine Below.setCell ?_ (by first | omega | (simp<;>omega)) _) | (refine bel_drewN ?_ _) | (refine Below.drew ?_) | (refine Below.alloc ?_ (by first | omega | (simp<;>omega)) _)))
 have kx:(w.alloc (Obj.cells #[Value.int IntKind.i64 g.1,Value.int IntKind.i64 g.2.1, .slice A g.2.2.length cap] 31)).cell? ⟨w.heap.size,2,none⟩=some (.slice A g.2.2.length cap):=by simp[go_sem]
 have sx:w.heap.size<(w.alloc (Obj.cells #[Value.int IntKind.i64 g.1,Value.int IntKind.i64 g.2.1, .slice A g.2.2.length cap] 31)).heap.size:=by simp
 have BX:=hDD bx
 have KX:=hDD kx
 clear bx kx
 go_enter Tryz.func62,Tryz.ntmps62
 go_wp2_with fail
 refine(implIsGraph_any _ g _ (HG.out.below BX.out)).mono ?_
 rintro e w1 ⟨rfl,b1⟩
 have HB:=hDD (BX.out.trans (b1.mono BX.out.size))
 have k2:=(b1.cell (p:=⟨w.heap.size,2,none⟩) sx).trans KX.out
 have hs0:w.heap.size<w1.heap.size:=by have:=b1.size;omega
 have K2:=hDD k2
 clear b1 sx
 rcases e0:grB g with _ | _
 ·go_wp2
  go_ret
  exact⟨ret_bool (foldB_no e0).symm,HB.out⟩
 go_wp2
 clear k2
 go_loopw [13] (fun i wo=> ∃k:Nat,k≤g.2.2.length∧i= .int .i64 k∧(∀i (hi:i<g.2.2.length),i<k→ ∀j (hj:j<g.2.2.length),i<j→clash g.2.2[j] g.2.2[i]=false)∧Below w1.heap.size w1 wo) (fun i _=>g.2.2.length-(intOf i).toNat)
 case atStart=>exact⟨0,Nat.zero_le _,rfl,fun i hi h=>absurd h (by omega),Below.refl _ _⟩
 case round=>
  obtain⟨k,hk,rfl,hall,hbel⟩:=hrel
  obtain⟨wo,rfl⟩: ∃wo:World,wo=wr:=⟨_,rfl⟩
  have HA:=hDD hall
  have HB2:=hDD hbel
  have HB3:=hDD (HB.out.trans (hbel.mono HB.out.size))
  have hsz:=hbel.size
  have p2:=(hbel.cell (p:=⟨w.heap.size,2,none⟩) hs0).trans K2.out
  have hws:w.heap.size<wo.heap.size:=by omega
  clear hall hbel
  by_cases hlt:k<g.2.2.length
  ·obtain⟨b,off,rfl,hbl,c0,c1,c2,_⟩:=(H.out.below HB3.out).at hlt
   have j1:((k:Int)+1)≤(g.2.2.length:Int):=by omega
   have j0:(0:Int)≤(k:Int)+1:=by omega
   have j2:((k:Int)+1)≤(cap:Int):=by omega
   have CUT:=hDD (H.out.cut (k:=k+1) (by omega))
   generalize hx:g.2.2[k]=x at c0 c1 c2
   have HX:=hDD hx
   clear hx
   have hwr0:w.heap.size<wo.heap.size:=hws
   by_cases hcx:cap=k+1
   ·have hend:g.2.2.length=k+1:=by omega
    go_wp2
    refine wp_loop_rounds 1 ?_
    rw[rounds_succ]
    have hz0:g.2.2.length-(k+1)=0:=by omega
    go_wp2
    go_roundw
    case rel=>exact⟨k+1,by omega,by go_num,fun i hi him j hj hij=>by
      rcases Nat.lt_or_eq_of_le (Nat.le_of_lt_succ him) with h | rfl
      ·exact HA.out i hi h j hj hij
      ·omega,HB2.out.alloc (by omega) _⟩
    case measure=>simp[intOf];omega
   ·have cu:=CUT.out
    rw[if_neg hcx] at cu
    simp only[Option.map_some,Addr.add_lit] at cu
    have CU:=hDD cu
    clear cu
    obtain⟨N,hN⟩: ∃N,N=g.2.2.length-(k+1):=⟨_,rfl⟩
    rw[←hN] at CU
    have hN2:(N:Int)=(g.2.2.length:Int)-((k:Int)+1):=by omega
    have hN3:k+1+N=g.2.2.length:=by omega
    go_wp2
    have hq:Below wo.heap.size wo (wo.alloc (Obj.cells #[Value.int IntKind.i64 x.1,Value.int IntKind.i64 x.2.1,Value.int IntKind.i64 x.2.2] 54)):=(Below.refl _ _).alloc (Nat.le_refl _) _
    have l0:(wo.alloc (Obj.cells #[Value.int IntKind.i64 x.1,Value.int IntKind.i64 x.2.1,Value.int IntKind.i64 x.2.2] 54)).cell? ⟨wo.heap.size,0,none⟩=some (.int .i64 x.1):=by simp[go_sem]
    have l1:(wo.alloc (Obj.cells #[Value.int IntKind.i64 x.1,Value.int IntKind.i64 x.2.1,Value.int IntKind.i64 x.2.2] 54)).cell? ⟨wo.heap.size,1,none⟩=some (.int .i64 x.2.1):=by simp[go_sem]
    have l2:(wo.alloc (Obj.cells #[Value.int IntKind.i64 x.1,Value.int IntKind.i64 x.2.1,Value.int IntKind.i64 x.2.2] 54)).cell? ⟨wo.heap.size,2,none⟩=some (.int .i64 x.2.2):=by simp[go_sem]
    have sq:wo.heap.size<(wo.alloc (Obj.cells #[Value.int IntKind.i64 x.1,Value.int IntKind.i64 x.2.1,Value.int IntKind.i64 x.2.2] 54)).heap.size:=by simp
    generalize wo.alloc (Obj.cells #[Value.int IntKind.i64 x.1,Value.int IntKind.i64 x.2.1,Value.int IntKind.i64 x.2.2] 54)=wq at hq l0 l1 l2 sq⊢
    have HQ:=hDD hq
    have L0:=hDD l0
    have L1:=hDD l1
    have L2:=hDD l2
    have HQ3:=hDD (HB3.out.trans (hq.mono (by omega)))
    have HQ2:=hDD (HB2.out.trans (hq.mono (by omega)))
    clear hq l0 l1 l2
    go_loopw [24] (fun j wr=> ∃m:Nat,m≤N∧j= .int .i64 m∧(∀j (hj:j<g.2.2.length),k<j→j<k+1+m→clash g.2.2[j] x=false)∧Below wq.heap.size wq wr) (fun j _=>N-(intOf j).toNat)
    case atStart=>exact⟨0,Nat.zero_le _,rfl,fun j hj h1 h2=>absurd h2 (by omega),Below.refl _ _⟩
    case round=>
     obtain⟨m,hm1,rfl,hin,hbi⟩:=hrel
     have HI:=hDD hin
     have HBI:=hDD hbi
     have szi:=hbi.size
     have l0:=(hbi.cell (p:=⟨wo.heap.size,0,none⟩) sq).trans L0.out
     have l1:=(hbi.cell (p:=⟨wo.heap.size,1,none⟩) sq).trans L1.out
     have l2:=(hbi.cell (p:=⟨wo.heap.size,2,none⟩) sq).trans L2.out
     have HB6:=hDD (HQ3.out.trans (hbi.mono (by omega)))
     have hwr:wo.heap.size<wr.heap.size:=by omega
     clear hin hbi
     by_cases hlt2:m<N
     ·have hgm:(g.2.2.drop (k+1))[m]'(by simp;omega)=g.2.2[k+1+m]'(by omega):=by rw[List.getElem_drop]
      obtain⟨b2,off2,hA2,hbl2,d0,d1,d2,_⟩:=(CU.out.below HB6.out).at (k:=m) (by simp;omega)
      rw[hgm] at d0 d1 d2
      obtain⟨rfl,rfl⟩:b=b2∧off+(k+1)*3=off2:=by simpa using hA2
      have CL:Hid (clash (g.2.2[k+1+m]'(by omega)) x=true→foldB g=false):=hDD (fun h=>foldB_clash (i:=k+1+m) (k:=k) (by omega) (by omega) (by rw[HX.out];exact h))
      have CN:Hid (clash (g.2.2[k+1+m]'(by omega)) x=false→ ∀j (hj:j<g.2.2.length),k<j→j<k+1+(m+1)→clash g.2.2[j] x=false):=hDD fun F j hj hkj hjm=>by
       by_cases e:j=k+1+m
       ·subst e;exact F
       ·exact HI.out j hj hkj (by omega)
      clear hA2 hgm
      generalize g.2.2[k+1+m]'(by omega)=y at*
      have hC:Hid (clash y x=((x.2.1==y.2.1)&&((x.1==y.1)||(x.2.2==y.2.2)))):=hDD (by rw[clash_comm];rfl)
      rcases t1:(x.2.1==y.2.1) with _ | _
      ·have F:=hDD (CN.out (by rw[hC.out,t1];rfl))
       go_wp2
       go_roundw
       case rel=>exact⟨m+1,by omega,by go_num,F.out,HBI.out.alloc (by omega) _⟩
       case measure=>simp[intOf];omega
      rcases t2:(x.1==y.1) with _ | _
      ·rcases t3:(x.2.2==y.2.2) with _ | _
       ·have F:=hDD (CN.out (by rw[hC.out,t1,t2,t3];rfl))
        go_wp2
        go_roundw
        case rel=>exact⟨m+1,by omega,by go_num,F.out,HBI.out.alloc (by omega) _⟩
        case measure=>simp[intOf];omega
       ·have F:=hDD (CL.out (by rw[hC.out,t1,t2,t3];rfl))
        go_wp2
        go_ret
        exact⟨ret_bool F.out.symm,HB6.out.alloc (by omega) _⟩
      ·have F:=hDD (CL.out (by rw[hC.out,t1,t2];rfl))
       go_wp2
       go_ret
       exact⟨ret_bool F.out.symm,HB6.out.alloc (by omega) _⟩
     ·obtain rfl:m=N:=by omega
      go_wp2
      go_roundw
      case rel=>exact⟨k+1,by omega,by go_num,fun i hi him j hj hij=>by
       rcases Nat.lt_or_eq_of_le (Nat.le_of_lt_succ him) with h | rfl
       ·exact HA.out i hi h j hj hij
       ·have:=HI.out j hj hij (by omega)
        rw[HX.out]
        exact this,HQ2.out.trans (HBI.out.mono (by omega))⟩
      case measure=>simp[intOf];omega
  ·obtain rfl:k=g.2.2.length:=by omega
   have F:Hid (foldB g=true):=hDD (foldB_true e0 fun i hi j hj=>HA.out j (by omega) (by omega) i hi hj)
   go_wp2
   go_ret
   exact⟨ret_bool F.out.symm,HB3.out⟩
end Go.Proofs.YtfadnkjlilhneaaGreat
namespace Go.Proofs.YtfadnkjlilhneaaGreat
set_option maxRecDepth 20000
set_option linter.unusedVariables false
set_option linter.unusedSimpArgs false
open Go.RowKit
def lettersL:Nat→List Int
 | 0=> []
 | n+1=>lettersL n++ [((n:Nat):Int)+1,-(((n:Nat):Int)+1)]
theorem lettersL_len (n:Nat):(lettersL n).length=2*n:=by
 induction n with
 | zero=>rfl
 | succ n ih=>simp[lettersL,ih];omega
set_option maxHeartbeats 1000000 in
theorem l5Letters_any (n:Nat) (w:World) (hn:n≤1073741824):
  Calls Tryz.prog 83 #[.int .i64 n] w fun e w'=> ∃r,e= .returned r∧OwI w' w.heap.size r (lettersL n)∧Below w.heap.size w w':=by
 go_enter Tryz.func83,Tryz.ntmps83
 go_wp2
 go_loopw [3,4] (fun out i wr=> ∃k:Nat,k≤n∧i= .int .i64 (k+1)∧OwI wr w.heap.size out (lettersL k)∧Below w.heap.size w wr)
  (fun _ i _=>n+1-(intOf i).toNat)
 case atStart=>exact⟨0,Nat.zero_le _,rfl,OwI_lit _ [] I64s_nil (by simp) (Nat.le_refl _),(Below.refl _ _).alloc (Nat.le_refl _) _⟩
 case round=>
  obtain⟨k,hk,rfl,hown,hbel⟩:=hrel
  have hsz:=hbel.size
  have hal:=lettersL_len k
  by_cases hlt:k<n
  ·have HS:Hid (lettersL (k+1)=lettersL k++ [(k:Int)+1,-((k:Int)+1)]):=hDD rfl
   generalize lettersL k=acc at hown HS hal
   have HO:=hDD hown
   obtain⟨A1,cap1,rfl,hcap1,hm1,_,_⟩:=hown.form
   clear hown
   have HX:Hid (I64 ((k:Int)+1)):=hDD ⟨by omega,by omega⟩
   have HY:Hid (I64 (-((k:Int)+1))):=hDD ⟨by omega,by omega⟩
   go_wp2_with (first | ((at_builtin;refine push_int rfl (.tmp 11) (.tmp 13) rfl _ _ _ (OwI.alloc HO.out _) rfl _ _ rfl (cell_new1 _ _ _) HX.out (by first | omega | (simp<;>omega)) (by first | omega | (simp<;>omega)) ?_;intro v1 wv1 o1 g1 p1);have hz1:=g1.size;simp at hz1) | (at_builtin;refine push_int rfl (.tmp 15) (.tmp 18) rfl _ _ _ (OwI.alloc o1 _) rfl _ _ rfl (cell_new1 _ _ _) HY.out (by first | omega | (simp<;>omega)) (by first | omega | (simp<;>omega)) ?_;intro v2 wv2 o2 g2 p2))
   go_roundw
   case rel=>
    have hb1:=bel_push hbel hsz HO.out.1 (Nat.le_refl _) g1
    exact⟨k+1,by omega,by go_num,by rw[HS.out];simpa using o2,bel_push hb1 hb1.size o1.1 (Nat.le_refl _) g2⟩
   case measure=>simp[intOf];omega
  ·obtain rfl:k=n:=by omega
   go_wp2
   go_ret
   exact⟨_,rfl,hown,hbel⟩
set_option maxHeartbeats 1000000 in
theorem letters_any (n:Nat) (w:World) (hn:n≤1073741824):
  Calls Tryz.prog 66 #[.int .i64 n] w fun e w'=> ∃r,e= .returned r∧OwI w' w.heap.size r (lettersL n)∧Below w.heap.size w w':=by
 go_enter Tryz.func66,Tryz.ntmps66
 go_wp2
 go_loopw [3,4] (fun out i wr=> ∃k:Nat,k≤n∧i= .int .i64 (k+1)∧OwI wr w.heap.size out (lettersL k)∧Below w.heap.size w wr)
  (fun _ i _=>n+1-(intOf i).toNat)
 case atStart=>exact⟨0,Nat.zero_le _,rfl,OwI_lit _ [] I64s_nil (by simp) (Nat.le_refl _),(Below.refl _ _).alloc (Nat.le_refl _) _⟩
 case round=>
  obtain⟨k,hk,rfl,hown,hbel⟩:=hrel
  have hsz:=hbel.size
  have hal:=lettersL_len k
  by_cases hlt:k<n
  ·have HS:Hid (lettersL (k+1)=lettersL k++ [(k:Int)+1,-((k:Int)+1)]):=hDD rfl
   generalize lettersL k=acc at hown HS hal
   have HO:=hDD hown
   obtain⟨A1,cap1,rfl,hcap1,hm1,_,_⟩:=hown.form
   clear hown
   have HX:Hid (I64s [(k:Int)+1,-((k:Int)+1)]):=hDD (fun x hx=>by simp at hx;unfold I64;omega)
   have HL:Hid (RdI (wr.alloc (.cells #[.int .i64 ((k:Int)+1), .int .i64 (-((k:Int)+1))] 3)) (.slice (some ⟨wr.heap.size,0,none⟩) 2 2) [(k:Int)+1,-((k:Int)+1)]):=
    hDD (OwI_lit wr _ HX.out (by simp) (Nat.le_refl _)).rd
   go_wp2_with (at_builtin;refine append_ints rfl (.tmp 11) (.tmp 15) rfl w.heap.size _ _ (HO.out.alloc _) rfl _ _ HL.out rfl (by simp;omega) (by first | omega | (simp;omega)) ?_;intro v2 w2 o2 g2 p2)
   go_roundw
   case rel=>exact⟨k+1,by omega,by go_num,by rw[HS.out];exact o2,bel_push hbel hsz HO.out.1 (Nat.le_refl _) g2⟩
   case measure=>simp[intOf];omega
  ·obtain rfl:k=n:=by omega
   go_wp2
   go_ret
   exact⟨_,rfl,hown,hbel⟩
end Go.Proofs.YtfadnkjlilhneaaGreat
namespace Go.Proofs.YtfadnkjlilhneaaGreat
set_option maxRecDepth 20000
set_option linter.unusedVariables false
set_option linter.unusedSimpArgs false
open Go.RowKit
inductive Conn (es:List EdD) (v:Int):Int→Prop
 | base:Conn es v v
 | fwd (e:EdD) (he:e∈es) (h:Conn es v e.1):Conn es v e.2.2
 | back (e:EdD) (he:e∈es) (h:Conn es v e.2.2):Conn es v e.1
def stepR (o:List Int) (e:EdD):List Int:=
 if e.2.2∈(if e.1∈o then insF cmpI o e.2.2 else o) then insF cmpI (if e.1∈o then insF cmpI o e.2.2 else o) e.1 else(if e.1∈o then insF cmpI o e.2.2 else o)
theorem insF_mem {xs:List Int} {x y:Int}:y∈insF cmpI xs x↔y=x∨y∈xs:=by rw[insF_eq];exact insR_mem x xs cmpI_ord y
theorem stepR_mem {o:List Int} {e:EdD} {x:Int}:x∈stepR o e↔x∈o∨((e.1∈o∨e.2.2∈o)∧(x=e.1∨x=e.2.2)):=by
 unfold stepR
 by_cases h1:e.1∈o
 ·simp only[h1,if_true]
  have h2:e.2.2∈insF cmpI o e.2.2:=insF_mem.2 (.inl rfl)
  rw[if_pos h2,insF_mem,insF_mem]
  constructor
  ·rintro(h | h | h)
   ·exact .inr ⟨.inl trivial, .inl h⟩
   ·exact .inr ⟨.inl trivial, .inr h⟩
   ·exact .inl h
  ·rintro(h | ⟨_,h | h⟩)
   ·exact .inr (.inr h)
   ·exact .inl h
   ·exact .inr (.inl h)
 ·simp only[h1,if_false]
  by_cases h2:e.2.2∈o
  ·rw[if_pos h2,insF_mem]
   constructor
   ·rintro(h | h)
    ·exact .inr ⟨.inr h2, .inl h⟩
    ·exact .inl h
   ·rintro(h | ⟨_,h | h⟩)
    ·exact .inr h
    ·exact .inl h
    ·exact .inr (by rw[h];exact h2)
  ·rw[if_neg h2]
   constructor
   ·exact .inl
   ·rintro(h | ⟨h | h,_⟩)
    ·exact h
    ·exact absurd h (by simp)
    ·exact absurd h h2
def passR (es:List EdD) (o:List Int):List Int:=es.foldl stepR o
theorem passR_mono {es:List EdD} {o:List Int} {x:Int} (h:x∈o):x∈passR es o:=by
 unfold passR
 induction es generalizing o with
 | nil=>exact h
 | cons e es ih=>exact ih (stepR_mem.2 (.inl h))
theorem passR_both {es:List EdD} {o:List Int} {e:EdD} (he:e∈es) (h:e.1∈o∨e.2.2∈o):e.1∈passR es o∧e.2.2∈passR es o:=by
 unfold passR
 induction es generalizing o with
 | nil=>cases he
 | cons d es ih=>
   rcases List.mem_cons.1 he with rfl | he
   ·exact⟨passR_mono (es:=es) (o:=stepR o e) (stepR_mem.2 (.inr ⟨h, .inl rfl⟩)),passR_mono (es:=es) (o:=stepR o e) (stepR_mem.2 (.inr ⟨h, .inr rfl⟩))⟩
   ·refine ih he ?_
    rcases h with h | h
    ·exact .inl (stepR_mem.2 (.inl h))
    ·exact .inr (stepR_mem.2 (.inl h))
theorem passR_sound {es es':List EdD} {v:Int} {o:List Int} (hsub: ∀e∈es',e∈es) (h: ∀x∈o,Conn es v x): ∀x∈passR es' o,Conn es v x:=by
 unfold passR
 induction es' generalizing o with
 | nil=>exact h
 | cons e es' ih=>
   refine ih (fun d hd=>hsub d (by simp[hd])) fun x hx=> ?_
   have he:=hsub e (by simp)
   rcases stepR_mem.1 hx with hx | ⟨h1 | h1,rfl | rfl⟩
   ·exact h x hx
   ·exact h _ h1
   ·exact .fwd e he (h _ h1)
   ·exact .back e he (h _ h1)
   ·exact h _ h1
def Clo (es:List EdD) (o:List Int):Prop:= ∀e∈es,(e.1∈o↔e.2.2∈o)
theorem passR_clo {es:List EdD} {o:List Int} (h:Clo es o): ∀x,x∈passR es o↔x∈o:=by
 have key: ∀es':List EdD,(∀e∈es',e∈es)→ ∀o',(∀x,x∈o'↔x∈o)→ ∀x,x∈es'.foldl stepR o'↔x∈o:=by
  intro es'
  induction es' with
  | nil=>intro _ o' ho;exact ho
  | cons e es' ih=>
    intro hsub o' ho
    refine ih (fun d hd=>hsub d (by simp[hd])) _ fun x=> ?_
    rw[stepR_mem,ho,ho,ho]
    have:=h e (hsub e (by simp))
    constructor
    ·rintro(hx | ⟨h1 | h1,rfl | rfl⟩)
     ·exact hx
     ·exact h1
     ·exact this.1 h1
     ·exact this.2 h1
     ·exact h1
    ·exact .inl
 exact key es (fun _ h=>h) o fun _=>Iff.rfl
def phi (es:List EdD) (o:List Int):Nat:=(es.filter fun e=>decide (e.1∈o∧e.2.2∈o)).length
theorem filter_lt {α:Type} {p q:α→Bool} {l:List α} (hpq: ∀x,p x=true→q x=true) {a:α} (ha:a∈l) (hq:q a=true) (hp:p a=false):(l.filter p).length<(l.filter q).length:=by
 have le: ∀l:List α,(l.filter p).length≤(l.filter q).length:=by
  intro l
  induction l with
  | nil=>simp
  | cons b l ih=>
    rw[List.filter_cons,List.filter_cons]
    split
    ·rename_i h
     rw[if_pos (hpq b h)]
     simp;exact ih
    ·split
     ·simp;omega
     ·exact ih
 induction l with
 | nil=>cases ha
 | cons b l ih=>
   rw[List.filter_cons,List.filter_cons]
   rcases List.mem_cons.1 ha with rfl | ha
   ·rw[if_neg (by simp[hp]),if_pos hq]
    have:=le l
    simp;omega
   ·have:=ih ha
    split
    ·rename_i h
     rw[if_pos (hpq b h)]
     simp;exact this
    ·split
     ·simp;omega
     ·exact this
theorem phi_lt {es:List EdD} {o:List Int} (h: ¬Clo es o):phi es o<phi es (passR es o):=by
 unfold Clo at h
 have: ∃e,e∈es∧ ¬(e.1∈o↔e.2.2∈o):=by
  apply Classical.byContradiction
  intro hn
  exact h fun e he=>Classical.byContradiction fun hne=>hn ⟨e,he,hne⟩
 obtain⟨e,he,hne⟩:=this
 have hor:e.1∈o∨e.2.2∈o:=by
  apply Classical.byContradiction
  intro hn
  exact hne ⟨fun h=>absurd (.inl h) hn,fun h=>absurd (.inr h) hn⟩
 refine filter_lt (fun d hd=> ?_) he ?_ ?_
 ·simp only[decide_eq_true_eq] at hd⊢
  exact⟨passR_mono hd.1,passR_mono hd.2⟩
 ·simp only[decide_eq_true_eq]
  exact passR_both he hor
 ·rw[decide_eq_false_iff_not]
  exact fun hh=>hne ⟨fun _=>hh.2,fun _=>hh.1⟩
def iterR (es:List EdD) (v:Int):Nat→List Int
 | 0=> [v]
 | i+1=>passR es (iterR es v i)
theorem iterR_clo (es:List EdD) (v:Int) (i:Nat):Clo es (iterR es v i)∨i≤phi es (iterR es v i):=by
 induction i with
 | zero=>exact .inr (Nat.zero_le _)
 | succ i ih=>
   by_cases h:Clo es (iterR es v i)
   ·left
    intro e he
    show e.1∈passR es _↔e.2.2∈passR es _
    rw[passR_clo h,passR_clo h]
    exact h e he
   ·right
    have h1:=phi_lt h
    rcases ih with ih | ih
    ·exact absurd ih h
    ·show i+1≤phi es (passR es (iterR es v i))
     omega
def reachL (es:List EdD) (v:Int):List Int:=iterR es v (es.length+1)
theorem reachL_mem (es:List EdD) (v x:Int):x∈reachL es v↔Conn es v x:=by
 have hclo:Clo es (reachL es v):=by
  rcases iterR_clo es v (es.length+1) with h | h
  ·exact h
  ·have:phi es (iterR es v (es.length+1))≤es.length:=List.length_filter_le _ _
   omega
 have hv: ∀i,v∈iterR es v i:=by
  intro i
  induction i with
  | zero=>simp[iterR]
  | succ i ih=>exact passR_mono ih
 have hs: ∀i,∀x∈iterR es v i,Conn es v x:=by
  intro i
  induction i with
  | zero=>intro x hx;simp[iterR] at hx;subst hx;exact .base
  | succ i ih=>exact passR_sound (fun _ h=>h) ih
 refine⟨hs _ x,fun h=> ?_⟩
 induction h with
 | base=>exact hv _
 | fwd e he _ ih=>exact(hclo e he).1 ih
 | back e he _ ih=>exact(hclo e he).2 ih
theorem conn_of_closed {es:List EdD} {v:Int} {S:Int→Prop} (hv:S v) (hc: ∀e∈es,(S e.1↔S e.2.2)) {x:Int} (h:Conn es v x):S x:=by
 induction h with
 | base=>exact hv
 | fwd e he _ ih=>exact(hc e he).1 ih
 | back e he _ ih=>exact(hc e he).2 ih
theorem hasB_iff {l:List Int} {x:Int}:hasB l x=true↔x∈l:=by
 unfold hasB
 rw[List.any_eq_true]
 constructor
 ·rintro⟨y,hy,h⟩
  have:y=x:=by simpa using h
  rw[←this];exact hy
 ·intro h
  exact⟨x,h,by simp⟩
theorem hasB_not {l:List Int} {x:Int} (h:hasB l x=false):x∉l:=fun hm=>by
 rw[hasB_iff.2 hm] at h
 cases h
theorem stepR_len (o:List Int) (e:EdD):(stepR o e).length≤o.length+2:=by
 unfold stepR
 have h1:(if e.1∈o then insF cmpI o e.2.2 else o).length≤o.length+1:=by
  split
  ·exact insF_len _ _
  ·omega
 generalize (if e.1∈o then insF cmpI o e.2.2 else o)=o1 at h1⊢
 split
 ·have:=insF_len (c:=cmpI) o1 e.1
  omega
 ·omega
theorem foldR_len (es:List EdD) (o:List Int):(es.foldl stepR o).length≤o.length+2*es.length:=by
 induction es generalizing o with
 | nil=>simp
 | cons e es ih=>
   have h1:=ih (stepR o e)
   have h2:=stepR_len o e
   simp only[List.foldl_cons,List.length_cons]
   omega
theorem iterR_len (es:List EdD) (v:Int) (i:Nat) (hl:es.length≤120):(iterR es v i).length≤1+240*i:=by
 induction i with
 | zero=>simp[iterR]
 | succ i ih=>
   have:=foldR_len es (iterR es v i)
   show(passR es (iterR es v i)).length≤_
   unfold passR
   omega
def rsL (es:List EdD) (v:Int) (i k:Nat):List Int:=(es.take k).foldl stepR (iterR es v i)
theorem rsL_succ (es:List EdD) (v:Int) (i k:Nat) (h:k<es.length):rsL es v i (k+1)=stepR (rsL es v i k) es[k]:=by
 unfold rsL
 rw[List.take_succ_eq_append_getElem h,List.foldl_append]
 rfl
theorem rsL_len (es:List EdD) (v:Int) (i k:Nat) (hl:es.length≤120) (hi:i≤121) (hk:k≤120):(rsL es v i k).length≤100000:=by
 have h1:=iterR_len es v i hl
 have h2:=foldR_len (es.take k) (iterR es v i)
 have h3:(es.take k).length≤k:=List.length_take_le _ _
 unfold rsL
 omega
theorem stepR_ff {o:List Int} {e:EdD} (h1:hasB o e.1=false) (h2:hasB o e.2.2=false):stepR o e=o:=by
 unfold stepR
 rw[if_neg (hasB_not h1),if_neg (hasB_not h2)]
theorem stepR_ft {o:List Int} {e:EdD} (h1:hasB o e.1=false) (h2:hasB o e.2.2=true):stepR o e=insF cmpI o e.1:=by
 unfold stepR
 rw[if_neg (hasB_not h1),if_pos (hasB_iff.1 h2)]
theorem stepR_t {o:List Int} {e:EdD} (h1:hasB o e.1=true):stepR o e=insF cmpI (insF cmpI o e.2.2) e.1:=by
 unfold stepR
 rw[if_pos (hasB_iff.1 h1),if_pos (insF_mem.2 (.inl rfl))]
set_option maxHeartbeats 800000 in
theorem reachedFrom_any (v:Value) (g:GrD) (u:Int) (w:World) (h:ArgG w v g) (hg:grB g=true) (hu:inB u 0 (wrap64 (g.2.1-1))=true) (hu64:I64 u):
  Calls Tryz.prog 126 #[v, .int .i64 u] w fun e w'=> ∃r,e= .returned r∧OwI w' w.heap.size r (reachL g.2.2 u)∧Below w.heap.size w w':=by
 have HG:=hDD h
 obtain⟨_,hsz40,hl120,_⟩:=grB_parts hg
 have hw1:wrap64 (g.2.1-1)=g.2.1-1:=IntWalk.wrap64_in _ ⟨by omega,by omega⟩
 rw[hw1] at hu
 clear hw1
 have HU:=hDD hu64
 clear hu64
 obtain⟨s,rfl,_,_,ha⟩:=h
 have H:=hDD ha
 obtain⟨A,cap,rfl,hcap,hm,_,hr,_⟩:=ha
 have HR:=hDD hr
 unfold maxLen at hm
 have bx:Below w.heap.size w (w.alloc (Obj.cells #[Value.int IntKind.i64 g.1,Value.int IntKind.i64 g.2.1, .slice A g.2.2.length cap] 31)):=(by repeat(first | exact Below.refl _ _ | (refine Below.setCell ?_ (by first | omega | (simp<;>omega)) _) | (refine bel_drewN ?_ _) | (refine Below.drew ?_) | (refine Below.alloc ?_ (by first | omega | (simp<;>omega)) _)))
 have kx1:(w.alloc (Obj.cells #[Value.int IntKind.i64 g.1,Value.int IntKind.i64 g.2.1, .slice A g.2.2.length cap] 31)).cell? ⟨w.heap.size,1,none⟩=some (.int .i64 g.2.1):=by simp[go_sem]
 have kx:(w.alloc (Obj.cells #[Value.int IntKind.i64 g.1,Value.int IntKind.i64 g.2.1, .slice A g.2.2.length cap] 31)).cell? ⟨w.heap.size,2,none⟩=some (.slice A g.2.2.length cap):=by simp[go_sem]
 have sx:w.heap.size<(w.alloc (Obj.cells #[Value.int IntKind.i64 g.1,Value.int IntKind.i64 g.2.1, .slice A g.2.2.length cap] 31)).heap.size:=by simp
 have BX:=hDD bx
 have KX:=hDD kx
 have KX1:=hDD kx1
 clear bx kx kx1 hr
 go_enter Tryz.func126,Tryz.ntmps126
 go_wp2_with fail
 have hgr:=specIsGraph_any _ g _ (HG.out.below BX.out)
 rw[hg] at hgr
 have HGR:=hDD hgr
 clear hgr
 refine HGR.out.mono ?_
 rintro e w0 ⟨rfl,b1⟩
 have B0:=hDD (BX.out.trans (b1.mono BX.out.size))
 have k2:=(b1.cell (p:=⟨w.heap.size,2,none⟩) sx).trans KX.out
 have k1:=(b1.cell (p:=⟨w.heap.size,1,none⟩) sx).trans KX1.out
 have hs0:w.heap.size<w0.heap.size:=by have:=b1.size;omega
 clear b1 sx HGR
 go_wp2_with fail
 have hin:=l1In_any u 0 (g.2.1-1) w0
 rw[hu] at hin
 have HIN:=hDD hin
 clear hin
 refine HIN.out.mono ?_
 rintro e w' ⟨rfl,rfl⟩
 clear HIN
 go_wp2
 have hb:Below w0.heap.size w0 (w0.alloc (Obj.cells #[Value.int IntKind.i64 u] 3)):=(Below.refl _ _).alloc (Nat.le_refl _) _
 have o0:OwI (w0.alloc (Obj.cells #[Value.int IntKind.i64 u] 3)) w0.heap.size (.slice (some ⟨w0.heap.size,0,none⟩) 1 1) [u]:=OwI_lit w0 [u] (fun x hx=>by simp at hx;subst hx;exact HU.out) (by simp) (Nat.le_refl _)
 have hs1:w0.heap.size<(w0.alloc (Obj.cells #[Value.int IntKind.i64 u] 3)).heap.size:=by simp
 generalize w0.alloc (Obj.cells #[Value.int IntKind.i64 u] 3)=w1 at hb o0 hs1⊢
 have HB:=hDD (B0.out.trans (hb.mono B0.out.size))
 have K2:=hDD ((hb.cell (p:=⟨w.heap.size,2,none⟩) hs0).trans k2)
 have O0:=hDD (o0.mono (base':=w.heap.size+1) (by omega))
 clear hb k1 k2 o0
 go_loopw [5,6] (fun out i wo=> ∃k:Nat,k≤g.2.2.length+1∧i= .int .i64 k∧OwI wo (w.heap.size+1) out (iterR g.2.2 u k)∧Below (w.heap.size+1) w1 wo) (fun _ i _=>g.2.2.length+1-(intOf i).toNat)
 case atStart=>exact⟨0,Nat.zero_le _,rfl,O0.out,Below.refl _ _⟩
 case round=>
  obtain⟨k,hk,rfl,hown,hbel⟩:=hrel
  obtain⟨wo,rfl⟩: ∃wo:World,wo=wr:=⟨_,rfl⟩
  have HB2:=hDD hbel
  have HB3:=hDD (HB.out.trans (hbel.mono (by omega)))
  have hsz:=hbel.size
  have p2:=(hbel.cell (p:=⟨w.heap.size,2,none⟩) (show w.heap.size<w.heap.size+1 by omega)).trans K2.out
  have hws:w.heap.size<wo.heap.size:=by omega
  have hil:=iterR_len g.2.2 u k hl120
  have HO:=hDD hown
  obtain⟨A1,cap1,rfl,_⟩:=hown.form
  clear hown hbel
  by_cases hlt:k<g.2.2.length+1
  ·have hlt':(k:Int)<(g.2.2.length:Int)+1:=by omega
   go_wp2
   go_loopw [5,7] (fun out j wr=> ∃m:Nat,m≤g.2.2.length∧j= .int .i64 m∧OwI wr (w.heap.size+1) out (rsL g.2.2 u k m)∧Below (w.heap.size+1) wo wr) (fun _ j _=>g.2.2.length-(intOf j).toNat)
   case atStart=>exact⟨0,Nat.zero_le _,rfl,HO.out,Below.refl _ _⟩
   case round=>
    obtain⟨m,hm1,rfl,hown,hbi⟩:=hrel
    have hsi:=hbi.size
    have p2:=(hbi.cell (p:=⟨w.heap.size,2,none⟩) (show w.heap.size<w.heap.size+1 by omega)).trans p2
    have HBI:=hDD hbi
    have HB4:=hDD (HB3.out.trans (hbi.mono (by omega)))
    have hwr:w.heap.size<wr.heap.size:=by omega
    have hrl:=rsL_len g.2.2 u k m hl120 (by omega) (by omega)
    clear hbi
    by_cases hlt2:m<g.2.2.length
    ·obtain⟨b,off,rfl,hbl,c0,c1,c2,_⟩:=(H.out.below HB4.out).at hlt2
     have HX:=hDD (HR.out g.2.2[m] (by simp))
     have HS:=hDD (rsL_succ g.2.2 u k m hlt2)
     generalize g.2.2[m]=e at*
     generalize rsL g.2.2 u k m=o at*
     have HO2:=hDD hown
     obtain⟨A2,cap2,rfl,_⟩:=hown.form
     clear hown
     go_wp2_with fail
     obtain⟨W,hW⟩: ∃W,W=World.alloc wr (Obj.cells #[Value.int IntKind.i64 e.1,Value.int IntKind.i64 e.2.1,Value.int IntKind.i64 e.2.2] 54):=⟨_,rfl⟩
     rw[←hW]
     have bW:Below wr.heap.size wr W:=by rw[hW];exact(Below.refl _ _).alloc (Nat.le_refl _) _
     have sW:wr.heap.size<W.heap.size:=by rw[hW];simp
     have l0:W.cell? ⟨wr.heap.size,0,none⟩=some (.int .i64 e.1):=by rw[hW];simp[go_sem]
     have l2:W.cell? ⟨wr.heap.size,2,none⟩=some (.int .i64 e.2.2):=by rw[hW];simp[go_sem]
     have OW:=hDD (HO2.out.below bW)
     have BW:=hDD (HBI.out.trans (bW.mono (by omega)))
     clear hW bW p2 c0 c1 c2
     refine(l4Has_any _ o e.1 _ OW.out.rd.arg (by omega)).mono ?_
     rintro e' w' ⟨rfl,rfl⟩
     rcases h1:hasB o e.1 with _ | _
     ·go_wp2_with fail
      refine(l4Has_any _ o e.2.2 _ OW.out.rd.arg (by omega)).mono ?_
      rintro e' w' ⟨rfl,rfl⟩
      rcases h2:hasB o e.2.2 with _ | _
      ·have F:=hDD (stepR_ff h1 h2)
       go_wp2
       go_roundw
       case rel=>exact⟨m+1,by omega,by go_num,by rw[HS.out,F.out];exact OW.out,BW.out⟩
       case measure=>simp[intOf];omega
      ·have F:=hDD (stepR_ft h1 h2)
       go_wp2_with fail
       refine(l4Add_any _ o e.1 _ OW.out.rd HX.out.1 (by omega)).mono ?_
       rintro e' w2 ⟨r2,rfl,o2,b2⟩
       have O2:=hDD o2
       have B2:=hDD b2
       obtain⟨A3,cap3,rfl,_⟩:=o2.form
       clear o2 b2
       go_wp2
       go_roundw
       case rel=>exact⟨m+1,by omega,by go_num,by rw[HS.out,F.out];exact O2.out.mono (by omega),BW.out.trans (B2.out.mono (by omega))⟩
       case measure=>simp[intOf];omega
     ·have F:=hDD (stepR_t h1)
      go_wp2_with fail
      refine(l4Add_any _ o e.2.2 _ OW.out.rd HX.out.2.2 (by omega)).mono ?_
      rintro e' w2 ⟨r2,rfl,o2,b2⟩
      have O2:=hDD o2
      have B2:=hDD b2
      have s2:=b2.size
      have hq0:=(b2.cell (p:=⟨wr.heap.size,0,none⟩) sW).trans l0
      have hq2:=(b2.cell (p:=⟨wr.heap.size,2,none⟩) sW).trans l2
      obtain⟨A3,cap3,rfl,_⟩:=o2.form
      have hl2:=insF_len (c:=cmpI) o e.2.2
      have hm2:hasB (insF cmpI o e.2.2) e.2.2=true:=hasB_iff.2 (insF_mem.2 (.inl rfl))
      have HM2:=hDD hm2
      clear o2 b2 l0 l2 hm2
      generalize insF cmpI o e.2.2=o1 at*
      go_wp2_with fail
      refine(l4Has_any _ o1 e.2.2 _ O2.out.rd.arg (by omega)).mono ?_
      rintro e' w' ⟨rfl,rfl⟩
      rw[HM2.out]
      go_wp2_with fail
      refine(l4Add_any _ o1 e.1 _ O2.out.rd HX.out.1 (by omega)).mono ?_
      rintro e' w3 ⟨r3,rfl,o3,b3⟩
      have O3:=hDD o3
      have B3:=hDD b3
      obtain⟨A4,cap4,rfl,_⟩:=o3.form
      clear o3 b3
      go_wp2
      go_roundw
      case rel=>exact⟨m+1,by omega,by go_num,by rw[HS.out,F.out];exact O3.out.mono (by omega),(BW.out.trans (B2.out.mono (by omega))).trans (B3.out.mono (by omega))⟩
      case measure=>simp[intOf];omega
    ·obtain rfl:m=g.2.2.length:=by omega
     have F:Hid (rsL g.2.2 u k g.2.2.length=iterR g.2.2 u (k+1)):=hDD (by unfold rsL;rw[List.take_length];rfl)
     have HO2:=hDD hown
     obtain⟨A2,cap2,rfl,_⟩:=hown.form
     clear hown
     go_wp2
     go_roundw
     case rel=>exact⟨k+1,by omega,by go_num,by rw[←F.out];exact HO2.out,HB2.out.trans HBI.out⟩
     case measure=>simp[intOf];omega
  ·obtain rfl:k=g.2.2.length+1:=by omega
   have hge: ¬((g.2.2.length:Int)+1<(g.2.2.length:Int)+1):=by omega
   go_wp2
   go_ret
   exact⟨_,rfl,HO.out.mono (by omega),HB3.out⟩
theorem mt_clash {v x y y':Int} {e e':EdD} (h:mt v x e=some y) (h':mt v x e'=some y'):clash e e'=true:=by
 unfold mt at h h'
 by_cases hp:0<x
 ·rw[if_pos hp] at h h'
  split at h
  ·rename_i a
   split at h'
   ·rename_i b
    unfold clash
    simp[a.1,a.2,b.1,b.2]
   ·cases h'
  ·cases h
 ·rw[if_neg hp] at h h'
  by_cases hn:x<0
  ·rw[if_pos hn] at h h'
   split at h
   ·rename_i a
    split at h'
    ·rename_i b
     unfold clash
     simp[a.1,a.2,b.1,b.2]
    ·cases h'
   ·cases h
  ·rw[if_neg hn] at h;cases h
theorem steps_one {es:List EdD} (h:Fol es) (v x:Int):(stepsL es v x).length≤1:=by
 unfold stepsL
 unfold Fol at h
 induction es with
 | nil=>simp
 | cons e es ih=>
   have p:=List.pairwise_cons.1 h
   rw[List.filterMap_cons]
   cases hm:mt v x e with
   | none=>exact ih p.2
   | some y=>
     have:es.filterMap (mt v x)= []:=by
      rw[List.filterMap_eq_nil_iff]
      intro e' he'
      cases hm':mt v x e' with
      | none=>rfl
      | some y'=>
        have:=mt_clash hm hm'
        rw[p.1 e' he'] at this
        cases this
     simp[this]
theorem edge_of_gr {g:GrD} (h:grB g=true) {e:EdD} (he:e∈g.2.2):(0≤e.1∧e.1<g.2.1)∧(1≤e.2.1∧e.2.1≤g.1)∧(0≤e.2.2∧e.2.2<g.2.1):=by
 obtain⟨h1,h2,_,h4⟩:=grB_parts h
 obtain⟨k,hk,rfl⟩:=List.getElem_of_mem he
 have:=h4 k hk
 have ho:edgeOk g.1 g.2.1 g.2.2[k]=true:=by
  rcases Nat.eq_zero_or_pos k with rfl | h0
  ·rw[okE_zero hk] at this;exact this
  ·rw[okE_pos h0 hk,Bool.and_eq_true] at this;exact this.1
 unfold edgeOk at ho
 rw[IntWalk.wrap64_in (g.2.1-1) ⟨by omega,by omega⟩] at ho
 simp only[Bool.and_eq_true,inB_iff] at ho
 omega
theorem nextV_range {g:GrD} (h:grB g=true) (v x:Int):nextV g.2.2 v x= -1∨(0≤nextV g.2.2 v x∧nextV g.2.2 v x<g.2.1):=by
 unfold nextV stepsL
 cases hs:g.2.2.filterMap (mt v x) with
 | nil=>exact .inl rfl
 | cons y l=>
   right
   have hy:y∈g.2.2.filterMap (mt v x):=by rw[hs];simp
   obtain⟨e,he,hm⟩:=List.mem_filterMap.1 hy
   obtain⟨a,_,b⟩:=edge_of_gr h he
   show 0≤y∧y<g.2.1
   unfold mt at hm
   split at hm
   ·split at hm
    ·injection hm with hm;subst hm;exact b
    ·cases hm
   ·split at hm
    ·split at hm
     ·injection hm with hm;subst hm;exact a
     ·cases hm
    ·cases hm
theorem let_of_gr {g:GrD} (h:grB g=true): ∀e∈g.2.2,1≤e.2.1:=fun _ he=>(edge_of_gr h he).2.1.1
def cstep (es:List EdD) (u:Int) (o:List Int) (x:Int):List Int:=
 if 0≤nextV es u x then(if hasB o (nextV es u x) then o else o++ [nextV es u x]) else o
def canF (es:List EdD) (ls:List Int):Nat→Nat→List Int→List Int
 | 0,_,o=>o
 | f+1,i,o=>match o[i]? with
   | none=>o
   | some u=>canF es ls f (i+1) (ls.foldl (cstep es u) o)
def canO (g:GrD):List Int:=canF g.2.2 (lettersL g.1.toNat) 41 0 [0]
def OrdOk (n:Int) (o:List Int):Prop:=o.Nodup∧(∀y∈o,0≤y∧y<n)∧o[0]? =some 0
theorem nodup_len: ∀(n:Nat) (o:List Int),o.Nodup→(∀y∈o,0≤y∧y<n)→o.length≤n
 | 0,[],_,_=>Nat.le_refl _
 | 0,y::o,_,h=>by have:=h y (by simp);omega
 | n+1,o,hd,h=>by
   by_cases hm:(n:Int)∈o
   ·have h1:=List.length_erase_of_mem hm
    have h2:=nodup_len n (o.erase n) (hd.erase _) fun y hy=>by
     have hy':=(hd.mem_erase_iff).1 hy
     have:=h y hy'.2
     have:y≠(n:Int):=hy'.1
     omega
    have:0<o.length:=List.length_pos_of_mem hm
    omega
   ·have:=nodup_len n o hd fun y hy=>by
     have:=h y hy
     have:y≠(n:Int):=fun e=>hm (e▸hy)
     omega
    omega
def OrdN (n:Int) (o:List Int):Prop:=o.Nodup∧(∀y∈o,0≤y∧y<n)∧1≤o.length
theorem OrdOk.toN {n:Int} {o:List Int} (h:OrdOk n o):OrdN n o:=by
 refine⟨h.1,h.2.1,?_⟩
 have:=h.2.2
 cases o with
 | nil=>cases this
 | cons _ _=>simp
theorem OrdOk.len {n:Int} {o:List Int} (h:OrdOk n o) (hn:n≤40) (hn0:0≤n):o.length≤40:=by
 have:=nodup_len n.toNat o h.1 fun y hy=>by have:=h.2.1 y hy;omega
 omega
theorem cstep_ok {g:GrD} (hg:grB g=true) {u:Int} {o:List Int} (x:Int) (h:OrdOk g.2.1 o):OrdOk g.2.1 (cstep g.2.2 u o x):=by
 unfold cstep
 split
 ·rename_i h0
  split
  ·exact h
  ·rename_i hb
   have hb':nextV g.2.2 u x∉o:=hasB_not (by simpa using hb)
   refine⟨List.nodup_append.2 ⟨h.1,by simp,fun a ha b hb e=> ?_⟩,fun y hy=> ?_,?_⟩
   ·simp at hb
    subst hb e
    exact hb' ha
   ·rcases List.mem_append.1 hy with hy | hy
    ·exact h.2.1 y hy
    ·simp at hy
     subst hy
     rcases nextV_range hg u x with e | e
     ·omega
     ·exact e
   ·have:0<o.length:=by
     have:=h.2.2
     cases o with
     | nil=>cases this
     | cons _ _=>simp
    rw[List.getElem?_append_left this]
    exact h.2.2
 ·exact h
theorem cfold_ok {g:GrD} (hg:grB g=true) {u:Int} (ls:List Int) {o:List Int} (h:OrdOk g.2.1 o):OrdOk g.2.1 (ls.foldl (cstep g.2.2 u) o):=by
 induction ls generalizing o with
 | nil=>exact h
 | cons x ls ih=>exact ih (cstep_ok hg x h)
theorem cfold_prefix (es:List EdD) (u:Int) (ls:List Int) (o:List Int) (i:Nat) (y:Int) (h:o[i]? =some y):(ls.foldl (cstep es u) o)[i]? =some y:=by
 induction ls generalizing o with
 | nil=>exact h
 | cons x ls ih=>
   refine ih _ ?_
   unfold cstep
   split
   ·split
    ·exact h
    ·rw[List.getElem?_append_left (List.getElem?_eq_some_iff.1 h).1];exact h
   ·exact h
theorem cfold_succ (es:List EdD) (u:Int) (ls o:List Int) (k:Nat) (h:k<ls.length):(ls.take (k+1)).foldl (cstep es u) o=cstep es u ((ls.take k).foldl (cstep es u) o) ls[k]:=by
 rw[List.take_succ_eq_append_getElem h,List.foldl_append]
 rfl
theorem OrdOk.one {n:Int} (h:1≤n):OrdOk n [0]:=⟨by simp,fun y hy=>by simp at hy;omega,rfl⟩
theorem canF_end (es:List EdD) (ls:List Int) (f:Nat) (o:List Int):canF es ls f o.length o=o:=by
 cases f with
 | zero=>rfl
 | succ f=>unfold canF;rw[List.getElem?_eq_none (Nat.le_refl _)]
theorem canF_step (es:List EdD) (ls:List Int) (f i:Nat) (o:List Int) (h:i<o.length):canF es ls (f+1) i o=canF es ls f (i+1) (ls.foldl (cstep es o[i]) o):=by
 rw[canF,List.getElem?_eq_getElem h]
theorem canF_ok {g:GrD} (hg:grB g=true) (ls:List Int) (f i:Nat) {o:List Int} (h:OrdOk g.2.1 o):OrdOk g.2.1 (canF g.2.2 ls f i o):=by
 induction f generalizing i o with
 | zero=>exact h
 | succ f ih=>
   unfold canF
   split
   ·exact h
   ·exact ih _ (cfold_ok hg ls h)
theorem canO_ok {g:GrD} (hg:grB g=true):OrdOk g.2.1 (canO g):=canF_ok hg _ _ _ (OrdOk.one (grB_parts hg).2.1.1)
end Go.Proofs.YtfadnkjlilhneaaGreat
namespace Go.Proofs.YtfadnkjlilhneaaGreat
set_option maxRecDepth 20000
set_option linter.unusedVariables false
set_option linter.unusedSimpArgs false
open Go.RowKit
theorem ArgE.cells {w:World} {ad:Addr} {m cap:Nat} {es:List EdD} (h:ArgE w (.slice (some ad) m cap) es): ∀j y,(edCs es)[j]? =some y→w.cell? (ad.add j)=some y:=by
 intro j y hj
 have hlt:j<es.length*3:=by
  have:=(List.getElem?_eq_some_iff.1 hj).1
  rw[edCs_length] at this
  exact this
 have hk:j/3<es.length:=by omega
 obtain⟨b,off,hA,_,c0,c1,c2,_⟩:=h.at hk
 injection hA with hA
 subst hA
 have hg:=edCs_get es (j/3) (j%3) hk (by omega)
 have e:j/3*3+j%3=j:=by omega
 rw[e,hj] at hg
 rw[Addr.add_lit]
 have hr:j%3=0∨j%3=1∨j%3=2:=by omega
 rcases hr with hr | hr | hr
 ·rw[hr] at hg
  simp only[edC,List.getElem?_cons_zero] at hg
  rw[hg,←c0]
  congr 2;omega
 ·rw[hr] at hg
  simp only[edC,List.getElem?_cons_zero,List.getElem?_cons_succ] at hg
  rw[hg,←c1]
  congr 2;omega
 ·rw[hr] at hg
  simp only[edC,List.getElem?_cons_zero,List.getElem?_cons_succ] at hg
  rw[hg,←c2]
  congr 2;omega
theorem push_edge {w:World} {ops:Array Oper} {rest:List Oper} {o:Oper} {a:Act} {Q:Exit→Act→World→Prop} (hgd:o.guard=none) (s x:Operand)
  (ho:o.op= .call {callee:= .builtin .append,args:= #[s,x],argTypes:= #[29,29]})
  (base:Nat) (v:Value) (es:List EdD) (hown:OwE w base v es) (hs:a.eval s=v) (b:Nat) (e:EdD) (hx:a.eval x= .slice (some ⟨b,0,none⟩) 1 1)
  (hc: ∀j u,(edC e)[j]? =some u→w.cell? ⟨b,j,none⟩=some u) (he:E64 e) (hl:es.length≤1073741824) (hbase:base≤w.heap.size)
  (h: ∀v' w',OwE w' base v' (es++ [e])→w.grownBy w' v.ownBlock→(v'.ownBlock=v.ownBlock∨v'.ownBlock=some w.heap.size)→wpList Tryz.prog ops Q rest (a.put o.dst v') w'):
  wpList Tryz.prog ops Q (o::rest) a w:=by
 obtain⟨i0,hi0,hz0,hz1,hz2⟩:=info_parts edge_info
 refine wpList_append_own_at _ hgd s x 29 ho base 54 i0 _ 3 24 Tryz.underlying29 hi0 hz0 hz1 hz2 rfl (by decide) v es.length (edCs es) hs hown.1 ⟨b,0,none⟩ 1 1 (edC e) hx rfl ?_ ?_ (by unfold maxLen;omega) (by omega) hbase ?_
 ·intro j u hj
  rw[Addr.add_lit,Nat.zero_add]
  exact hc j u hj
 ·intro u hu
  simp[edC] at hu
  rcases hu with rfl | rfl | rfl<;>rfl
 ·intro v' w' h1 h2 h3 h5
  refine h v' w' ⟨?_,E64s_append hown.2 (E64s_one he)⟩ h2 h5
  have e1:edCs (es++ [e])=edCs es++edC e:=by rw[edCs_append];simp[edCs]
  rw[e1,List.length_append]
  exact h1
theorem wp_append_edges {w:World} {o:Oper} {a:Act} {K:Act→World→Prop} {Q:Exit→Act→World→Prop} (s x:Operand)
  (ho:o.op= .call {callee:= .builtin .append,args:= #[s,x],argTypes:= #[29,29]})
  (base:Nat) (v:Value) (xs:List EdD) (hown:OwE w base v xs) (hs:a.eval s=v) (u:Value) (ys:List EdD) (hr:ArgE w u ys) (hx:a.eval x=u)
  (hl:xs.length+ys.length≤1073741824) (hbase:base≤w.heap.size)
  (h: ∀v' w',OwE w' base v' (xs++ys)→w.grownBy w' v.ownBlock→(v'.ownBlock=v.ownBlock∨v'.ownBlock=some w.heap.size)→K (a.put o.dst v') w'):
  o.wp Tryz.prog a w K Q:=by
 obtain⟨i0,hi0,hz0,hz1,hz2⟩:=info_parts edge_info
 have hr0:=hr
 obtain⟨A,cap,rfl,hc,hm,hn,hE,hb⟩:=hr
 rcases A with _ | ad
 ·have h0:ys= []:=List.eq_nil_of_length_eq_zero (by
   rcases Nat.eq_zero_or_pos ys.length with h0 | h0
   ·exact h0
   ·obtain⟨_,_,h,_⟩:=hb h0;cases h)
  subst h0
  obtain rfl:=hn rfl
  have hrun:=run_append_owned_none (P:=Tryz.prog) w base 29 o.type 54 i0 3 Tryz.underlying29 hi0 v xs.length (edCs xs) hown.1
  unfold Oper.wp execOp
  simp only[ho,resolve,invoke,builtin,Sem.run_bind,Sem.run_pure,Result.andThen_ok,List.map_toArray,List.map_cons,List.map_nil,hs,hx,List.length_nil,hrun]
  exact h v w (by simpa using hown) (World.grownBy.refl _ _) (.inl rfl)
 ·obtain⟨v',w',hrun,h1,h2,_,h5⟩:=run_append_own_at (P:=Tryz.prog) w base 29 o.type 54 i0 _ 3 24 Tryz.underlying29 hi0 hz0 hz1 hz2 rfl (by decide) v xs.length (edCs xs) hown.1 ad ys.length cap (edCs ys) (by rw[edCs_length])
   hr0.cells (fun u hu=>edCs_one hu) (by unfold maxLen;omega) (by omega) hbase
  unfold Oper.wp execOp
  simp only[ho,resolve,invoke,builtin,Sem.run_bind,Sem.run_pure,Result.andThen_ok,List.map_toArray,List.map_cons,List.map_nil,hs,hx,hrun]
  exact h v' w' ⟨by rw[edCs_append,List.length_append];exact h1,E64s_append hown.2 hE⟩ h2 h5
theorem append_edges {w:World} {ops:Array Oper} {rest:List Oper} {o:Oper} {a:Act} {Q:Exit→Act→World→Prop} (hgd:o.guard=none) (s x:Operand)
  (ho:o.op= .call {callee:= .builtin .append,args:= #[s,x],argTypes:= #[29,29]})
  (base:Nat) (v:Value) (xs:List EdD) (hown:OwE w base v xs) (hs:a.eval s=v) (u:Value) (ys:List EdD) (hr:ArgE w u ys) (hx:a.eval x=u)
  (hl:xs.length+ys.length≤1073741824) (hbase:base≤w.heap.size)
  (h: ∀v' w',OwE w' base v' (xs++ys)→w.grownBy w' v.ownBlock→(v'.ownBlock=v.ownBlock∨v'.ownBlock=some w.heap.size)→wpList Tryz.prog ops Q rest (a.put o.dst v') w'):
  wpList Tryz.prog ops Q (o::rest) a w:=
 wpList_plain hgd fun _ hK=>wp_append_edges s x ho base v xs hown hs u ys hr hx hl hbase fun v' w' h1 h2 h3=>hK _ _ (h v' w' h1 h2 h3)
theorem step_append_edges {w:World} {ops:Array Oper} {o:Oper} {a:Act} {K:Act→World→Prop} {Q:Exit→Act→World→Prop} {E:Prop} (hgd:o.guard=none) (s x:Operand)
  (ho:o.op= .call {callee:= .builtin .append,args:= #[s,x],argTypes:= #[29,29]})
  (base:Nat) (v:Value) (xs:List EdD) (hown:OwE w base v xs) (hs:a.eval s=v) (u:Value) (ys:List EdD) (hr:ArgE w u ys) (hx:a.eval x=u)
  (hl:xs.length+ys.length≤1073741824) (hbase:base≤w.heap.size)
  (h: ∀v' w',OwE w' base v' (xs++ys)→w.grownBy w' v.ownBlock→(v'.ownBlock=v.ownBlock∨v'.ownBlock=some w.heap.size)→K (a.put o.dst v') w'):
  if Region.wanted o (yielded ops a.tmps)=true then Oper.wp Tryz.prog o a w K Q else E:=by
 have hw:Region.wanted o (yielded ops a.tmps)=true:=by simp[Region.wanted,hgd]
 rw[if_pos hw]
 exact wp_append_edges s x ho base v xs hown hs u ys hr hx hl hbase h
theorem OwE_litN (w:World) (N:Nat) (hN:w.heap.size=N) {base:Nat} (hb:base≤N):OwE (w.alloc (.cells #[] 54)) base (.slice (some ⟨N,0,none⟩) 0 0) []:=by
 subst hN;exact OwE_lit w hb
set_option maxHeartbeats 1000000 in
theorem copyGraph_any (v:Value) (g:GrD) (w:World) (h:ArgG w v g) (hl:g.2.2.length≤1073741824):
  Calls Tryz.prog 99 #[v] w fun e w'=> ∃r,e= .returned r∧OwG w' w.heap.size r g∧Below w.heap.size w w':=by
 obtain⟨s,rfl,h1,h2,ha⟩:=h
 have H:=hDD ha
 obtain⟨A,cap,rfl⟩:=ha.form
 clear ha
 go_enter Tryz.func99,Tryz.ntmps99
 go_wp2_with fail
 go_region_held3 (fun w'=>w'.cell? ⟨w.heap.size,0,none⟩=some (.int .i64 g.1)∧w'.cell? ⟨w.heap.size,1,none⟩=some (.int .i64 g.2.1)∧w'.cell? ⟨w.heap.size,2,none⟩=some (.slice A g.2.2.length cap)) (first | go_keep | (refine⟨?_,?_,?_⟩<;>(rw[hc _ _ (by omega)];simp[go_sem])))
  (first | (refine step_append_edges rfl (.tmp 7) (.tmp 9) rfl (w.heap.size+1+1) _ [] (OwE_litN _ (w.heap.size+1+1) (by simp[World.drew,World.drewN]) (Nat.le_refl _)) (by rfl) _ g.2.2 ?_ (by rfl) (by simp;omega) (by simp) ?_;(exact(by repeat(first | exact(Hid.out H) | (refine ArgE.drew ?_) | (refine ArgE.drewN ?_ _) | (refine ArgE.alloc ?_ _))));intro v1 w1 o1 g1 p1;have O1:=hDD o1;have hb1:=(Below.refl (w.heap.size+1+1) _).grown g1 (by simp) (fun k hk=>by simp[Value.ownBlock] at hk;omega);have B1:=hDD hb1;obtain⟨A1,cap1,rfl,_⟩:=OwE.form o1;obtain⟨hc,hf⟩:=bcellN hb1;have hz:w.heap.size+1+1<w1.heap.size:=(by have:=g1.size;simp at this;omega);clear o1 hb1 g1 p1))
 go_wp2
 refine bodyPost_ret (v:= .agg #[.int .i64 g.1, .int .i64 g.2.1, .slice A1 g.2.2.length cap1]) (by simp[results,Tryz.results99,go_sem,hc,hz]) rfl ⟨_,rfl,⟨_,rfl,h1,h2,?_⟩,?_⟩
 ·refine OwE.mono (base:=w.heap.size+1+1) ?_ (by omega)
  have O2:Hid (OwE w1 (w.heap.size+1+1) (.slice A1 g.2.2.length cap1) g.2.2):=hDD (by simpa using O1.out)
  exact(by repeat(first | exact(Hid.out O2) | exact(Hid.out O2).drewN _ | (refine OwE.far ?_ (by first | omega | (simp<;>omega)) _) | (refine OwE.alloc ?_ _) | (refine OwE.drew ?_) | (refine OwE.drewN ?_ _)))
 ·exact(by repeat(first | exact Below.refl _ _ | (refine Below.setCell ?_ (by first | omega | (simp<;>omega)) _) | (refine bel_drewN ?_ _) | (refine Below.drew ?_) | (refine Below.alloc ?_ (by first | omega | (simp<;>omega)) _) | (refine Below.trans ?_ (Below.mono (Hid.out B1) (by first | omega | (simp<;>omega))))))
def degE (v:Int) (e:EdD):Nat:=(if e.1=v then 1 else 0)+(if e.2.2=v then 1 else 0)
def degL (es:List EdD) (v:Int):Nat:=(es.map (degE v)).sum
theorem degL_succ (es:List EdD) (v:Int) (k:Nat) (h:k<es.length):degL (es.take (k+1)) v=degL (es.take k) v+degE v es[k]:=by
 unfold degL
 rw[List.take_succ_eq_append_getElem h,List.map_append,List.sum_append]
 simp
theorem degL_le (es:List EdD) (v:Int) (k:Nat):degL (es.take k) v≤2*k:=by
 have key: ∀l:List EdD,degL l v≤2*l.length:=by
  intro l
  unfold degL
  induction l with
  | nil=>simp
  | cons e l ih=>
    simp only[List.map_cons,List.sum_cons,List.length_cons]
    have:degE v e≤2:=by unfold degE;split<;>split<;>omega
    omega
 have:=key (es.take k)
 rw[List.length_take] at this
 omega
set_option maxHeartbeats 1000000 in
theorem specDegreeOf_any (v:Value) (g:GrD) (u:Int) (w:World) (h:ArgG w v g) (hl:g.2.2.length≤1073741824):
  Calls Tryz.prog 121 #[v, .int .i64 u] w fun e w'=>e= .returned (.int .i64 (degL g.2.2 u))∧Below w.heap.size w w':=by
 obtain⟨s,rfl,_,_,ha⟩:=h
 have H:=hDD ha
 obtain⟨A,cap,rfl,hcap,hm,_⟩:=ha
 unfold maxLen at hm
 go_enter Tryz.func121,Tryz.ntmps121
 go_wp2
 have hb:Below w.heap.size w (w.alloc (Obj.cells #[Value.int IntKind.i64 g.1,Value.int IntKind.i64 g.2.1, .slice A g.2.2.length cap] 31)):=(by repeat(first | exact Below.refl _ _ | (refine Below.setCell ?_ (by first | omega | (simp<;>omega)) _) | (refine bel_drewN ?_ _) | (refine Below.drew ?_) | (refine Below.alloc ?_ (by first | omega | (simp<;>omega)) _)))
 have k2:(w.alloc (Obj.cells #[Value.int IntKind.i64 g.1,Value.int IntKind.i64 g.2.1, .slice A g.2.2.length cap] 31)).cell? ⟨w.heap.size,2,none⟩=some (.slice A g.2.2.length cap):=by simp[go_sem]
 generalize w.alloc (Obj.cells #[Value.int IntKind.i64 g.1,Value.int IntKind.i64 g.2.1, .slice A g.2.2.length cap] 31)=w1 at hb k2⊢
 have HB:=hDD hb
 clear hb
 go_loop [5,6] (fun n i=> ∃k:Nat,k≤g.2.2.length∧i= .int .i64 k∧n= .int .i64 (degL (g.2.2.take k) u)) (fun _ i=>g.2.2.length-(intOf i).toNat)
 case atStart=>exact⟨0,Nat.zero_le _,rfl,rfl⟩
 case round=>
  obtain⟨k,hk,rfl,rfl⟩:=hrel
  by_cases hlt:k<g.2.2.length
  ·obtain⟨b,off,rfl,hbl,c0,c1,c2,_⟩:=(H.out.below HB.out).at hlt
   have HS:=hDD (degL_succ g.2.2 u k hlt)
   have hle:=degL_le g.2.2 u k
   generalize g.2.2[k]=e at*
   generalize degL (g.2.2.take k) u=d at*
   rcases e1:(e.1==u) with _ | _
   ·rcases e2:(e.2.2==u) with _ | _
    ·have F:Hid (degL (g.2.2.take (k+1)) u=d):=hDD (by rw[HS.out];simp at e1 e2;simp[degE,e1,e2])
     go_wp2
     go_round
     case rel=>exact⟨k+1,by omega,by go_num,by rw[F.out]⟩
     case measure=>simp[intOf];omega
    ·have F:Hid (degL (g.2.2.take (k+1)) u=d+1):=hDD (by rw[HS.out];simp at e1 e2;simp[degE,e1,e2])
     go_wp2
     go_round
     case rel=>exact⟨k+1,by omega,by go_num,by rw[F.out];go_num⟩
     case measure=>simp[intOf];omega
   ·rcases e2:(e.2.2==u) with _ | _
    ·have F:Hid (degL (g.2.2.take (k+1)) u=d+1):=hDD (by rw[HS.out];simp at e1 e2;simp[degE,e1,e2])
     go_wp2
     go_round
     case rel=>exact⟨k+1,by omega,by go_num,by rw[F.out];go_num⟩
     case measure=>simp[intOf];omega
    ·have F:Hid (degL (g.2.2.take (k+1)) u=d+2):=hDD (by rw[HS.out];simp at e1 e2;simp[degE,e1,e2])
     go_wp2
     go_round
     case rel=>exact⟨k+1,by omega,by go_num,by rw[F.out];go_num⟩
     case measure=>simp[intOf];omega
  ·obtain rfl:k=g.2.2.length:=by omega
   rw[List.take_length]
   go_wp2
   go_ret
   exact⟨rfl,HB.out⟩
set_option maxHeartbeats 1000000 in
theorem implDegreeOf_any (v:Value) (g:GrD) (u:Int) (w:World) (h:ArgG w v g) (hl:g.2.2.length≤1073741824):
  Calls Tryz.prog 101 #[v, .int .i64 u] w fun e w'=>e= .returned (.int .i64 (degL g.2.2 u))∧Below w.heap.size w w':=by
 obtain⟨s,rfl,_,_,ha⟩:=h
 have H:=hDD ha
 obtain⟨A,cap,rfl,hcap,hm,_⟩:=ha
 unfold maxLen at hm
 go_enter Tryz.func101,Tryz.ntmps101
 go_wp2
 have hb:Below w.heap.size w (w.alloc (Obj.cells #[Value.int IntKind.i64 g.1,Value.int IntKind.i64 g.2.1, .slice A g.2.2.length cap] 31)):=(by repeat(first | exact Below.refl _ _ | (refine Below.setCell ?_ (by first | omega | (simp<;>omega)) _) | (refine bel_drewN ?_ _) | (refine Below.drew ?_) | (refine Below.alloc ?_ (by first | omega | (simp<;>omega)) _)))
 generalize w.alloc (Obj.cells #[Value.int IntKind.i64 g.1,Value.int IntKind.i64 g.2.1, .slice A g.2.2.length cap] 31)=w1 at hb⊢
 have HB:=hDD hb
 clear hb
 go_loopw [5,11] (fun n i wr=> ∃k:Nat,k≤g.2.2.length∧i= .int .i64 k∧n= .int .i64 (degL (g.2.2.take k) u)∧Below w.heap.size w wr) (fun _ i _=>g.2.2.length-(intOf i).toNat)
 case atStart=>exact⟨0,Nat.zero_le _,rfl,rfl,HB.out⟩
 case round=>
  obtain⟨k,hk,rfl,rfl,hbel⟩:=hrel
  have HB2:=hDD hbel
  have hsz:=hbel.size
  clear hbel
  by_cases hlt:k<g.2.2.length
  ·obtain⟨b,off,rfl,hbl,c0,c1,c2,_⟩:=(H.out.below HB2.out).at hlt
   have HS:=hDD (degL_succ g.2.2 u k hlt)
   have hle:=degL_le g.2.2 u k
   generalize g.2.2[k]=e at*
   generalize degL (g.2.2.take k) u=d at*
   rcases e1:(e.1==u) with _ | _
   ·rcases e2:(e.2.2==u) with _ | _
    ·have F:Hid (degL (g.2.2.take (k+1)) u=d):=hDD (by rw[HS.out];simp at e1 e2;simp[degE,e1,e2])
     go_wp2
     go_roundw
     case rel=>exact⟨k+1,by omega,by go_num,by rw[F.out],HB2.out.alloc hsz _⟩
     case measure=>simp[intOf];omega
    ·have F:Hid (degL (g.2.2.take (k+1)) u=d+1):=hDD (by rw[HS.out];simp at e1 e2;simp[degE,e1,e2])
     go_wp2
     go_roundw
     case rel=>exact⟨k+1,by omega,by go_num,by rw[F.out];go_num,HB2.out.alloc hsz _⟩
     case measure=>simp[intOf];omega
   ·rcases e2:(e.2.2==u) with _ | _
    ·have F:Hid (degL (g.2.2.take (k+1)) u=d+1):=hDD (by rw[HS.out];simp at e1 e2;simp[degE,e1,e2])
     go_wp2
     go_roundw
     case rel=>exact⟨k+1,by omega,by go_num,by rw[F.out];go_num,HB2.out.alloc hsz _⟩
     case measure=>simp[intOf];omega
    ·have F:Hid (degL (g.2.2.take (k+1)) u=d+2):=hDD (by rw[HS.out];simp at e1 e2;simp[degE,e1,e2])
     go_wp2
     go_roundw
     case rel=>exact⟨k+1,by omega,by go_num,by rw[F.out];go_num,HB2.out.alloc hsz _⟩
     case measure=>simp[intOf];omega
  ·obtain rfl:k=g.2.2.length:=by omega
   rw[List.take_length]
   go_wp2
   go_ret
   exact⟨rfl,HB2.out⟩
end Go.Proofs.YtfadnkjlilhneaaGreat
namespace Go.Proofs.YtfadnkjlilhneaaGreat
set_option maxRecDepth 20000
set_option linter.unusedVariables false
set_option linter.unusedSimpArgs false
open Go.RowKit
theorem edC_new (w:World) (e:EdD) (t:TypeId) (j:Nat) (u:Value) (h:(edC e)[j]? =some u):(w.alloc (.cells #[.int .i64 e.1, .int .i64 e.2.1, .int .i64 e.2.2] t)).cell? ⟨w.heap.size,j,none⟩=some u:=by
 match j with
 | 0=>simp[edC] at h;subst h;simp[go_sem]
 | 1=>simp[edC] at h;subst h;simp[go_sem]
 | 2=>simp[edC] at h;subst h;simp[go_sem]
 | n+3=>simp[edC] at h
theorem bel_pushE {B base:Nat} {w0 w w1:World} {v:Value} {o:Obj} {es:List EdD} (hb:Below B w0 w) (hB:B≤w.heap.size) (ho:OwE w base v es) (hbB:B≤base) (hg:(w.alloc o).grownBy w1 v.ownBlock):Below B w0 w1:=
 bel_push hb hB ho.1 hbB hg
def insE (e:EdD) (es:List EdD) (k:Nat):List EdD×Bool:=(es.take k).foldl (insS cmpE e) ([],false)
theorem insE_succ (y:EdD) (xs:List EdD) (k:Nat) (h:k<xs.length):insE y xs (k+1)=insS cmpE y (insE y xs k) xs[k]:=by
 unfold insE
 rw[List.take_succ_eq_append_getElem h,List.foldl_append]
 rfl
theorem insE_len (y:EdD) (xs:List EdD) (k:Nat) (h:k≤xs.length):(insE y xs k).1.length≤2*k:=by
 induction k with
 | zero=>simp[insE]
 | succ k ih=>
   rw[insE_succ y xs k (by omega)]
   have:=ih (by omega)
   unfold insS
   split
   ·simp;omega
   ·split<;>(simp;omega)
set_option maxHeartbeats 2000000 in
theorem l4Put_any (v:Value) (es:List EdD) (e:EdD) (w:World) (h:ArgE w v es) (he:E64 e) (hl:es.length≤268435456):
  Calls Tryz.prog 59 #[v,edV e] w fun e' w'=> ∃r,e'= .returned r∧OwE w' w.heap.size r (insF cmpE es e)∧Below w.heap.size w w':=by
 have H:=hDD h
 obtain⟨A,cap,rfl,hcap,hm,_,hr,_⟩:=h
 have HR:=hDD hr
 have HE:=hDD he
 unfold maxLen at hm
 clear hr he
 unfold edV
 go_enter Tryz.func59,Tryz.ntmps59
 go_wp2
 have hb:Below w.heap.size w ((w.alloc (Obj.cells #[Value.int IntKind.i64 e.1,Value.int IntKind.i64 e.2.1,Value.int IntKind.i64 e.2.2] 54)).alloc (Obj.cells #[] 54)):=(by repeat(first | exact Below.refl _ _ | (refine Below.setCell ?_ (by first | omega | (simp<;>omega)) _) | (refine bel_drewN ?_ _) | (refine Below.drew ?_) | (refine Below.alloc ?_ (by first | omega | (simp<;>omega)) _)))
 have k0:((w.alloc (Obj.cells #[Value.int IntKind.i64 e.1,Value.int IntKind.i64 e.2.1,Value.int IntKind.i64 e.2.2] 54)).alloc (Obj.cells #[] 54)).cell? ⟨w.heap.size,0,none⟩=some (.int .i64 e.1):=by simp[go_sem]
 have k1:((w.alloc (Obj.cells #[Value.int IntKind.i64 e.1,Value.int IntKind.i64 e.2.1,Value.int IntKind.i64 e.2.2] 54)).alloc (Obj.cells #[] 54)).cell? ⟨w.heap.size,1,none⟩=some (.int .i64 e.2.1):=by simp[go_sem]
 have k2:((w.alloc (Obj.cells #[Value.int IntKind.i64 e.1,Value.int IntKind.i64 e.2.1,Value.int IntKind.i64 e.2.2] 54)).alloc (Obj.cells #[] 54)).cell? ⟨w.heap.size,2,none⟩=some (.int .i64 e.2.2):=by simp[go_sem]
 have hs0:w.heap.size+1<((w.alloc (Obj.cells #[Value.int IntKind.i64 e.1,Value.int IntKind.i64 e.2.1,Value.int IntKind.i64 e.2.2] 54)).alloc (Obj.cells #[] 54)).heap.size:=by simp
 have o0:OwE ((w.alloc (Obj.cells #[Value.int IntKind.i64 e.1,Value.int IntKind.i64 e.2.1,Value.int IntKind.i64 e.2.2] 54)).alloc (Obj.cells #[] 54)) (w.heap.size+1) (.slice (some ⟨w.heap.size+1,0,none⟩) 0 0) []:=OwE_litN (w.alloc (Obj.cells #[Value.int IntKind.i64 e.1,Value.int IntKind.i64 e.2.1,Value.int IntKind.i64 e.2.2] 54)) (w.heap.size+1) (by simp) (Nat.le_refl _)
 generalize (w.alloc (Obj.cells #[Value.int IntKind.i64 e.1,Value.int IntKind.i64 e.2.1,Value.int IntKind.i64 e.2.2] 54)).alloc (Obj.cells #[] 54)=w1 at hb k0 k1 k2 hs0 o0⊢
 have HB:=hDD hb
 have K0:=hDD k0
 have K1:=hDD k1
 have K2:=hDD k2
 have O0:=hDD o0
 clear hb k0 k1 k2 o0
 go_loopw [5,6,7] (fun out p i wr=> ∃k:Nat,k≤es.length∧i= .int .i64 k∧p= .bool (insE e es k).2∧OwE wr (w.heap.size+1) out (insE e es k).1∧Below (w.heap.size+1) w1 wr)
  (fun _ _ i _=>es.length-(intOf i).toNat)
 case atStart=>exact⟨0,Nat.zero_le _,rfl,rfl,O0.out,Below.refl _ _⟩
 case round=>
  obtain⟨k,hk,rfl,rfl,hown,hbel⟩:=hrel
  have hsz:=hbel.size
  have hal:=insE_len e es k hk
  have HB3:=hDD (HB.out.trans (hbel.mono (by omega)))
  have HB2:=hDD hbel
  have p0:=(hbel.cell (p:=⟨w.heap.size,0,none⟩) (show w.heap.size<w.heap.size+1 by omega)).trans K0.out
  have p1:=(hbel.cell (p:=⟨w.heap.size,1,none⟩) (show w.heap.size<w.heap.size+1 by omega)).trans K1.out
  have p2:=(hbel.cell (p:=⟨w.heap.size,2,none⟩) (show w.heap.size<w.heap.size+1 by omega)).trans K2.out
  clear hbel
  by_cases hlt:k<es.length
  ·obtain⟨b,off,rfl,hbw,c0,c1,c2,_⟩:=H.out.at hlt
   have hbl:b<wr.heap.size:=by omega
   have hwr:w.heap.size<wr.heap.size:=by omega
   have HC0:=hDD c0
   have HC1:=hDD c1
   have HC2:=hDD c2
   replace c0:=(HB3.out.cell (p:=⟨b,off+k*3,none⟩) hbw).trans c0
   replace c1:=(HB3.out.cell (p:=⟨b,off+k*3+1,none⟩) hbw).trans c1
   replace c2:=(HB3.out.cell (p:=⟨b,off+k*3+2,none⟩) hbw).trans c2
   have HS:=hDD (insE_succ e es k hlt)
   have HX:=hDD (HR.out es[k] (by simp))
   generalize hs:insE e es k=s at hown HS hal⊢
   obtain⟨o,p⟩:=s
   generalize es[k]=z at c0 c1 c2 HC0 HC1 HC2 HS HX
   clear hs
   simp only at hal
   obtain⟨A1,cap1,rfl,hcap1,hm1,_,_⟩:=hown.form
   have HO0:=hDD hown
   clear hown
   go_wp2_with fail
   have f0:=BelW.cell p0 hwr
   have f1:=BelW.cell p1 hwr
   have f2:=BelW.cell p2 hwr
   have f3:=BelW.cell c0 hbl
   have f4:=BelW.cell c1 hbl
   have f5:=BelW.cell c2 hbl
   (refine wp_region_quiet_bel (by kernel_rfl) (by kernel_rfl) ?_;(repeat(go_big_quiet_step (first | (go_at_call 97;exact Calls.bel_of (specCompareEdges_any e z _)))));refine wpQuiet_nil ?_;intro wq hw';obtain⟨pq,hw''⟩:=hw';have bq:=pq.h;rw[←hw''] at bq;clear hw'' pq)
   replace p0:=f0 ⟨wq,bq⟩
   replace p1:=f1 ⟨wq,bq⟩
   replace p2:=f2 ⟨wq,bq⟩
   replace c0:=f3 ⟨wq,bq⟩
   replace c1:=f4 ⟨wq,bq⟩
   replace c2:=f5 ⟨wq,bq⟩
   simp only at p0 p1 p2 c0 c1 c2
   clear f0 f1 f2 f3 f4 f5
   have hsq:=bq.size
   have hbq:b<wq.heap.size:=by omega
   have hwq:w.heap.size<wq.heap.size:=by omega
   have HO:=hDD (HO0.out.below bq)
   have HQ2:=hDD (HB2.out.trans (bq.mono (by omega)))
   have HQ3:=hDD (HB3.out.trans (bq.mono (by omega)))
   clear bq
   have HS2:Hid (insE e es (k+1)=(if cmpE e z=0 then(o++ [z],true) else if cmpE e z<0∧p=false then(o++ [e,z],true) else(o++ [z],p))):=hDD HS.out
   have HCC:Hid (cmpE e z=0∨cmpE e z<0∨0<cmpE e z):=hDD (by omega)
   clear HS
   generalize cmpE e z=c at*
   rcases HCC.out with hc | hc | hc
   ·subst hc
    have F:Hid (insE e es (k+1)=(o++ [z],true)):=hDD (by rw[HS2.out];rfl)
    clear HS2
    go_wp2_with (at_builtin;refine push_edge rfl (.tmp 34) (.tmp 39) rfl _ _ _ (HO.out.alloc _) rfl _ z rfl (edC_new _ _ _) HX.out (by first | omega | (simp;omega)) (by first | omega | (simp;omega)) ?_;intro v2 wv2 o2 g2 p2)
    go_roundw
    case rel=>exact⟨k+1,by omega,by go_num,by rw[F.out],by rw[F.out];exact o2,bel_pushE HQ2.out (by omega) HO.out (Nat.le_refl _) g2⟩
    case measure=>simp[intOf];omega
   ·have hc0:(c==0)=false:=by simp;omega
    cases p
    ·have F:Hid (insE e es (k+1)=(o++ [e,z],true)):=hDD (by rw[HS2.out];rw[if_neg (by omega),if_pos ⟨hc,rfl⟩])
     clear HS2
     go_wp2_with (first | (at_builtin;refine push_edge rfl (.tmp 30) (.tmp 32) rfl _ _ _ (HO.out.alloc _) rfl _ e rfl (edC_new _ _ _) HE.out (by first | omega | (simp;omega)) (by first | omega | (simp;omega)) ?_;intro v1 wv1 o1 g1 p1;have hz1:=g1.size;simp at hz1;have hb1:=bel_pushE HQ3.out (show w.heap.size≤wq.heap.size by omega) HO.out (show w.heap.size≤w.heap.size+1 by omega) g1;replace c0:=(hb1.cell (p:=⟨b,off+k*3,none⟩) hbw).trans HC0.out;replace c1:=(hb1.cell (p:=⟨b,off+k*3+1,none⟩) hbw).trans HC1.out;replace c2:=(hb1.cell (p:=⟨b,off+k*3+2,none⟩) hbw).trans HC2.out;have hb1v:b<wv1.heap.size:=(by omega);clear hb1) | (at_builtin;refine push_edge rfl (.tmp 34) (.tmp 39) rfl _ _ _ (o1.alloc _) rfl _ z rfl (edC_new _ _ _) HX.out (by first | omega | (simp;omega)) (by first | omega | (simp;omega)) ?_;intro v2 wv2 o2 g2 p2))
     go_roundw
     case rel=>
      have hb1:=bel_pushE HQ2.out (show w.heap.size+1≤wq.heap.size by omega) HO.out (Nat.le_refl _) g1
      exact⟨k+1,by omega,by go_num,by rw[F.out],by rw[F.out];simpa using o2,bel_pushE hb1 (by omega) o1 (Nat.le_refl _) g2⟩
     case measure=>simp[intOf];omega
    ·have F:Hid (insE e es (k+1)=(o++ [z],true)):=hDD (by rw[HS2.out];rw[if_neg (by omega),if_neg (by simp)])
     clear HS2
     go_wp2_with (at_builtin;refine push_edge rfl (.tmp 34) (.tmp 39) rfl _ _ _ (HO.out.alloc _) rfl _ z rfl (edC_new _ _ _) HX.out (by first | omega | (simp;omega)) (by first | omega | (simp;omega)) ?_;intro v2 wv2 o2 g2 p2)
     go_roundw
     case rel=>exact⟨k+1,by omega,by go_num,by rw[F.out],by rw[F.out];exact o2,bel_pushE HQ2.out (by omega) HO.out (Nat.le_refl _) g2⟩
     case measure=>simp[intOf];omega
   ·have hc0:(c==0)=false:=by simp;omega
    have hc1: ¬c<0:=by omega
    have F:Hid (insE e es (k+1)=(o++ [z],p)):=hDD (by rw[HS2.out];rw[if_neg (by omega),if_neg (fun h=>hc1 h.1)])
    clear HS2
    go_wp2_with (at_builtin;refine push_edge rfl (.tmp 34) (.tmp 39) rfl _ _ _ (HO.out.alloc _) rfl _ z rfl (edC_new _ _ _) HX.out (by first | omega | (simp;omega)) (by first | omega | (simp;omega)) ?_;intro v2 wv2 o2 g2 p2)
    go_roundw
    case rel=>exact⟨k+1,by omega,by go_num,by rw[F.out],by rw[F.out];exact o2,bel_pushE HQ2.out (by omega) HO.out (Nat.le_refl _) g2⟩
    case measure=>simp[intOf];omega
  ·obtain rfl:k=es.length:=by omega
   have HF:Hid (insF cmpE es e=if(insE e es es.length).2 then(insE e es es.length).1 else(insE e es es.length).1++ [e]):=hDD (by unfold insF insE;rw[List.take_length])
   have hwr:w.heap.size<wr.heap.size:=by omega
   generalize insE e es es.length=s at hown HF hal⊢
   obtain⟨o,p⟩:=s
   have HO:=hDD hown
   obtain⟨A1,cap1,rfl,hcap1,hm1,_,_⟩:=hown.form
   clear hown
   simp only at hal
   cases p
   ·go_wp2_with (at_builtin;refine push_edge rfl (.tmp 43) (.tmp 45) rfl _ _ _ (HO.out.alloc _) rfl _ e rfl (edC_new _ _ _) HE.out (by first | omega | (simp;omega)) (by first | omega | (simp;omega)) ?_;intro v2 wv2 o2 g2 p2)
    go_ret
    exact⟨_,rfl,by rw[HF.out];exact o2.mono (by omega),bel_pushE HB3.out (by omega) HO.out (by omega) g2⟩
   ·go_wp2
    go_ret
    exact⟨_,rfl,by rw[HF.out];exact HO.out.mono (by omega),HB3.out⟩
end Go.Proofs.YtfadnkjlilhneaaGreat
namespace Go.Proofs.YtfadnkjlilhneaaGreat
set_option maxRecDepth 20000
set_option linter.unusedVariables false
set_option linter.unusedSimpArgs false
open Go.RowKit
def leafB (es:List EdD) (v:Nat):Bool:=decide (degL es v<2)|| !hasB (reachL es 0) v
def leafFrom (es:List EdD) (n:Nat):Nat→Nat→Int
 | 0,_=> -1
 | f+1,v=>if v<n then(if leafB es v then(v:Int) else leafFrom es n f (v+1)) else-1
def leafV (es:List EdD) (n:Nat):Int:=leafFrom es n (n-1) 1
theorem leafFrom_end (es:List EdD) (n f:Nat):leafFrom es n f n= -1:=by
 cases f with
 | zero=>rfl
 | succ f=>unfold leafFrom;rw[if_neg (Nat.lt_irrefl n)]
theorem leafFrom_hit {es:List EdD} {n v:Nat} (hv:v<n) (h:leafB es v=true):leafFrom es n (n-v) v=v:=by
 obtain⟨f,hf⟩: ∃f,n-v=f+1:=⟨n-v-1,by omega⟩
 rw[hf]
 unfold leafFrom
 rw[if_pos hv,if_pos h]
theorem leafFrom_miss {es:List EdD} {n v:Nat} (hv:v<n) (h:leafB es v=false):leafFrom es n (n-v) v=leafFrom es n (n-(v+1)) (v+1):=by
 obtain⟨f,hf⟩: ∃f,n-v=f+1:=⟨n-v-1,by omega⟩
 rw[hf]
 rw[leafFrom,if_pos hv,if_neg (by simp[h]),show n-(v+1)=f by omega]
set_option maxHeartbeats 2000000 in
theorem l8Leaf_any (v:Value) (g:GrD) (w:World) (h:ArgG w v g) (hg:grB g=true):
  Calls Tryz.prog 91 #[v] w fun e w'=>e= .returned (.int .i64 (leafV g.2.2 g.2.1.toNat))∧Below w.heap.size w w':=by
 have HG:=hDD h
 have HGR:=hDD hg
 obtain⟨_,hsz40,hl120,_⟩:=grB_parts hg
 have hu:inB 0 0 (wrap64 (g.2.1-1))=true:=by
  rw[IntWalk.wrap64_in _ ⟨by omega,by omega⟩]
  exact inB_iff.2 ⟨Int.le_refl _,by omega⟩
 have HU:=hDD hu
 obtain⟨N,hN⟩: ∃N:Nat,g.2.1=(N:Int):=⟨g.2.1.toNat,by omega⟩
 clear hu hg
 obtain⟨s,rfl,_,_,ha⟩:=h
 obtain⟨A,cap,rfl⟩:=ha.form
 obtain⟨r,n,es⟩:=g
 simp only at hN hsz40 hl120
 subst hN
 simp only[Int.toNat_natCast]
 have hN1:1≤N:=by omega
 have hN2:N≤40:=by omega
 obtain⟨R,hR⟩: ∃R,R=leafV es N:=⟨_,rfl⟩
 rw[←hR]
 have HR:=hDD hR
 clear hR ha hsz40
 have bx:Below w.heap.size w (w.alloc (Obj.cells #[Value.int IntKind.i64 r,Value.int IntKind.i64 N, .slice A es.length cap] 31)):=(by repeat(first | exact Below.refl _ _ | (refine Below.setCell ?_ (by first | omega | (simp<;>omega)) _) | (refine bel_drewN ?_ _) | (refine Below.drew ?_) | (refine Below.alloc ?_ (by first | omega | (simp<;>omega)) _)))
 have k0:(w.alloc (Obj.cells #[Value.int IntKind.i64 r,Value.int IntKind.i64 N, .slice A es.length cap] 31)).cell? ⟨w.heap.size,0,none⟩=some (.int .i64 r):=by simp[go_sem]
 have k1:(w.alloc (Obj.cells #[Value.int IntKind.i64 r,Value.int IntKind.i64 N, .slice A es.length cap] 31)).cell? ⟨w.heap.size,1,none⟩=some (.int .i64 N):=by simp[go_sem]
 have k2:(w.alloc (Obj.cells #[Value.int IntKind.i64 r,Value.int IntKind.i64 N, .slice A es.length cap] 31)).cell? ⟨w.heap.size,2,none⟩=some (.slice A es.length cap):=by simp[go_sem]
 have sx:w.heap.size<(w.alloc (Obj.cells #[Value.int IntKind.i64 r,Value.int IntKind.i64 N, .slice A es.length cap] 31)).heap.size:=by simp
 have BX:=hDD bx
 have K0:=hDD k0
 have K1:=hDD k1
 have K2:=hDD k2
 clear k0 k1 k2 bx
 go_enter Tryz.func91,Tryz.ntmps91
 go_wp2_with fail
 refine(reachedFrom_any _ (r,(N:Int),es) 0 _ (HG.out.below BX.out) HGR.out HU.out ⟨by decide,by decide⟩).mono ?_
 rintro e w1 ⟨rs,rfl,o1,b1⟩
 have HB:=hDD (BX.out.trans (b1.mono BX.out.size))
 have s1:=b1.size
 have hs0:w.heap.size<w1.heap.size:=by omega
 have q0:=(b1.cell (p:=⟨w.heap.size,0,none⟩) sx).trans K0.out
 have q1:=(b1.cell (p:=⟨w.heap.size,1,none⟩) sx).trans K1.out
 have q2:=(b1.cell (p:=⟨w.heap.size,2,none⟩) sx).trans K2.out
 have Q0:=hDD q0
 have Q1:=hDD q1
 have Q2:=hDD q2
 have O1:=hDD o1
 obtain⟨A1,cap1,rfl,_⟩:=o1.form
 have hrl:(reachL es 0).length≤100000:=by
  have:=iterR_len es 0 (es.length+1) hl120
  unfold reachL
  omega
 have HLB:Hid (∀v:Nat,leafB es v=(decide (degL es v<2)|| !hasB (reachL es 0) v)):=hDD fun v=>rfl
 clear q0 q1 q2 b1 o1 K0 K1 K2 s1 sx
 simp only at O1 hrl
 generalize reachL es 0=L at*
 go_wp2
 go_loopw [4] (fun i wr=> ∃k:Nat,1≤k∧k≤N∧i= .int .i64 k∧R=leafFrom es N (N-k) k∧Below w1.heap.size w1 wr) (fun i _=>N-(intOf i).toNat)
 case atStart=>exact⟨1,Nat.le_refl _,hN1,rfl,HR.out,Below.refl _ _⟩
 case round=>
  obtain⟨k,hk1,hk,rfl,hrem,hbel⟩:=hrel
  have HREM:=hDD hrem
  have HB2:=hDD hbel
  have HB3:=hDD (HB.out.trans (hbel.mono HB.out.size))
  have hsz:=hbel.size
  have p0:=(hbel.cell (p:=⟨w.heap.size,0,none⟩) hs0).trans Q0.out
  have p1:=(hbel.cell (p:=⟨w.heap.size,1,none⟩) hs0).trans Q1.out
  have p2:=(hbel.cell (p:=⟨w.heap.size,2,none⟩) hs0).trans Q2.out
  have OL:=hDD (O1.out.below hbel)
  clear hrem hbel
  by_cases hlt:k<N
  ·have hlti:(k:Int)<(N:Int):=by omega
   have hdle:degL es k≤240:=by have:=degL_le es k es.length;rw[List.take_length] at this;omega
   have LB:=hDD (HLB.out k)
   go_wp2_with fail
   refine(specDegreeOf_any _ (r,(N:Int),es) k _ (HG.out.below HB3.out) (by simp only;omega)).mono ?_
   rintro e w2 ⟨rfl,b2⟩
   have B2:=hDD b2
   have s2:=b2.size
   have OL2:=hDD (OL.out.below b2)
   clear b2
   simp only
   generalize degL es k=d at*
   by_cases hd:d<2
   ·have hdi:(d:Int)<2:=by omega
    have F:=hDD (leafFrom_hit hlt (by rw[LB.out];simp[hd]))
    go_wp2
    go_ret
    exact⟨ret_int (by rw[HREM.out,F.out]),HB3.out.trans (B2.out.mono (by omega))⟩
   ·have hdi: ¬(d:Int)<2:=by omega
    go_wp2_with fail
    refine(l4Has_any _ L k _ OL2.out.rd.arg (by omega)).mono ?_
    rintro e' w' ⟨rfl,rfl⟩
    rcases h1:hasB L k with _ | _
    ·have F:=hDD (leafFrom_hit hlt (by rw[LB.out,h1];simp))
     go_wp2
     go_ret
     exact⟨ret_int (by rw[HREM.out,F.out]),HB3.out.trans (B2.out.mono (by omega))⟩
    ·have F:=hDD (leafFrom_miss hlt (by rw[LB.out,h1];simp[hd]))
     go_wp2
     go_roundw
     case rel=>exact⟨k+1,by omega,by omega,by go_num,by rw[HREM.out,F.out],HB2.out.trans (B2.out.mono (by omega))⟩
     case measure=>simp[intOf];omega
  ·obtain rfl:k=N:=by omega
   have F:Hid (R= -1):=hDD (by rw[HREM.out,leafFrom_end])
   go_wp2
   go_ret
   exact⟨ret_int F.out.symm,HB3.out⟩
theorem cfold_take_ok {g:GrD} (hg:grB g=true) {u:Int} (ls:List Int) (k:Nat) {o:List Int} (h:OrdOk g.2.1 o):OrdOk g.2.1 ((ls.take k).foldl (cstep g.2.2 u) o):=cfold_ok hg _ h
theorem cstep_no {es:List EdD} {u x:Int} {o:List Int} (h: ¬0≤nextV es u x):cstep es u o x=o:=by unfold cstep;rw[if_neg h]
theorem cstep_in {es:List EdD} {u x:Int} {o:List Int} (h:0≤nextV es u x) (h1:hasB o (nextV es u x)=true):cstep es u o x=o:=by unfold cstep;rw[if_pos h,if_pos h1]
theorem cstep_new {es:List EdD} {u x:Int} {o:List Int} (h:0≤nextV es u x) (h1:hasB o (nextV es u x)=false):cstep es u o x=o++ [nextV es u x]:=by unfold cstep;rw[if_pos h,if_neg (by simp[h1])]
set_option maxHeartbeats 1000000 in
theorem specCanonicalOrder_any (v:Value) (g:GrD) (w:World) (h:ArgG w v g) (hf:foldB g=true):
  Calls Tryz.prog 127 #[v] w fun e w'=> ∃r,e= .returned r∧OwI w' w.heap.size r (canO g)∧Below w.heap.size w w':=by
 have HG:=hDD h
 obtain⟨hg,hfol⟩:=foldB_parts hf
 have HGR:=hDD hg
 have HF:=hDD hf
 have ONE:=hDD (steps_one hfol)
 obtain⟨hr13,hsz40,hl120,_⟩:=grB_parts hg
 obtain⟨A,cap,hv⟩: ∃A cap,v= .agg #[.int .i64 g.1, .int .i64 g.2.1, .slice A g.2.2.length cap]:=by
  obtain⟨s,hv,_,_,ha⟩:=h
  obtain⟨A,cap,rfl⟩:=ha.form
  exact⟨A,cap,hv⟩
 subst hv
 obtain⟨rn,hrn⟩: ∃rn:Nat,g.1=(rn:Int):=⟨g.1.toNat,by omega⟩
 have hrn1:1≤rn:=by omega
 have hrn3:rn≤3:=by omega
 have HCO:Hid (canO g=canF g.2.2 (lettersL rn) 41 0 [0]):=hDD (by unfold canO;rw[hrn];rfl)
 have OK0:=hDD (OrdOk.one (n:=g.2.1) (by omega))
 have OKS:Hid (∀(u:Int) (o:List Int) (k:Nat),OrdOk g.2.1 o→OrdOk g.2.1 (((lettersL rn).take k).foldl (cstep g.2.2 u) o)):=hDD fun u o k h=>cfold_take_ok hg _ k h
 have OKL:Hid (∀o:List Int,OrdOk g.2.1 o→o.length≤40):=hDD fun o h=>h.len (by omega) (by omega)
 have NV:Hid (∀u x,nextV g.2.2 u x= -1∨(0≤nextV g.2.2 u x∧nextV g.2.2 u x<41)):=hDD fun u x=>by
  rcases nextV_range hg u x with e | e
  ·exact .inl e
  ·exact .inr ⟨e.1,by omega⟩
 have HRN:=hDD hrn
 clear hg hf hfol h hrn
 have hr1:1≤g.1∧g.1≤3:=hr13
 clear hsz40 hl120 hr13
 have bx:Below w.heap.size w (w.alloc (Obj.cells #[Value.int IntKind.i64 g.1,Value.int IntKind.i64 g.2.1, .slice A g.2.2.length cap] 31)):=(by repeat(first | exact Below.refl _ _ | (refine Below.setCell ?_ (by first | omega | (simp<;>omega)) _) | (refine bel_drewN ?_ _) | (refine Below.drew ?_) | (refine Below.alloc ?_ (by first | omega | (simp<;>omega)) _)))
 have k0:(w.alloc (Obj.cells #[Value.int IntKind.i64 g.1,Value.int IntKind.i64 g.2.1, .slice A g.2.2.length cap] 31)).cell? ⟨w.heap.size,0,none⟩=some (.int .i64 g.1):=by simp[go_sem]
 have k1:(w.alloc (Obj.cells #[Value.int IntKind.i64 g.1,Value.int IntKind.i64 g.2.1, .slice A g.2.2.length cap] 31)).cell? ⟨w.heap.size,1,none⟩=some (.int .i64 g.2.1):=by simp[go_sem]
 have k2:(w.alloc (Obj.cells #[Value.int IntKind.i64 g.1,Value.int IntKind.i64 g.2.1, .slice A g.2.2.length cap] 31)).cell? ⟨w.heap.size,2,none⟩=some (.slice A g.2.2.length cap):=by simp[go_sem]
 have sx:w.heap.size<(w.alloc (Obj.cells #[Value.int IntKind.i64 g.1,Value.int IntKind.i64 g.2.1, .slice A g.2.2.length cap] 31)).heap.size:=by simp
 have BX:=hDD bx
 have K0:=hDD k0
 have K1:=hDD k1
 have K2:=hDD k2
 clear k0 k1 k2 bx
 go_enter Tryz.func127,Tryz.ntmps127
 go_wp2_with fail
 have hfo:=specIsFolded_any _ g _ (HG.out.below BX.out)
 rw[HF.out] at hfo
 have HFO:=hDD hfo
 clear hfo
 refine HFO.out.mono ?_
 rintro e w1 ⟨rfl,b1⟩
 clear HFO
 have HB:=hDD (BX.out.trans (b1.mono BX.out.size))
 have s1:=b1.size
 have hs0:w.heap.size<w1.heap.size:=by omega
 have q0:=(b1.cell (p:=⟨w.heap.size,0,none⟩) sx).trans K0.out
 have q1:=(b1.cell (p:=⟨w.heap.size,1,none⟩) sx).trans K1.out
 have q2:=(b1.cell (p:=⟨w.heap.size,2,none⟩) sx).trans K2.out
 clear b1 K0 K1 K2 s1 sx
 go_wp2_with fail
 have hb2:Below w1.heap.size w1 (w1.alloc (Obj.cells #[Value.int IntKind.i64 0] 3)):=(Below.refl _ _).alloc (Nat.le_refl _) _
 have o2:OwI (w1.alloc (Obj.cells #[Value.int IntKind.i64 0] 3)) w1.heap.size (.slice (some ⟨w1.heap.size,0,none⟩) 1 1) [0]:=OwI_lit w1 [0] (fun x hx=>by simp at hx;subst hx;exact⟨by decide,by decide⟩) (by simp) (Nat.le_refl _)
 have s2:w1.heap.size<(w1.alloc (Obj.cells #[Value.int IntKind.i64 0] 3)).heap.size:=by simp
 generalize w1.alloc (Obj.cells #[Value.int IntKind.i64 0] 3)=w2 at hb2 o2 s2⊢
 have hle:=l5Letters_any rn w2 (by omega)
 rw[←HRN.out] at hle
 have HLE:=hDD hle
 clear hle
 refine HLE.out.mono ?_
 rintro e w3 ⟨rl,rfl,ol,b3⟩
 have s3:=b3.size
 have hb13:=hb2.trans (b3.mono hb2.size)
 have HB3:=hDD (HB.out.trans (hb13.mono HB.out.size))
 have Q0:=hDD ((hb13.cell (p:=⟨w.heap.size,0,none⟩) hs0).trans q0)
 have Q1:=hDD ((hb13.cell (p:=⟨w.heap.size,1,none⟩) hs0).trans q1)
 have Q2:=hDD ((hb13.cell (p:=⟨w.heap.size,2,none⟩) hs0).trans q2)
 have O2:=hDD ((o2.below b3).mono (base':=w.heap.size+1) (by omega))
 have hll:=lettersL_len rn
 generalize lettersL rn=ls at*
 obtain⟨Al,capl,rfl,hcl,hml,_,hfl⟩:=ol.form
 obtain⟨bl,rfl,hbl1,hbl2⟩:=hfl (by omega)
 unfold maxLen at hml
 have OL:=hDD ol.rd
 have hblw:bl≠w1.heap.size:=by omega
 clear ol b3 hb2 o2 hb13 q0 q1 q2 hfl HLE
 go_wp2
 go_loopw [3,5] (fun out i wo=> ∃(k:Nat) (o:List Int),k≤o.length∧i= .int .i64 k∧OrdOk g.2.1 o∧canO g=canF g.2.2 ls (41-k) k o∧OwI wo (w.heap.size+1) out o∧RdI wo (.slice (some ⟨bl,0,none⟩) ls.length capl) ls∧out.ownBlock≠some bl∧bl<wo.heap.size∧Below (w.heap.size+1) w3 wo) (fun _ i _=>41-(intOf i).toNat)
 case atStart=>exact⟨0,[0],by simp,rfl,OK0.out,HCO.out,O2.out,OL.out,by simp[Value.ownBlock];omega,hbl2,Below.refl _ _⟩
 case round=>
  obtain⟨k,o,hk,rfl,hok,hco,hown,hrd,hne,hblt,hbel⟩:=hrel
  obtain⟨wo,rfl⟩: ∃wo:World,wo=wr:=⟨_,rfl⟩
  have hol:=OKL.out o hok
  have HOK:=hDD hok
  have HC:=hDD hco
  have HO:=hDD hown
  have HRD:=hDD hrd
  have HNE:=hDD hne
  have HB2:=hDD hbel
  have hsz:=hbel.size
  obtain⟨A1,cap1,rfl,_⟩:=hown.form
  clear hok hco hown hrd hne hbel
  by_cases hlt:k<o.length
  ·obtain⟨u,hu⟩: ∃u,o[k]? =some u:=⟨o[k],by simp⟩
   have hku:o[k]=u:=by rw[List.getElem?_eq_getElem hlt] at hu;injection hu
   have HCF:Hid (canO g=canF g.2.2 ls (41-(k+1)) (k+1) (ls.foldl (cstep g.2.2 u) o)):=hDD (by
    rw[HC.out,show 41-k=(41-(k+1))+1 by omega,canF_step _ _ _ _ _ hlt,hku])
   have HPU:Hid (∀m:Nat,(((ls.take m).foldl (cstep g.2.2 u) o))[k]? =some u):=hDD fun m=>cfold_prefix _ _ _ _ _ _ hu
   have HSU:Hid (∀(m:Nat) (hm:m<ls.length),(ls.take (m+1)).foldl (cstep g.2.2 u) o=cstep g.2.2 u ((ls.take m).foldl (cstep g.2.2 u) o) ls[m]):=hDD fun m hm=>cfold_succ _ _ _ _ _ hm
   have HOKm:Hid (∀m:Nat,OrdOk g.2.1 ((ls.take m).foldl (cstep g.2.2 u) o)):=hDD fun m=>OKS.out u o m HOK.out
   clear hu hku
   go_wp2
   go_loopw [3,6] (fun out j wr=> ∃m:Nat,m≤ls.length∧j= .int .i64 m∧OwI wr (w.heap.size+1) out ((ls.take m).foldl (cstep g.2.2 u) o)∧RdI wr (.slice (some ⟨bl,0,none⟩) ls.length capl) ls∧out.ownBlock≠some bl∧bl<wr.heap.size∧Below (w.heap.size+1) wo wr) (fun _ j _=>ls.length-(intOf j).toNat)
   case atStart=>exact⟨0,Nat.zero_le _,rfl,HO.out,HRD.out,HNE.out,hblt,Below.refl _ _⟩
   case round=>
    obtain⟨m,hm1,rfl,hown,hrd,hne,hblr,hbi⟩:=hrel
    have hsi:=hbi.size
    have HBI:=hDD hbi
    have HB4:=hDD (HB3.out.trans ((HB2.out.trans hbi).mono (by omega)))
    have hws:w.heap.size<wr.heap.size:=by omega
    have hbb:=HB2.out.trans hbi
    have p0:=(hbb.cell (p:=⟨w.heap.size,0,none⟩) (show w.heap.size<w.heap.size+1 by omega)).trans Q0.out
    have p1:=(hbb.cell (p:=⟨w.heap.size,1,none⟩) (show w.heap.size<w.heap.size+1 by omega)).trans Q1.out
    have p2:=(hbb.cell (p:=⟨w.heap.size,2,none⟩) (show w.heap.size<w.heap.size+1 by omega)).trans Q2.out
    have HRR:=hDD hrd
    have HNR:=hDD hne
    clear hbi hbb
    by_cases hlt2:m<ls.length
    ·have hokm:=HOKm.out m
     have hlm:=OKL.out _ hokm
     have hpu:=HPU.out m
     have HS:=hDD (HSU.out m hlt2)
     obtain⟨_,_,hAl,_,hcl⟩:=hrd.at (by omega)
     obtain⟨rfl,rfl⟩:bl=_∧0=_:=by simpa using hAl
     have c0:=hcl m hlt2
     rw[Nat.zero_add] at c0
     generalize ls[m]=x at c0 HS
     generalize (ls.take m).foldl (cstep g.2.2 u) o=om at*
     have hkm:k<om.length:=(List.getElem?_eq_some_iff.1 hpu).1
     have hkg:om[k]=u:=by rw[List.getElem?_eq_getElem hkm] at hpu;injection hpu
     have HOM:=hDD hown
     obtain⟨A2,cap2,rfl,_,_,_,hf2⟩:=hown.form
     obtain⟨b2,rfl,hb21,hb22⟩:=hf2 (by omega)
     have d0:=hown.cellAt k hkm
     rw[hkg] at d0
     have NX:=hDD (NV.out u x)
     have N0:=hDD (cstep_no (es:=g.2.2) (u:=u) (x:=x) (o:=om))
     have N1:=hDD (cstep_in (es:=g.2.2) (u:=u) (x:=x) (o:=om))
     have N2:=hDD (cstep_new (es:=g.2.2) (u:=u) (x:=x) (o:=om))
     have HNX:=hDD (fun W (h:ArgG W (.agg #[.int .i64 g.1, .int .i64 g.2.1, .slice A g.2.2.length cap]) g)=>specNextVertex_any _ g u x W h (ONE.out u x))
     clear hcl hAl hown hrd hf2 hpu hkg hokm
     go_wp2_with fail
     have f0:=BelW.cell p0 hws
     have f1:=BelW.cell p1 hws
     have f2:=BelW.cell p2 hws
     have f3:=BelW.cell c0 hblr
     have f4:=BelW.cell d0 hb22
     (refine wp_region_quiet_bel (by kernel_rfl) (by kernel_rfl) ?_;(repeat(go_big_quiet_step (first | (go_at_call 58;exact Calls.bel_of (HNX.out _ (HG.out.below (HB4.out.trans ((BelW.h _).mono (by omega)))))))));refine wpQuiet_nil ?_;intro wq hw';obtain⟨pq,hw''⟩:=hw';have bq:=pq.h;rw[←hw''] at bq;clear hw'' pq)
     clear f0 f1 f2 f3 f4 p0 p1 p2 c0 d0
     have sq:=bq.size
     have HQ:=hDD (HBI.out.trans (bq.mono (by omega)))
     have HOQ:=hDD (HOM.out.below bq)
     have HRQ:=hDD (HRR.out.below bq)
     clear bq
     generalize nextV g.2.2 u x=y at*
     rcases NX.out with hy | hy
     ·subst hy
      have F:=hDD (N0.out (by omega))
      go_wp2
      go_roundw
      case rel=>exact⟨m+1,by omega,by go_num,by rw[HS.out,F.out];exact HOQ.out,HRQ.out,HNR.out,by omega,HQ.out⟩
      case measure=>simp[intOf];omega
     ·have hy0:(0:Int)≤y:=hy.1
      have hy41:y<41:=hy.2
      go_wp2_with fail
      refine(l4Has_any _ om y _ HOQ.out.rd.arg (by omega)).mono ?_
      rintro e' w' ⟨rfl,rfl⟩
      rcases h1:hasB om y with _ | _
      ·have F:=hDD (N2.out hy0 h1)
       have HY:Hid (I64 y):=hDD ⟨by omega,by omega⟩
       go_wp2_with (at_builtin;refine push_int rfl (.tmp 46) (.tmp 48) rfl _ _ _ (OwI.alloc HOQ.out _) rfl _ _ rfl (cell_new1 _ _ _) HY.out (by first | omega | (simp<;>omega)) (by first | omega | (simp<;>omega)) ?_;intro v9 wv9 o9 g9 p9)
       have hz9:=g9.size
       simp at hz9
       go_roundw
       case rel=>
        refine⟨m+1,by omega,by go_num,by rw[HS.out,F.out];exact o9,(HRQ.out.alloc _).grown g9 (fun b hb hb'=> ?_),fun e=> ?_,by omega,bel_push HQ.out (by omega) HOQ.out.1 (Nat.le_refl _) g9⟩
        ·simp[Value.ownBlock] at hb hb'
         have:=HNR.out
         simp[Value.ownBlock] at this
         omega
        ·rcases p9 with p9 | p9
         ·rw[p9] at e;exact HNR.out e
         ·rw[p9] at e;simp at e;omega
       case measure=>simp[intOf];omega
      ·have F:=hDD (N1.out hy0 h1)
       go_wp2
       go_roundw
       case rel=>exact⟨m+1,by omega,by go_num,by rw[HS.out,F.out];exact HOQ.out,HRQ.out,HNR.out,by omega,HQ.out⟩
       case measure=>simp[intOf];omega
    ·obtain rfl:m=ls.length:=by omega
     rw[List.take_length] at hown
     have hokm:=HOKm.out ls.length
     rw[List.take_length] at hokm
     have HOKF:=hDD hokm
     have HOM:=hDD hown
     have hlen:k+1≤(ls.foldl (cstep g.2.2 u) o).length:=by
      have:=HPU.out ls.length
      rw[List.take_length] at this
      have:=(List.getElem?_eq_some_iff.1 this).1
      omega
     obtain⟨A2,cap2,rfl,_⟩:=hown.form
     clear hown hrd hne hokm p0 p1 p2
     go_wp2
     go_roundw
     case rel=>exact⟨k+1,_,hlen,by go_num,HOKF.out,HCF.out,HOM.out,HRR.out,HNR.out,hblr,HB2.out.trans HBI.out⟩
     case measure=>simp[intOf];omega
  ·obtain rfl:k=o.length:=by omega
   have F:Hid (canO g=o):=hDD (by rw[HC.out,canF_end])
   go_wp2
   go_ret
   exact⟨_,rfl,by rw[F.out];exact HO.out.mono (by omega),HB3.out.trans (HB2.out.mono (by omega))⟩
end Go.Proofs.YtfadnkjlilhneaaGreat
namespace Go.Proofs.YtfadnkjlilhneaaGreat
set_option maxRecDepth 20000
set_option linter.unusedVariables false
set_option linter.unusedSimpArgs false
open Go.RowKit
def plv:List Int→Int→Int
 | [],_=>0
 | u::o,v=>if u=v then 1 else if plv o v=0 then 0 else plv o v+1
theorem plv_range (o:List Int) (v:Int):0≤plv o v∧plv o v≤o.length:=by
 induction o with
 | nil=>simp[plv]
 | cons u o ih=>
   unfold plv
   simp only[List.length_cons]
   split
   ·omega
   ·split<;>omega
theorem plv_zero {o:List Int} {v:Int}:plv o v=0↔v∉o:=by
 induction o with
 | nil=>simp[plv]
 | cons u o ih=>
   unfold plv
   have:=plv_range o v
   split
   ·rename_i h
    simp[h]
   ·rename_i h
    rw[List.mem_cons]
    split
    ·rename_i h0
     constructor
     ·intro _
      rintro(e | e)
      ·exact h e.symm
      ·exact ih.1 h0 e
     ·intro _;rfl
    ·rename_i h0
     constructor
     ·intro e;omega
     ·intro hn
      exact absurd (ih.2 fun e=>hn (.inr e)) h0
theorem plv_snoc {o:List Int} {u:Int} (hu:u∉o) (v:Int):plv (o++ [u]) v=if v=u then(o.length:Int)+1 else plv o v:=by
 induction o with
 | nil=>
   simp only[List.nil_append,plv,List.length_nil]
   by_cases h:u=v
   ·simp[h]
   ·have h': ¬v=u:=fun e=>h e.symm
    simp[h,h']
 | cons a o ih=>
   have hu':u∉o:=fun e=>hu (by simp[e])
   have hau:a≠u:=fun e=>hu (by simp[e])
   have ih:=ih hu'
   simp only[List.cons_append,plv,List.length_cons]
   by_cases h:a=v
   ·rw[if_pos h,if_pos h,if_neg (fun e=>hau (h.trans e))]
   ·rw[if_neg h,if_neg h,ih]
    by_cases h2:v=u
    ·rw[if_pos h2,if_pos h2,if_neg (by omega)]
     omega
    ·rw[if_neg h2,if_neg h2]
theorem plv_inj {o:List Int} {v v':Int} (h:plv o v=plv o v') (h0:plv o v≠0):v=v':=by
 induction o with
 | nil=>exact absurd rfl h0
 | cons a o ih=>
   have r1:=plv_range o v
   have r2:=plv_range o v'
   unfold plv at h h0
   by_cases e1:a=v
   ·by_cases e2:a=v'
    ·rw[←e1,←e2]
    ·rw[if_pos e1,if_neg e2] at h
     split at h<;>omega
   ·by_cases e2:a=v'
    ·rw[if_neg e1,if_pos e2] at h
     split at h<;>omega
    ·rw[if_neg e1,if_neg e2] at h
     rw[if_neg e1] at h0
     by_cases z1:plv o v=0
     ·rw[if_pos z1] at h0;exact absurd rfl h0
     ·by_cases z2:plv o v'=0
      ·rw[if_neg z1,if_pos z2] at h;omega
      ·rw[if_neg z1,if_neg z2] at h
       exact ih (by omega) z1
def plc (n:Nat) (o:List Int) (d:Int):List Int:=(List.range n).map fun v=>plv o (v:Nat)-d
theorem plc_len (n:Nat) (o:List Int) (d:Int):(plc n o d).length=n:=by simp[plc]
theorem plc_get (n:Nat) (o:List Int) (d:Int) (v:Nat) (h:v<n):(plc n o d)[v]'(by rw[plc_len];exact h)=plv o v-d:=by simp[plc]
theorem plc_nil (n:Nat) (d:Int):plc n [] d=List.replicate n (-d):=by
 apply List.ext_getElem?
 intro i
 simp only[plc,plv,List.getElem?_map,List.getElem?_replicate]
 by_cases h:i<n
 ·simp[h]
 ·simp[h]
theorem plc_succ (n:Nat) (o:List Int) (d:Int) (k:Nat) (hk:k<o.length) (hd:o.Nodup) (u:Nat) (hu:o[k]=(u:Int)):
  (plc n (o.take k) d).set u ((k:Int)+1-d)=plc n (o.take (k+1)) d:=by
 have hn:(u:Int)∉o.take k:=by
  rw[←hu]
  intro hm
  obtain⟨j,hj,e⟩:=List.getElem_of_mem hm
  rw[List.getElem_take] at e
  have hjk:j<k:=by rw[List.length_take] at hj;omega
  have:=(List.pairwise_iff_getElem.1 hd) j k (by omega) hk hjk
  exact this e
 rw[List.take_succ_eq_append_getElem hk,hu]
 have hl:(o.take k).length=k:=by rw[List.length_take];omega
 apply List.ext_getElem?
 intro i
 rw[List.getElem?_set]
 simp only[plc,List.getElem?_map,List.length_map,List.length_range]
 by_cases hi:i<n
 ·simp only[List.getElem?_range hi,Option.map_some]
  rw[plv_snoc hn,hl]
  by_cases e:u=i
  ·subst e
   simp[hi]
  ·rw[if_neg e,if_neg (by omega)]
 ·simp only[List.getElem?_eq_none (show(List.range n).length≤i by simp;omega),Option.map_none]
  split
  ·rename_i e
   rw[if_neg (by omega)]
  ·rfl
def rnE (o:List Int) (e:EdD):Option EdD:=if 0<plv o e.1∧0<plv o e.2.2 then some (plv o e.1-1,e.2.1,plv o e.2.2-1) else none
def rnL (es:List EdD) (o:List Int):List EdD:=es.filterMap (rnE o)
def rnG (g:GrD) (o:List Int):GrD:=(g.1,o.length,srt cmpE (rnL g.2.2 o))
theorem rnL_succ (es:List EdD) (o:List Int) (k:Nat) (h:k<es.length):rnL (es.take (k+1)) o=rnL (es.take k) o++(rnE o es[k]).toList:=by
 unfold rnL
 rw[List.take_succ_eq_append_getElem h,List.filterMap_append]
 congr 1
theorem rnL_len (es:List EdD) (o:List Int):(rnL es o).length≤es.length:=List.length_filterMap_le _ _
theorem rnL_nodup {es:List EdD} (o:List Int) (h:es.Nodup):(rnL es o).Nodup:=by
 unfold rnL
 unfold List.Nodup at*
 rw[List.pairwise_filterMap]
 refine h.imp fun {a b} hab x hx y hy e=>hab ?_
 subst e
 unfold rnE at hx hy
 split at hx
 ·rename_i ha
  split at hy
  ·rename_i hb
   injection hx with hx
   injection hy with hy
   rw[←hy] at hx
   injection hx with e1 hx
   injection hx with e2 e3
   have i1:=plv_inj (o:=o) (v:=a.1) (v':=b.1) (by omega) (by omega)
   have i3:=plv_inj (o:=o) (v:=a.2.2) (v':=b.2.2) (by omega) (by omega)
   obtain⟨_,_,_⟩:=a
   obtain⟨_,_,_⟩:=b
   simp only at i1 e2 i3
   rw[i1,e2,i3]
  ·cases hy
 ·cases hx
theorem gr_nodup {g:GrD} (h:grB g=true):Srt cmpE g.2.2∧g.2.2.Nodup:=by
 obtain⟨_,_,_,h4⟩:=grB_parts h
 have adj: ∀k (hk:k+1<g.2.2.length),cmpE g.2.2[k] g.2.2[k+1]<0:=fun k hk=>by
  have:=h4 (k+1) hk
  rw[okE_pos (by omega) hk,Bool.and_eq_true] at this
  have h2:=this.2
  simp only[Bool.not_eq_true',decide_eq_false_iff_not,Nat.add_sub_cancel] at h2
  omega
 have all: ∀d k (hk:k+d+1<g.2.2.length),cmpE (g.2.2[k]'(by omega)) g.2.2[k+d+1]<0:=by
  intro d
  induction d with
  | zero=>intro k hk;exact adj k hk
  | succ d ih=>intro k hk;exact cmpE_ord.trans (ih k (by omega)) (adj (k+d+1) hk)
 have hs:Srt cmpE g.2.2:=by
  unfold Srt
  rw[List.pairwise_iff_getElem]
  intro i j hi hj hij
  have:=all (j-i-1) i (by omega)
  have e:i+(j-i-1)+1=j:=by omega
  simpa only[e] using this
 refine⟨hs,hs.imp fun {a b} hab e=> ?_⟩
 rw[e] at hab
 exact cmpE_ord.irrefl b hab
theorem grown_bel {w w':World} {row:Option Nat} (h:Below w.heap.size w w'):w.grownBy w' row:=⟨h.os,h.tape,h.output,h.size,fun b hb _=>h.block b hb⟩
theorem grown_cell {w w':World} {x b o:Nat} (h:w.grownBy w' (some x)) (hb:b<w.heap.size) (hne:b≠x):w'.cell? ⟨b,o,none⟩=w.cell? ⟨b,o,none⟩:=
 World.cell?_of_block (w:=w) (h.block b hb fun e=>hne (by injection e))
theorem grown_frozen {w w':World} {x b o:Nat} (h:w.grownBy w' (some x)) (hb:b<w.heap.size) (hne:b≠x):w'.frozen? ⟨b,o,none⟩=w.frozen? ⟨b,o,none⟩:=
 World.frozen?_of_block (w:=w) (h.block b hb fun e=>hne (by injection e))
theorem cell_set_other (w:World) (b o b' o':Nat) (u:Value) (h:b≠b'):(w.setCell ⟨b',o',none⟩ u).cell? ⟨b,o,none⟩=w.cell? ⟨b,o,none⟩:=
 World.cell?_of_block (w:=w) (Below.heap_setCell w _ u b h)
theorem frozen_set_other (w:World) (b o b' o':Nat) (u:Value) (h:b≠b'):(w.setCell ⟨b',o',none⟩ u).frozen? ⟨b,o,none⟩=w.frozen? ⟨b,o,none⟩:=
 World.frozen?_of_block (w:=w) (Below.heap_setCell w _ u b h)
set_option maxHeartbeats 1000000 in
theorem specRenumber_anyN (v vo:Value) (g:GrD) (o:List Int) (w:World) (h:ArgG w v g) (ho:RdI w vo o) (hg:grB g=true) (hok:OrdN g.2.1 o):
  Calls Tryz.prog 122 #[v,vo] w fun e w'=> ∃r,e= .returned (.tuple #[r, .bool true])∧OwG w' w.heap.size r (rnG g o)∧Below w.heap.size w w':=by
 have HG:=hDD h
 have HGR:=hDD hg
 have HOK:=hDD hok
 have HOR:=hDD ho
 obtain⟨hr13,hsz40,hl120,_⟩:=grB_parts hg
 have HED:=hDD (fun e he=>edge_of_gr hg (e:=e) he)
 obtain⟨N,hN⟩: ∃N:Nat,g.2.1=(N:Int):=⟨g.2.1.toNat,by omega⟩
 have hol:o.length≤N:=nodup_len N o hok.1 fun y hy=>by have:=hok.2.1 y hy;omega
 have hol1:1≤o.length:=hok.2.2
 have HRANGE:Hid (∀k (hk:k<o.length),∃u:Nat,o[k]=(u:Int)∧u<N):=hDD fun k hk=>by
  have:=hok.2.1 o[k] (by simp)
  exact⟨o[k].toNat,by omega,by omega⟩
 have HND:=hDD hok.1
 clear hg hok h
 obtain⟨r,n,es⟩:=g
 simp only at hN hr13 hsz40 hl120
 subst hN
 have hN1:1≤N:=by omega
 have hN2:N≤40:=by omega
 have hN3:(N:Int)≤40:=by omega
 clear hsz40
 obtain⟨A,cap,rfl,HE⟩: ∃A cap,v= .agg #[.int .i64 r, .int .i64 N, .slice A es.length cap]∧Hid (ArgE w (.slice A es.length cap) es):=by
  obtain⟨s,hv,_,_,ha⟩:=HG.out
  obtain⟨A,cap,rfl⟩:=ha.form
  exact⟨A,cap,hv,hDD ha⟩
 obtain⟨Ao,capo,rfl,hco,hmo,_⟩:=ho.arg
 have hbndE:es.length≤cap∧cap≤maxLen:=by
  obtain⟨_,_,hv,h1,h2,_⟩:=HE.out
  injection hv with _ _ e3
  subst e3
  exact⟨h1,h2⟩
 obtain⟨hcap,hm⟩:=hbndE
 unfold maxLen at hmo hm
 clear ho
 have bx:Below w.heap.size w (((w.alloc (Obj.cells #[Value.int IntKind.i64 r,Value.int IntKind.i64 N, .slice A es.length cap] 31)).alloc (Obj.cells #[Value.int IntKind.i64 0,Value.int IntKind.i64 0, .slice none 0 0] 31)).alloc (Obj.cells #[Value.int IntKind.i64 r,Value.int IntKind.i64 o.length, .slice none 0 0] 31)):=(by repeat(first | exact Below.refl _ _ | (refine Below.setCell ?_ (by first | omega | (simp<;>omega)) _) | (refine bel_drewN ?_ _) | (refine Below.drew ?_) | (refine Below.alloc ?_ (by first | omega | (simp<;>omega)) _)))
 go_enter Tryz.func122,Tryz.ntmps122
 go_wp2_with fail
 obtain⟨W0,hW0⟩: ∃W,W=((w.alloc (Obj.cells #[Value.int IntKind.i64 r,Value.int IntKind.i64 N, .slice A es.length cap] 31)).alloc (Obj.cells #[Value.int IntKind.i64 0,Value.int IntKind.i64 0, .slice none 0 0] 31)).alloc (Obj.cells #[Value.int IntKind.i64 r,Value.int IntKind.i64 o.length, .slice none 0 0] 31):=⟨_,rfl⟩
 rw[←hW0] at bx⊢
 have hsW:W0.heap.size=w.heap.size+3:=by rw[hW0];simp
 have b0:W0.cell? ⟨w.heap.size,0,none⟩=some (.int .i64 r):=by rw[hW0];simp[go_sem]
 have b1:W0.cell? ⟨w.heap.size,1,none⟩=some (.int .i64 N):=by rw[hW0];simp[go_sem]
 have b2:W0.cell? ⟨w.heap.size,2,none⟩=some (.slice A es.length cap):=by rw[hW0];simp[go_sem]
 have r0: ∃u,W0.cell? ⟨w.heap.size+1,0,none⟩=some u:=⟨.int .i64 0,by rw[hW0];simp[go_sem]⟩
 have r1: ∃u,W0.cell? ⟨w.heap.size+1,1,none⟩=some u:=⟨.int .i64 0,by rw[hW0];simp[go_sem]⟩
 have r2: ∃u,W0.cell? ⟨w.heap.size+1,2,none⟩=some u:=⟨.slice none 0 0,by rw[hW0];simp[go_sem]⟩
 have rf: ∀j,W0.frozen? ⟨w.heap.size+1,j,none⟩=false:=fun j=>by rw[hW0];simp[go_sem]
 have x0:W0.cell? ⟨w.heap.size+1+1,0,none⟩=some (.int .i64 r):=by rw[hW0];simp[go_sem]
 have x1:W0.cell? ⟨w.heap.size+1+1,1,none⟩=some (.int .i64 o.length):=by rw[hW0];simp[go_sem]
 have x2:W0.cell? ⟨w.heap.size+1+1,2,none⟩=some (.slice none 0 0):=by rw[hW0];simp[go_sem]
 have xf: ∀j,W0.frozen? ⟨w.heap.size+1+1,j,none⟩=false:=fun j=>by rw[hW0];simp[go_sem]
 clear hW0
 have BX:=hDD bx
 have B0:=hDD b0
 have B1:=hDD b1
 have B2:=hDD b2
 have R0:=hDD r0
 have R1:=hDD r1
 have R2:=hDD r2
 have RF:=hDD rf
 have X0:=hDD x0
 have X1:=hDD x1
 have X2:=hDD x2
 have XF:=hDD xf
 have hgr:=specIsGraph_any _ (r,(N:Int),es) W0 (HG.out.below bx)
 rw[HGR.out] at hgr
 have HGRC:=hDD hgr
 clear hgr b0 b1 b2 r0 r1 r2 rf x0 x1 x2 xf
 refine HGRC.out.mono ?_
 rintro e w1 ⟨rfl,bW⟩
 clear HGRC
 have q1:=(bW.cell (p:=⟨w.heap.size,1,none⟩) (show w.heap.size<W0.heap.size by omega)).trans B1.out
 have s1:=bW.size
 have HB1:=hDD bW
 clear bW bx
 have g0:((o.length:Int)==0)=false:=by rw[beq_eq_false_iff_ne];omega
 have g1: ¬(N:Int)<(o.length:Int):=by omega
 obtain⟨i0,hi0,hz0,hz1,hz2⟩:=info_parts int_info
 go_wp2_with (at_make;refine wpList_make_full _ rfl _ _ 26 rfl w1.heap.size 3 i0 (.int .i64 0) 1 Tryz.underlying26 hi0 hz0 hz1 _ _ _ _ N rfl rfl rfl rfl (by rw[hz2];omega) (by unfold maxLen;omega) (Nat.le_refl _) ?_)
 intro w2 hown0 hgrow0
 have own0:OwI w2 w1.heap.size (.slice (some ⟨w1.heap.size,0,none⟩) N N) (plc N (o.take 0) 0):=by
  refine⟨?_,fun y hy=> ?_⟩
  ·rw[List.take_zero,plc_nil,List.length_replicate]
   have:ints (List.replicate N (-0))=List.replicate N (Value.int .i64 0):=by simp[ints]
   rw[this]
   simpa[toList_madeCells_one] using hown0
  ·rw[List.take_zero,plc_nil] at hy
   obtain⟨_,rfl⟩:=List.mem_replicate.1 hy
   exact⟨by decide,by decide⟩
 have HO0:=hDD own0
 have HB2:=hDD (HB1.out.grown hgrow0 s1 (fun k h=>by cases h))
 clear own0 hown0 hgrow0 q1 g0 g1
 go_wp2
 go_loopw [8] (fun i wr=> ∃k:Nat,k≤o.length∧i= .int .i64 k∧OwI wr w1.heap.size (.slice (some ⟨w1.heap.size,0,none⟩) N N) (plc N (o.take k) 0)∧Below W0.heap.size W0 wr) (fun i _=>o.length-(intOf i).toNat)
 case atStart=>exact⟨0,Nat.zero_le _,rfl,HO0.out,HB2.out⟩
 case round=>
  obtain⟨k,hk,rfl,hown,hbel⟩:=hrel
  have HB3:=hDD hbel
  have HBw:=hDD (BX.out.trans (hbel.mono (by omega)))
  have hsz:=hbel.size
  have hP:=(hown.1.lt w1.heap.size rfl).2
  have hq1:=(hbel.cell (p:=⟨w.heap.size,1,none⟩) (show w.heap.size<W0.heap.size by omega)).trans B1.out
  have HO:=hDD hown
  clear hbel
  by_cases hlt:k<o.length
  ·obtain⟨bo,offo,rfl,hbo,hco2⟩:=(HOR.out.below HBw.out).at (by omega)
   have c0:=hco2 k hlt
   obtain⟨u,hu,huN⟩:=HRANGE.out k hlt
   rw[hu] at c0
   have hcur:=hown.cellAt u (by rw[plc_len];exact huN)
   have hz:(plc N (o.take k) 0)[u]'(by rw[plc_len];exact huN)=0:=by
    rw[plc_get _ _ _ _ huN,plv_zero.2,Int.sub_zero]
    intro hm
    rw[←hu] at hm
    obtain⟨j,hj,e⟩:=List.getElem_of_mem hm
    rw[List.getElem_take] at e
    have hjk:j<k:=by rw[List.length_take] at hj;omega
    exact(List.pairwise_iff_getElem.1 HND.out) j k (by omega) hlt hjk e
   rw[hz] at hcur
   have hfz:=hown.free u
   have HSET:=hDD (hown.set u ((k:Int)+1) ⟨by omega,by omega⟩)
   have HSUC:Hid ((plc N (o.take k) 0).set u ((k:Int)+1)=plc N (o.take (k+1)) 0):=hDD (by
    have:=plc_succ N o 0 k hlt HND.out u hu
    rwa [Int.sub_zero] at this)
   have j0:(0:Int)≤(u:Int):=by omega
   have j1:(u:Int)<(N:Int):=by omega
   have hin:=fun w=>l1In_any (u:Int) 0 ((N:Int)-1) w
   have hib:inB (u:Int) 0 ((N:Int)-1)=true:=inB_iff.2 ⟨by omega,by omega⟩
   simp only[hib] at hin
   have HIN:=hDD hin
   have hws:w.heap.size<wr.heap.size:=by omega
   clear hco2 hu hz hown hin hib
   go_wp2_with fail
   have f0:=BelW.cell hq1 hws
   have f1:=BelW.cell c0 hbo
   have f2:=BelW.cell hcur hP
   (refine wp_region_quiet_bel (by kernel_rfl) (by kernel_rfl) ?_;(repeat(go_big_quiet_step (first | (go_at_call 57;exact Calls.bel_same (HIN.out _)))));refine wpQuiet_nil ?_;intro wq hw';obtain⟨pq,hw''⟩:=hw';have bq:=pq.h;rw[←hw''] at bq;clear hw'' pq)
   replace c0:=f1 ⟨wq,bq⟩
   replace hcur:=f2 ⟨wq,bq⟩
   simp only at c0 hcur
   clear f0 f1 f2
   have hfq:=(bq.frozen (p:=⟨w1.heap.size,u,none⟩) hP).trans hfz
   have sq:=bq.size
   have HOQ:=hDD ((HO.out.below bq).set u ((k:Int)+1) ⟨by omega,by omega⟩)
   have HBQ:=hDD (HB3.out.trans (bq.mono (by omega)))
   clear bq hfz hq1
   go_wp2
   go_roundw
   case rel=>exact⟨k+1,by omega,by go_num,by rw[←HSUC.out];exact HOQ.out.1,HBQ.out.grown HOQ.out.2 (by omega) (fun j hj=>by cases hj;omega)⟩
   case measure=>simp[intOf];omega
  ·obtain rfl:k=o.length:=by omega
   rw[List.take_length] at HO
   clear hown
   have HP:=hDD HO.out
   obtain⟨w5,rfl⟩: ∃w5:World,w5=wr:=⟨_,rfl⟩
   have hX:w.heap.size+1+1<w5.heap.size:=by omega
   have PX2:=hDD ((HB3.out.cell (p:=⟨w.heap.size+1+1,2,none⟩) (show w.heap.size+1+1<W0.heap.size by omega)).trans X2.out)
   have PX0:=hDD ((HB3.out.cell (p:=⟨w.heap.size+1+1,0,none⟩) (show w.heap.size+1+1<W0.heap.size by omega)).trans X0.out)
   have PX1:=hDD ((HB3.out.cell (p:=⟨w.heap.size+1+1,1,none⟩) (show w.heap.size+1+1<W0.heap.size by omega)).trans X1.out)
   have PXF:Hid (∀j,w5.frozen? ⟨w.heap.size+1+1,j,none⟩=false):=hDD fun j=>(HB3.out.frozen (p:=⟨w.heap.size+1+1,j,none⟩) (show w.heap.size+1+1<W0.heap.size by omega)).trans (XF.out j)
   clear hq1
   have HPL:Hid (∀(wr:World),w5.grownBy wr (some (w.heap.size+1+1))→ ∀u:Nat,u<N→wr.cell? ⟨w1.heap.size,u,none⟩=some (.int .i64 (plv o u))):=hDD fun wr hg u hu=>by
    rw[grown_cell hg hP (by omega),HP.out.cellAt u (by rw[plc_len];exact hu),plc_get _ _ _ _ hu,Int.sub_zero]
   have PLR:Hid (∀v:Int,0≤plv o v∧plv o v≤40):=hDD fun v=>by have:=plv_range o v;omega
   go_wp2
   go_loopw [9] (fun i wr=> ∃(k:Nat) (A2:Option Addr) (cap2:Nat),k≤es.length∧i= .int .i64 k∧wr.cell? ⟨w.heap.size+1+1,2,none⟩=some (.slice A2 (srt cmpE (rnL (es.take k) o)).length cap2)∧OwE wr (w.heap.size+1+1+1) (.slice A2 (srt cmpE (rnL (es.take k) o)).length cap2) (srt cmpE (rnL (es.take k) o))∧w5.grownBy wr (some (w.heap.size+1+1))∧wr.cell? ⟨w.heap.size+1+1,0,none⟩=some (.int .i64 r)∧wr.cell? ⟨w.heap.size+1+1,1,none⟩=some (.int .i64 o.length)∧ ∀j,wr.frozen? ⟨w.heap.size+1+1,j,none⟩=false) (fun i _=>es.length-(intOf i).toNat)
   case atStart=>exact⟨0,none,0,Nat.zero_le _,rfl,PX2.out,OwE.nil,World.grownBy.refl _ _,PX0.out,PX1.out,PXF.out⟩
   case round=>
    obtain⟨k,A2,cap2,hk2,rfl,hx2,hown2,hgr,hx0,hx1,hxf⟩:=hrel
    have HGW:=hDD hgr
    have hsz2:=hgr.size
    have HBw2:=hDD (HBw.out.grown hgr (by omega) (fun j hj=>by cases hj;omega))
    have b2:=(grown_cell (o:=2) hgr (show w.heap.size<w5.heap.size by omega) (by omega)).trans ((HB3.out.cell (p:=⟨w.heap.size,2,none⟩) (show w.heap.size<W0.heap.size by omega)).trans B2.out)
    have HX2:=hDD hx2
    have HX0:=hDD hx0
    have HX1:=hDD hx1
    have HXF:=hDD hxf
    clear hx0 hx1 hxf
    have HOW2:=hDD hown2
    clear hgr hown2
    by_cases hlt2:k<es.length
    ·obtain⟨be,offe,rfl,hbe,c0,c1,c2,he64⟩:=(HE.out.below HBw2.out).at hlt2
     obtain⟨e1,e2,e3⟩:=HED.out es[k] (by simp)
     have HS:=hDD (rnL_succ es o k hlt2)
     have HSS:Hid (∀x,rnE o es[k]=some x→srt cmpE (rnL (es.take (k+1)) o)=insF cmpE (srt cmpE (rnL (es.take k) o)) x):=hDD fun x hx=>by
      rw[HS.out,hx]
      unfold srt
      rw[List.foldl_append]
      rfl
     have HSN:Hid (rnE o es[k]=none→rnL (es.take (k+1)) o=rnL (es.take k) o):=hDD fun hx=>by rw[HS.out,hx];simp
     have hlr:(srt cmpE (rnL (es.take k) o)).length≤120:=by
      have h1:=srt_len (c:=cmpE) (rnL (es.take k) o)
      have h2:=rnL_len (es.take k) o
      rw[List.length_take] at h2
      omega
     have HE64:=hDD he64
     generalize es[k]=e at*
     obtain⟨f,l,t⟩:=e
     simp only at e1 e2 e3 c0 c1 c2
     obtain⟨a,rfl⟩: ∃a:Nat,f=(a:Int):=⟨f.toNat,by omega⟩
     obtain⟨c,rfl⟩: ∃c:Nat,t=(c:Int):=⟨t.toNat,by omega⟩
     have pa:=HPL.out wr HGW.out a (by omega)
     have pc:=HPL.out wr HGW.out c (by omega)
     obtain⟨ra1,ra2⟩:=PLR.out a
     obtain⟨rc1,rc2⟩:=PLR.out c
     have RN:Hid (rnE o ((a:Int),l,(c:Int))=if 0<plv o a∧0<plv o c then some (plv o a-1,l,plv o c-1) else none):=hDD rfl
     have ja:(a:Int)<(N:Int):=by omega
     have jc:(c:Int)<(N:Int):=by omega
     have ja0:(0:Int)≤(a:Int):=by omega
     have jc0:(0:Int)≤(c:Int):=by omega
     have hPr:w1.heap.size<wr.heap.size:=by omega
     have hXr:w.heap.size+1+1<wr.heap.size:=by omega
     have hl64:I64 l:=by unfold I64;omega
     have HL64:=hDD hl64
     generalize plv o a=pav at*
     generalize plv o c=pcv at*
     generalize hL:srt cmpE (rnL (es.take k) o)=L at*
     clear hl64 HS HE64 he64
     have bA:Below wr.heap.size wr (wr.alloc (Obj.cells #[Value.int IntKind.i64 a,Value.int IntKind.i64 l,Value.int IntKind.i64 c] 54)):=(Below.refl _ _).alloc (Nat.le_refl _) _
     by_cases t1:0<pav
     ·by_cases t2:0<pcv
      ·have F:=hDD (HSS.out _ (by rw[RN.out,if_pos ⟨t1,t2⟩]))
       go_wp2_with fail
       have sA:wr.heap.size<(wr.alloc (Obj.cells #[Value.int IntKind.i64 a,Value.int IntKind.i64 l,Value.int IntKind.i64 c] 54)).heap.size:=by simp
       have l0:(wr.alloc (Obj.cells #[Value.int IntKind.i64 a,Value.int IntKind.i64 l,Value.int IntKind.i64 c] 54)).cell? ⟨wr.heap.size,0,none⟩=some (.int .i64 a):=by simp[go_sem]
       have l1:(wr.alloc (Obj.cells #[Value.int IntKind.i64 a,Value.int IntKind.i64 l,Value.int IntKind.i64 c] 54)).cell? ⟨wr.heap.size,1,none⟩=some (.int .i64 l):=by simp[go_sem]
       have l2:(wr.alloc (Obj.cells #[Value.int IntKind.i64 a,Value.int IntKind.i64 l,Value.int IntKind.i64 c] 54)).cell? ⟨wr.heap.size,2,none⟩=some (.int .i64 c):=by simp[go_sem]
       generalize wr.alloc (Obj.cells #[Value.int IntKind.i64 a,Value.int IntKind.i64 l,Value.int IntKind.i64 c] 54)=W at bA sA l0 l1 l2⊢
       have la:=(bA.cell (p:=⟨w1.heap.size,a,none⟩) hPr).trans pa
       have lc:=(bA.cell (p:=⟨w1.heap.size,c,none⟩) hPr).trans pc
       have lx:=(bA.cell (p:=⟨w.heap.size+1+1,2,none⟩) hXr).trans HX2.out
       have LX0:=hDD ((bA.cell (p:=⟨w.heap.size+1+1,0,none⟩) hXr).trans HX0.out)
       have LX1:=hDD ((bA.cell (p:=⟨w.heap.size+1+1,1,none⟩) hXr).trans HX1.out)
       have LXF:Hid (∀j,W.frozen? ⟨w.heap.size+1+1,j,none⟩=false):=hDD fun j=>(bA.frozen (p:=⟨w.heap.size+1+1,j,none⟩) hXr).trans (HXF.out j)
       have OW:=hDD (HOW2.out.below bA)
       have GW:=hDD (HGW.out.trans (grown_bel bA))
       have hXW:w.heap.size+1+1<W.heap.size:=by omega
       have hPW:w1.heap.size<W.heap.size:=by omega
       have hPX:w1.heap.size≠w.heap.size+1+1:=by omega
       have hwX:wr.heap.size≠w.heap.size+1+1:=by omega
       clear bA pa pc hx2
       have wa1:IntKind.i64.wrap (pav-1)=pav-1:=by rw[IntKind.wrap_i64];omega
       have wc1:IntKind.i64.wrap (pcv-1)=pcv-1:=by rw[IntKind.wrap_i64];omega
       have f0:=BelW.cell l0 sA
       have f1:=BelW.cell l1 sA
       have f2:=BelW.cell l2 sA
       have f3:=BelW.cell la hPW
       have f4:=BelW.cell lc hPW
       have f5:=BelW.cell lx hXW
       (refine wp_region_call3 17 (by kernel_rfl) (by kernel_rfl) (by kernel_rfl) (by kernel_rfl) (by rfl) (by rfl) ?_;dsimp only[dum3,dumO];(repeat(go_big_quiet_step (fail)));refine wpQuiet_nil ?_;refine⟨⟨_,fun _=>by rfl⟩,?_⟩;intro wq hw';obtain⟨pq,hw''⟩:=hw';have bq:=pq.h;rw[←hw''] at bq;clear hw'' pq;refine⟨_,_,by rfl,?_⟩)
       clear f0 f1 f2 f3 f4 f5
       simp only[wa1,wc1,List.map_toArray,List.map_cons,List.map_nil,Array.empty_append,Array.append_empty]
       refine(show Calls Tryz.prog 59 #[.slice A2 L.length cap2, .agg #[.int .i64 (pav-1), .int .i64 l, .int .i64 (pcv-1)]] wq _ from ?_)
       refine(l4Put_any _ L (pav-1,l,pcv-1) wq (OW.out.below bq).arg ⟨⟨by simp only;omega,by simp only;omega⟩,HL64.out,⟨by simp only;omega,by simp only;omega⟩⟩ (by omega)).mono ?_
       rintro e' w9 ⟨r9,rfl,o9,b9⟩
       have B9:=hDD (bq.trans (b9.mono bq.size))
       have qx:=(B9.out.cell (p:=⟨w.heap.size+1+1,2,none⟩) hXW).trans lx
       have qf:=(B9.out.frozen (p:=⟨w.heap.size+1+1,2,none⟩) hXW).trans (LXF.out 2)
       have s9:W.heap.size≤w9.heap.size:=B9.out.size
       have O9:=hDD o9
       obtain⟨A9,cap9,rfl,_⟩:=o9.form
       clear o9 b9
       refine⟨_,rfl,?_⟩
       simp only[Act.put,List.setIfInBounds_toArray,List.set_cons_zero,List.set_cons_succ]
       go_wp2
       go_roundw
       case rel=>
        have g9:w5.grownBy w9 (some (w.heap.size+1+1)):=GW.out.trans (grown_bel B9.out)
        refine⟨k+1,A9,cap9,by omega,by go_num,by rw[F.out];exact World.cell?_setCell_same _ _ _ qx,?_,g9.trans (set_grown _ _ _ _),?_,?_,fun j=>by rw[World.frozen?_setCell];exact(B9.out.frozen (p:=⟨w.heap.size+1+1,j,none⟩) hXW).trans (LXF.out j)⟩
        ·rw[F.out]
         exact(O9.out.mono (by show _≤wq.heap.size;have:=bq.size;omega)).far (show w.heap.size+1+1<w.heap.size+1+1+1 by omega) _
        ·rw[World.cell?_setCell_other _ _ _ _ (by simp)]
         exact(B9.out.cell (p:=⟨w.heap.size+1+1,0,none⟩) hXW).trans LX0.out
        ·rw[World.cell?_setCell_other _ _ _ _ (by simp)]
         exact(B9.out.cell (p:=⟨w.heap.size+1+1,1,none⟩) hXW).trans LX1.out
       case measure=>simp[intOf];omega
      ·have F:=hDD (HSN.out (by rw[RN.out,if_neg (fun h=>t2 h.2)]))
       go_wp2
       go_roundw
       case rel=>exact⟨k+1,A2,cap2,by omega,by go_num,by rw[F.out,hL];exact(bA.cell (p:=⟨w.heap.size+1+1,2,none⟩) hXr).trans HX2.out,by rw[F.out,hL];exact HOW2.out.below bA,HGW.out.trans (grown_bel bA),(bA.cell (p:=⟨w.heap.size+1+1,0,none⟩) hXr).trans HX0.out,(bA.cell (p:=⟨w.heap.size+1+1,1,none⟩) hXr).trans HX1.out,fun j=>(bA.frozen (p:=⟨w.heap.size+1+1,j,none⟩) hXr).trans (HXF.out j)⟩
       case measure=>simp[intOf];omega
     ·have F:=hDD (HSN.out (by rw[RN.out,if_neg (fun h=>t1 h.1)]))
      go_wp2
      go_roundw
      case rel=>exact⟨k+1,A2,cap2,by omega,by go_num,by rw[F.out,hL];exact(bA.cell (p:=⟨w.heap.size+1+1,2,none⟩) hXr).trans HX2.out,by rw[F.out,hL];exact HOW2.out.below bA,HGW.out.trans (grown_bel bA),(bA.cell (p:=⟨w.heap.size+1+1,0,none⟩) hXr).trans HX0.out,(bA.cell (p:=⟨w.heap.size+1+1,1,none⟩) hXr).trans HX1.out,fun j=>(bA.frozen (p:=⟨w.heap.size+1+1,j,none⟩) hXr).trans (HXF.out j)⟩
      case measure=>simp[intOf];omega
    ·obtain rfl:k=es.length:=by omega
     rw[List.take_length] at hx2 HOW2
     have RR0:=(grown_cell (o:=0) HGW.out (show w.heap.size+1<w5.heap.size by omega) (by omega)).trans (HB3.out.cell (p:=⟨w.heap.size+1,0,none⟩) (show w.heap.size+1<W0.heap.size by omega))
     have RR1:=(grown_cell (o:=1) HGW.out (show w.heap.size+1<w5.heap.size by omega) (by omega)).trans (HB3.out.cell (p:=⟨w.heap.size+1,1,none⟩) (show w.heap.size+1<W0.heap.size by omega))
     have RR2:=(grown_cell (o:=2) HGW.out (show w.heap.size+1<w5.heap.size by omega) (by omega)).trans (HB3.out.cell (p:=⟨w.heap.size+1,2,none⟩) (show w.heap.size+1<W0.heap.size by omega))
     have rrf: ∀j,wr.frozen? ⟨w.heap.size+1,j,none⟩=false:=fun j=>((grown_frozen (o:=j) HGW.out (show w.heap.size+1<w5.heap.size by omega) (by omega)).trans (HB3.out.frozen (p:=⟨w.heap.size+1,j,none⟩) (show w.heap.size+1<W0.heap.size by omega))).trans (RF.out j)
     obtain⟨u0,hu0⟩:=R0.out
     obtain⟨u1,hu1⟩:=R1.out
     obtain⟨u2,hu2⟩:=R2.out
     have rr0:=RR0.trans hu0
     have rr1:=RR1.trans hu1
     have rr2:=RR2.trans hu2
     have hx0:=HX0.out
     have hx1:=HX1.out
     have rf0:=rrf 0
     have rf1:=rrf 1
     have rf2:=rrf 2
     have hRw:w.heap.size+1<wr.heap.size:=by omega
     clear RR0 RR1 RR2 hu0 hu1 hu2 rrf
     generalize hL:srt cmpE (rnL es o)=L at*
     have HLL:=hDD hL
     clear hL
     go_wp2
     have c0:(((wr.setCell ⟨w.heap.size+1,0,none⟩ (.int .i64 r)).setCell ⟨w.heap.size+1,1,none⟩ (.int .i64 o.length)).setCell ⟨w.heap.size+1,2,none⟩ (.slice A2 L.length cap2)).cell? ⟨w.heap.size+1,0,none⟩=some (.int .i64 r):=by
      rw[World.cell?_setCell_other _ _ _ _ (by simp),World.cell?_setCell_other _ _ _ _ (by simp),World.cell?_setCell_same _ _ _ rr0]
     have c1:(((wr.setCell ⟨w.heap.size+1,0,none⟩ (.int .i64 r)).setCell ⟨w.heap.size+1,1,none⟩ (.int .i64 o.length)).setCell ⟨w.heap.size+1,2,none⟩ (.slice A2 L.length cap2)).cell? ⟨w.heap.size+1,1,none⟩=some (.int .i64 o.length):=by
      rw[World.cell?_setCell_other _ _ _ _ (by simp)]
      exact World.cell?_setCell_same _ _ _ ((World.cell?_setCell_other _ _ _ _ (by simp)).trans rr1)
     have c2:(((wr.setCell ⟨w.heap.size+1,0,none⟩ (.int .i64 r)).setCell ⟨w.heap.size+1,1,none⟩ (.int .i64 o.length)).setCell ⟨w.heap.size+1,2,none⟩ (.slice A2 L.length cap2)).cell? ⟨w.heap.size+1,2,none⟩=some (.slice A2 L.length cap2):=
      World.cell?_setCell_same _ _ _ ((World.cell?_setCell_other _ _ _ _ (by simp)).trans ((World.cell?_setCell_other _ _ _ _ (by simp)).trans rr2))
     have bw:Below w.heap.size w (((wr.setCell ⟨w.heap.size+1,0,none⟩ (.int .i64 r)).setCell ⟨w.heap.size+1,1,none⟩ (.int .i64 o.length)).setCell ⟨w.heap.size+1,2,none⟩ (.slice A2 L.length cap2)):=(by repeat(first | exact Below.refl _ _ | (refine Below.setCell ?_ (by first | omega | (simp<;>omega)) _) | (refine bel_drewN ?_ _) | (refine Below.drew ?_) | (refine Below.alloc ?_ (by first | omega | (simp<;>omega)) _) | (refine Below.trans ?_ (Below.mono (Hid.out HBw2) (by first | omega | (simp<;>omega))))))
     have ow:OwE (((wr.setCell ⟨w.heap.size+1,0,none⟩ (.int .i64 r)).setCell ⟨w.heap.size+1,1,none⟩ (.int .i64 o.length)).setCell ⟨w.heap.size+1,2,none⟩ (.slice A2 L.length cap2)) (w.heap.size+1+1+1) (.slice A2 L.length cap2) L:=
      ((HOW2.out.far (by show w.heap.size+1<_;omega) _).far (by show w.heap.size+1<_;omega) _).far (by show w.heap.size+1<_;omega) _
     generalize ((wr.setCell ⟨w.heap.size+1,0,none⟩ (.int .i64 r)).setCell ⟨w.heap.size+1,1,none⟩ (.int .i64 o.length)).setCell ⟨w.heap.size+1,2,none⟩ (.slice A2 L.length cap2)=wf at*
     refine bodyPost_ret (v:= .tuple #[.agg #[.int .i64 r, .int .i64 o.length, .slice A2 L.length cap2], .bool true]) (by simp[results,Tryz.results122,go_sem,c0,c1,c2]) rfl ⟨_,rfl,⟨.slice A2 L.length cap2,?_,?_,?_,?_⟩,bw⟩
     ·rfl
     ·show I64 r
      unfold I64
      omega
     ·show I64 (o.length:Int)
      unfold I64
      omega
     ·show OwE wf w.heap.size (.slice A2 L.length cap2) (srt cmpE (rnL es o))
      rw[HLL.out]
      exact ow.mono (by omega)
theorem specRenumber_any (v vo:Value) (g:GrD) (o:List Int) (w:World) (h:ArgG w v g) (ho:RdI w vo o) (hg:grB g=true) (hok:OrdOk g.2.1 o):
  Calls Tryz.prog 122 #[v,vo] w fun e w'=> ∃r,e= .returned (.tuple #[r, .bool true])∧OwG w' w.heap.size r (rnG g o)∧Below w.heap.size w w':=specRenumber_anyN v vo g o w h ho hg hok.toN
end Go.Proofs.YtfadnkjlilhneaaGreat
namespace Go.Proofs.YtfadnkjlilhneaaGreat
set_option maxRecDepth 20000
set_option linter.unusedVariables false
set_option linter.unusedSimpArgs false
open Go.RowKit
theorem set3_cells (w:World) (b:Nat) {x0 x1 x2:Value} (v0 v1 v2:Value) (h0:w.cell? ⟨b,0,none⟩=some x0) (h1:w.cell? ⟨b,1,none⟩=some x1) (h2:w.cell? ⟨b,2,none⟩=some x2):
  (((w.setCell ⟨b,0,none⟩ v0).setCell ⟨b,1,none⟩ v1).setCell ⟨b,2,none⟩ v2).cell? ⟨b,0,none⟩=some v0∧(((w.setCell ⟨b,0,none⟩ v0).setCell ⟨b,1,none⟩ v1).setCell ⟨b,2,none⟩ v2).cell? ⟨b,1,none⟩=some v1∧(((w.setCell ⟨b,0,none⟩ v0).setCell ⟨b,1,none⟩ v1).setCell ⟨b,2,none⟩ v2).cell? ⟨b,2,none⟩=some v2:=by
 refine⟨?_,?_,?_⟩
 ·rw[World.cell?_setCell_other _ _ _ _ (by simp),World.cell?_setCell_other _ _ _ _ (by simp),World.cell?_setCell_same _ _ _ h0]
 ·rw[World.cell?_setCell_other _ _ _ _ (by simp)]
  exact World.cell?_setCell_same _ _ _ ((World.cell?_setCell_other _ _ _ _ (by simp)).trans h1)
 ·exact World.cell?_setCell_same _ _ _ ((World.cell?_setCell_other _ _ _ _ (by simp)).trans ((World.cell?_setCell_other _ _ _ _ (by simp)).trans h2))
def canG (g:GrD):GrD:=rnG g (canO g)
set_option maxHeartbeats 1000000 in
theorem specCanonicalGraph_any (v:Value) (g:GrD) (w:World) (h:ArgG w v g) (hf:foldB g=true):
  Calls Tryz.prog 93 #[v] w fun e w'=> ∃r,e= .returned r∧OwG w' w.heap.size r (canG g)∧Below w.heap.size w w':=by
 have HG:=hDD h
 have HF:=hDD hf
 obtain⟨hg,_⟩:=foldB_parts hf
 have HGR:=hDD hg
 have hok:=canO_ok hg
 obtain⟨hr13,hsz40,hl120,_⟩:=grB_parts hg
 have hol1:1≤(canO g).length:=by
  have:=hok.2.2
  cases hc:canO g with
  | nil=>rw[hc] at this;cases this
  | cons _ _=>simp
 have hol:(canO g).length≤g.2.1.toNat:=nodup_len g.2.1.toNat _ hok.1 fun y hy=>by have:=hok.2.1 y hy;omega
 have HOK:=hDD hok
 have HCG:Hid (canG g=rnG g (canO g)):=hDD rfl
 obtain⟨s,rfl,hi1,hi2,ha⟩:=h
 clear hf hg hok
 generalize hO:canO g=o at*
 have HOE:=hDD hO
 clear hO
 obtain⟨r,n,es⟩:=g
 simp only at hr13 hsz40 hl120 hol hi1 hi2 ha HG⊢
 obtain⟨A,cap,rfl,hcap,hm,_⟩:=ha
 unfold maxLen at hm
 have bx:Below w.heap.size w ((w.alloc (Obj.cells #[Value.int IntKind.i64 r,Value.int IntKind.i64 n, .slice A es.length cap] 31)).alloc (Obj.cells #[Value.int IntKind.i64 0,Value.int IntKind.i64 0, .slice none 0 0] 31)):=(by repeat(first | exact Below.refl _ _ | (refine Below.setCell ?_ (by first | omega | (simp<;>omega)) _) | (refine bel_drewN ?_ _) | (refine Below.drew ?_) | (refine Below.alloc ?_ (by first | omega | (simp<;>omega)) _)))
 go_enter Tryz.func93,Tryz.ntmps93
 go_wp2_with fail
 obtain⟨W0,hW0⟩: ∃W,W=(w.alloc (Obj.cells #[Value.int IntKind.i64 r,Value.int IntKind.i64 n, .slice A es.length cap] 31)).alloc (Obj.cells #[Value.int IntKind.i64 0,Value.int IntKind.i64 0, .slice none 0 0] 31):=⟨_,rfl⟩
 rw[←hW0] at bx⊢
 have hsW:W0.heap.size=w.heap.size+2:=by rw[hW0];simp
 have B0:Hid (W0.cell? ⟨w.heap.size,0,none⟩=some (.int .i64 r)):=hDD (by rw[hW0];simp[go_sem])
 have B1:Hid (W0.cell? ⟨w.heap.size,1,none⟩=some (.int .i64 n)):=hDD (by rw[hW0];simp[go_sem])
 have B2:Hid (W0.cell? ⟨w.heap.size,2,none⟩=some (.slice A es.length cap)):=hDD (by rw[hW0];simp[go_sem])
 have R0:Hid (W0.cell? ⟨w.heap.size+1,0,none⟩=some (.int .i64 0)):=hDD (by rw[hW0];simp[go_sem])
 have R1:Hid (W0.cell? ⟨w.heap.size+1,1,none⟩=some (.int .i64 0)):=hDD (by rw[hW0];simp[go_sem])
 have R2:Hid (W0.cell? ⟨w.heap.size+1,2,none⟩=some (.slice none 0 0)):=hDD (by rw[hW0];simp[go_sem])
 have RF:Hid (∀j,W0.frozen? ⟨w.heap.size+1,j,none⟩=false):=hDD fun j=>by rw[hW0];simp[go_sem]
 clear hW0
 have BX:=hDD bx
 refine(specCanonicalOrder_any _ (r,n,es) W0 (HG.out.below bx) HF.out).mono ?_
 rintro e w1 ⟨r1,rfl,o1,b1⟩
 rw[HOE.out] at o1
 have O1:=hDD o1
 have BW1:=hDD b1
 have s1:=b1.size
 obtain⟨A1,cap1,rfl,hcp1,hmx1,_⟩:=OwI.form o1
 unfold maxLen at hmx1
 have q0:=(b1.cell (p:=⟨w.heap.size,0,none⟩) (show w.heap.size<W0.heap.size by omega)).trans B0.out
 have q1:=(b1.cell (p:=⟨w.heap.size,1,none⟩) (show w.heap.size<W0.heap.size by omega)).trans B1.out
 have q2:=(b1.cell (p:=⟨w.heap.size,2,none⟩) (show w.heap.size<W0.heap.size by omega)).trans B2.out
 have g0:((o.length:Int)==0)=false:=by rw[beq_eq_false_iff_ne];omega
 clear o1 b1 bx
 go_wp2_with fail
 refine(specRenumber_any _ _ (r,n,es) o w1 (HG.out.below (BX.out.trans (BW1.out.mono (by omega)))) O1.out.rd HGR.out HOK.out).mono ?_
 rintro e w2 ⟨r2,rfl,o2,b2⟩
 have BW2:=hDD b2
 have s2:=b2.size
 have O2:=hDD o2
 obtain⟨sv,rfl,hz1,hz2,hz3⟩:=o2
 obtain⟨A2,cap2,rfl,hcp2,hmx2,_⟩:=hz3.form
 have rf0:=((b2.frozen (p:=⟨w.heap.size+1,0,none⟩) (show w.heap.size+1<w1.heap.size by omega)).trans (BW1.out.frozen (p:=⟨w.heap.size+1,0,none⟩) (show w.heap.size+1<W0.heap.size by omega))).trans (RF.out 0)
 have rf1:=((b2.frozen (p:=⟨w.heap.size+1,1,none⟩) (show w.heap.size+1<w1.heap.size by omega)).trans (BW1.out.frozen (p:=⟨w.heap.size+1,1,none⟩) (show w.heap.size+1<W0.heap.size by omega))).trans (RF.out 1)
 have rf2:=((b2.frozen (p:=⟨w.heap.size+1,2,none⟩) (show w.heap.size+1<w1.heap.size by omega)).trans (BW1.out.frozen (p:=⟨w.heap.size+1,2,none⟩) (show w.heap.size+1<W0.heap.size by omega))).trans (RF.out 2)
 have rr0:=((b2.cell (p:=⟨w.heap.size+1,0,none⟩) (show w.heap.size+1<w1.heap.size by omega)).trans (BW1.out.cell (p:=⟨w.heap.size+1,0,none⟩) (show w.heap.size+1<W0.heap.size by omega))).trans R0.out
 have rr1:=((b2.cell (p:=⟨w.heap.size+1,1,none⟩) (show w.heap.size+1<w1.heap.size by omega)).trans (BW1.out.cell (p:=⟨w.heap.size+1,1,none⟩) (show w.heap.size+1<W0.heap.size by omega))).trans R1.out
 have rr2:=((b2.cell (p:=⟨w.heap.size+1,2,none⟩) (show w.heap.size+1<w1.heap.size by omega)).trans (BW1.out.cell (p:=⟨w.heap.size+1,2,none⟩) (show w.heap.size+1<W0.heap.size by omega))).trans R2.out
 clear b2 q0 q1 q2 hz3
 generalize rnG (r,n,es) o=D at*
 obtain⟨dr,dn,de⟩:=D
 simp only at O2 hz1 hz2 hcp2⊢
 have hlt:w.heap.size+1<w2.heap.size:=by omega
 have hA: ∀ob o',(w2.alloc ob).cell? ⟨w.heap.size+1,o',none⟩=w2.cell? ⟨w.heap.size+1,o',none⟩:=fun ob o'=>World.cell?_of_block (Below.heap_alloc w2 ob _ hlt)
 have hAf: ∀ob o',(w2.alloc ob).frozen? ⟨w.heap.size+1,o',none⟩=w2.frozen? ⟨w.heap.size+1,o',none⟩:=fun ob o'=>World.frozen?_of_block (Below.heap_alloc w2 ob _ hlt)
 go_wp2
 obtain⟨c0,c1,c2⟩:=set3_cells w2 (w.heap.size+1) (.int .i64 dr) (.int .i64 dn) (.slice A2 de.length cap2) rr0 rr1 rr2
 have BB:Hid (Below w.heap.size w w2):=hDD (BX.out.trans ((BW1.out.mono (by omega)).trans (BW2.out.mono (by omega))))
 have bw:Below w.heap.size w (((w2.setCell ⟨w.heap.size+1,0,none⟩ (.int .i64 dr)).setCell ⟨w.heap.size+1,1,none⟩ (.int .i64 dn)).setCell ⟨w.heap.size+1,2,none⟩ (.slice A2 de.length cap2)):=(by repeat(first | exact Below.refl _ _ | (refine Below.setCell ?_ (by first | omega | (simp<;>omega)) _) | (refine bel_drewN ?_ _) | (refine Below.drew ?_) | (refine Below.alloc ?_ (by first | omega | (simp<;>omega)) _) | (refine Below.trans ?_ (Below.mono (Hid.out BB) (by first | omega | (simp<;>omega))))))
 have ow:OwE (((w2.setCell ⟨w.heap.size+1,0,none⟩ (.int .i64 dr)).setCell ⟨w.heap.size+1,1,none⟩ (.int .i64 dn)).setCell ⟨w.heap.size+1,2,none⟩ (.slice A2 de.length cap2)) w1.heap.size (.slice A2 de.length cap2) de:=by
  obtain⟨sv,e,_,_,ha⟩:=O2.out
  injection e with e
  have e3:sv= .slice A2 de.length cap2:=by injection e with e;injection e with _ e;injection e with _ e;injection e with e _;exact e.symm
  subst e3
  exact((ha.far (by show w.heap.size+1<_;omega) _).far (by show w.heap.size+1<_;omega) _).far (by show w.heap.size+1<_;omega) _
 have hsz3:(((w2.setCell ⟨w.heap.size+1,0,none⟩ (.int .i64 dr)).setCell ⟨w.heap.size+1,1,none⟩ (.int .i64 dn)).setCell ⟨w.heap.size+1,2,none⟩ (.slice A2 de.length cap2)).heap.size=w2.heap.size:=by simp
 generalize ((w2.setCell ⟨w.heap.size+1,0,none⟩ (.int .i64 dr)).setCell ⟨w.heap.size+1,1,none⟩ (.int .i64 dn)).setCell ⟨w.heap.size+1,2,none⟩ (.slice A2 de.length cap2)=wf at*
 have ba: ∀ob,Below wf.heap.size wf (wf.alloc ob):=fun ob=>(Below.refl _ _).alloc (Nat.le_refl _) _
 have hA2: ∀ob o',(wf.alloc ob).cell? ⟨w.heap.size+1,o',none⟩=wf.cell? ⟨w.heap.size+1,o',none⟩:=fun ob o'=>World.cell?_of_block (Below.heap_alloc wf ob (w.heap.size+1) (show w.heap.size+1<wf.heap.size by omega))
 refine bodyPost_ret (v:= .agg #[.int .i64 dr, .int .i64 dn, .slice A2 de.length cap2]) (by simp[results,Tryz.results93,go_sem,hA2,c0,c1,c2]) rfl ⟨_,rfl,?_,bw.trans ((ba _).mono bw.size)⟩
 rw[HCG.out]
 exact⟨_,rfl,hz1,hz2,(ow.below (ba _)).mono (by omega)⟩
end Go.Proofs.YtfadnkjlilhneaaGreat
namespace Go.Proofs.YtfadnkjlilhneaaGreat
set_option maxRecDepth 20000
set_option linter.unusedVariables false
set_option linter.unusedSimpArgs false
open Go.RowKit
def coreB (g:GrD):Bool:=foldB g&&decide (leafV g.2.2 g.2.1.toNat<0)&&decide (canG g=g)
set_option maxHeartbeats 1000000 in
theorem specIsCore_any (v:Value) (g:GrD) (w:World) (h:ArgG w v g):
  Calls Tryz.prog 51 #[v] w fun e w'=>e= .returned (.bool (coreB g))∧Below w.heap.size w w':=by
 have HG:=hDD h
 obtain⟨s,rfl,hi1,hi2,ha⟩:=h
 have HC:Hid (coreB g=(foldB g&&decide (leafV g.2.2 g.2.1.toNat<0)&&decide (canG g=g))):=hDD rfl
 generalize coreB g=cb at*
 clear ha
 go_enter Tryz.func51,Tryz.ntmps51
 go_wp2_with fail
 have bx:Below w.heap.size w (w.alloc (Obj.cells #[Value.int IntKind.i64 g.1,Value.int IntKind.i64 g.2.1,s] 31)):=(by repeat(first | exact Below.refl _ _ | (refine Below.setCell ?_ (by first | omega | (simp<;>omega)) _) | (refine bel_drewN ?_ _) | (refine Below.drew ?_) | (refine Below.alloc ?_ (by first | omega | (simp<;>omega)) _)))
 have l0:(w.alloc (Obj.cells #[Value.int IntKind.i64 g.1,Value.int IntKind.i64 g.2.1,s] 31)).cell? ⟨w.heap.size,0,none⟩=some (.int .i64 g.1):=by simp[go_sem]
 have l1:(w.alloc (Obj.cells #[Value.int IntKind.i64 g.1,Value.int IntKind.i64 g.2.1,s] 31)).cell? ⟨w.heap.size,1,none⟩=some (.int .i64 g.2.1):=by simp[go_sem]
 have l2:(w.alloc (Obj.cells #[Value.int IntKind.i64 g.1,Value.int IntKind.i64 g.2.1,s] 31)).cell? ⟨w.heap.size,2,none⟩=some s:=by simp[go_sem]
 have sA:w.heap.size<(w.alloc (Obj.cells #[Value.int IntKind.i64 g.1,Value.int IntKind.i64 g.2.1,s] 31)).heap.size:=by simp
 generalize w.alloc (Obj.cells #[Value.int IntKind.i64 g.1,Value.int IntKind.i64 g.2.1,s] 31)=W at bx l0 l1 l2 sA⊢
 have BX:=hDD bx
 have HA:Hid (∀w',Below W.heap.size W w'→ArgG w' (.agg #[.int .i64 g.1, .int .i64 g.2.1,s]) g):=hDD fun w' hb=>HG.out.below (BX.out.trans (hb.mono (by omega)))
 clear bx
 have hif:=fun w' hb=>specIsFolded_any _ g w' (HA.out w' hb)
 rcases e1:foldB g with _ | _
 ·have HF:=hDD e1
  have HR:Hid (cb=false):=hDD (by rw[HC.out,e1];rfl)
  simp only[e1] at hif
  have HIF:=hDD hif
  clear e1 hif
  have f0:=BelW.cell l0 sA
  have f1:=BelW.cell l1 sA
  have f2:=BelW.cell l2 sA
  (refine wp_region_quiet_bel (by kernel_rfl) (by kernel_rfl) ?_;(repeat(go_big_quiet_step (first | (go_at_call 56;exact Calls.bel_of (HIF.out _ (BelW.h _))))));refine wpQuiet_nil ?_;intro wq hw';obtain⟨pq,hw''⟩:=hw';have bq:=pq.h;rw[←hw''] at bq;clear hw'' pq)
  go_wp2
  exact bodyPost_ret (v:= .bool false) (by simp[results,Tryz.results51]) rfl ⟨by rw[HR.out],BX.out.trans (bq.mono (Nat.le_of_lt sA))⟩
 ·have HF:=hDD e1
  have hg:=(foldB_parts e1).1
  simp only[e1] at hif
  have HIF:=hDD hif
  clear hif
  have HGR:=hDD hg
  have HLV:Hid (leafV g.2.2 g.2.1.toNat=leafV g.2.2 g.2.1.toNat):=hDD rfl
  have L8:=hDD (fun w' hb=>l8Leaf_any _ g w' (HA.out w' hb) HGR.out)
  generalize leafV g.2.2 g.2.1.toNat=lv at*
  clear hg
  by_cases hl:lv<0
  ·have HR:Hid (cb=decide (canG g=g)):=hDD (by rw[HC.out,e1];simp[hl])
   clear e1
   go_region_held3 (fun w'=>w'.cell? ⟨w.heap.size,0,none⟩=some (.int .i64 g.1)∧w'.cell? ⟨w.heap.size,1,none⟩=some (.int .i64 g.2.1)∧w'.cell? ⟨w.heap.size,2,none⟩=some s)
    (first | go_keep | exact⟨q0,q1,q2⟩)
    (first
     | (go_at_call 56;refine(specIsFolded_any _ g _ (HA.out _ (Below.refl _ _).drew)).mono ?_;rintro e' w1 ⟨rfl,b1⟩;rw[HF.out];have B1:=hDD ((Below.refl _ W).drew.trans b1);have q0:=(B1.out.cell (p:=⟨w.heap.size,0,none⟩) sA).trans l0;have q1:=(B1.out.cell (p:=⟨w.heap.size,1,none⟩) sA).trans l1;have q2:=(B1.out.cell (p:=⟨w.heap.size,2,none⟩) sA).trans l2;clear b1)
     | (go_at_call 91;refine(L8.out _ B1.out).mono ?_;rintro e' w2 ⟨rfl,b2⟩;have B2:=hDD (B1.out.trans (b2.mono B1.out.size));have q0:=(B2.out.cell (p:=⟨w.heap.size,0,none⟩) sA).trans l0;have q1:=(B2.out.cell (p:=⟨w.heap.size,1,none⟩) sA).trans l1;have q2:=(B2.out.cell (p:=⟨w.heap.size,2,none⟩) sA).trans l2;clear b2)
     | (go_at_call 93;refine(specCanonicalGraph_any _ g _ (HA.out _ B2.out) HF.out).mono ?_;rintro e' w3 ⟨r3,rfl,o3,b3⟩;have B3:=hDD (B2.out.trans (b3.mono B2.out.size));have O3:=hDD o3;have q0:=(B3.out.cell (p:=⟨w.heap.size,0,none⟩) sA).trans l0;have q1:=(B3.out.cell (p:=⟨w.heap.size,1,none⟩) sA).trans l1;have q2:=(B3.out.cell (p:=⟨w.heap.size,2,none⟩) sA).trans l2;clear b3 o3)
     | (go_at_call 92;refine(specEqualGraphs_any _ _ (canG g) g _ O3.out.arg (HA.out _ B3.out)).mono ?_;rintro e' w4 ⟨rfl,b4⟩;have B4:=hDD (B3.out.trans (b4.mono B3.out.size));have q0:=(B4.out.cell (p:=⟨w.heap.size,0,none⟩) sA).trans l0;have q1:=(B4.out.cell (p:=⟨w.heap.size,1,none⟩) sA).trans l1;have q2:=(B4.out.cell (p:=⟨w.heap.size,2,none⟩) sA).trans l2;clear b4))
   go_wp2
   exact bodyPost_ret (v:= .bool (decide (canG g=g))) (by simp[results,Tryz.results51]) rfl ⟨by rw[HR.out],BX.out.trans (B4.out.mono (Nat.le_of_lt sA))⟩
  ·have HR:Hid (cb=false):=hDD (by rw[HC.out,e1];simp[hl])
   clear e1
   have f0:=BelW.cell l0 sA
   have f1:=BelW.cell l1 sA
   have f2:=BelW.cell l2 sA
   (refine wp_region_quiet_bel (by kernel_rfl) (by kernel_rfl) ?_;(repeat(go_big_quiet_step (first | (go_at_call 56;exact Calls.bel_of (HIF.out _ (BelW.h _))) | (go_at_call 91;exact Calls.bel_of (L8.out _ (BelW.h _))))));refine wpQuiet_nil ?_;intro wq hw';obtain⟨pq,hw''⟩:=hw';have bq:=pq.h;rw[←hw''] at bq;clear hw'' pq)
   go_wp2
   exact bodyPost_ret (v:= .bool false) (by simp[results,Tryz.results51]) rfl ⟨by rw[HR.out],BX.out.trans (bq.mono (Nat.le_of_lt sA))⟩
theorem coreB_grB {g:GrD} (h:coreB g=true):grB g=true:=by
 unfold coreB at h
 simp only[Bool.and_eq_true] at h
 exact(foldB_parts h.1.1).1
set_option maxHeartbeats 1000000 in
theorem specIsSubgroup_any (v:Value) (g:GrD) (w:World) (h:ArgG w v g):
  Calls Tryz.prog 24 #[v] w fun e w'=>e= .returned (.bool (coreB g))∧Below w.heap.size w w':=by
 have HG:=hDD h
 obtain⟨s,rfl,hi1,hi2,ha⟩:=h
 clear ha
 go_enter Tryz.func24,Tryz.ntmps24
 go_wp2_with fail
 have bx:Below w.heap.size w (w.alloc (Obj.cells #[Value.int IntKind.i64 g.1,Value.int IntKind.i64 g.2.1,s] 31)):=(by repeat(first | exact Below.refl _ _ | (refine Below.setCell ?_ (by first | omega | (simp<;>omega)) _) | (refine bel_drewN ?_ _) | (refine Below.drew ?_) | (refine Below.alloc ?_ (by first | omega | (simp<;>omega)) _)))
 refine(specIsCore_any _ g _ (HG.out.below bx)).mono ?_
 rintro e w1 ⟨rfl,b1⟩
 have b2:=bx.trans (b1.mono bx.size)
 go_wp2
 exact bodyPost_ret (v:= .bool (coreB g)) (by simp[results,Tryz.results24]) rfl ⟨rfl,b2⟩
end Go.Proofs.YtfadnkjlilhneaaGreat
namespace Go.Proofs.YtfadnkjlilhneaaGreat
set_option maxRecDepth 20000
set_option linter.unusedVariables false
set_option linter.unusedSimpArgs false
open Go.RowKit
theorem grB_of {g:GrD} (h1:1≤g.1∧g.1≤3) (h2:1≤g.2.1∧g.2.1≤40) (h3:g.2.2.length≤120) (hs:Srt cmpE g.2.2)
  (he: ∀e∈g.2.2,(0≤e.1∧e.1<g.2.1)∧(1≤e.2.1∧e.2.1≤g.1)∧(0≤e.2.2∧e.2.2<g.2.1)):grB g=true:=by
 have hw:wrap64 (g.2.1-1)=g.2.1-1:=by unfold wrap64;omega
 have ho: ∀k (hk:k<g.2.2.length),edgeOk g.1 g.2.1 g.2.2[k]=true:=fun k hk=>by
  obtain⟨⟨a1,a2⟩,⟨b1,b2⟩,c1,c2⟩:=he g.2.2[k] (by simp)
  unfold edgeOk
  rw[hw]
  simp only[Bool.and_eq_true]
  exact⟨⟨inB_iff.2 ⟨by omega,by omega⟩,inB_iff.2 ⟨by omega,by omega⟩⟩,inB_iff.2 ⟨by omega,by omega⟩⟩
 unfold grB
 simp only[Bool.and_eq_true,decide_eq_true_eq,List.all_eq_true,List.mem_range]
 refine⟨⟨⟨inB_iff.2 h1,inB_iff.2 h2⟩,h3⟩,fun k hk=> ?_⟩
 rcases Nat.eq_zero_or_pos k with rfl | h0
 ·rw[okE_zero hk];exact ho 0 hk
 ·rw[okE_pos h0 hk,ho k hk]
  have:=(List.pairwise_iff_getElem.1 hs) (k-1) k (by omega) hk (by omega)
  simp only[Bool.true_and,Bool.not_eq_true',decide_eq_false_iff_not]
  omega
theorem rnE_ok {o:List Int} {r n:Int} {e x:EdD} (he:(0≤e.1∧e.1<n)∧(1≤e.2.1∧e.2.1≤r)∧(0≤e.2.2∧e.2.2<n)) (h:rnE o e=some x):
  (0≤x.1∧x.1<o.length)∧(1≤x.2.1∧x.2.1≤r)∧(0≤x.2.2∧x.2.2<o.length):=by
 unfold rnE at h
 split at h
 ·rename_i hp
  injection h with h
  subst h
  have h1:=plv_range o e.1
  have h2:=plv_range o e.2.2
  simp only
  omega
 ·cases h
theorem grB_rnGN {g:GrD} {o:List Int} (hg:grB g=true) (ho:OrdN g.2.1 o):grB (rnG g o)=true:=by
 obtain⟨h1,h2,h3,_⟩:=grB_parts hg
 have hol:o.length≤g.2.1.toNat:=nodup_len g.2.1.toNat o ho.1 fun y hy=>by have:=ho.2.1 y hy;omega
 have hol1:1≤o.length:=ho.2.2
 have hsp:=srt_spec cmpE_ord (rnL g.2.2 o)
 refine grB_of h1 ⟨by show(1:Int)≤(o.length:Int);omega,by show(o.length:Int)≤40;omega⟩ ?_ hsp.1 fun e he=> ?_
 ·have a:=srt_len (c:=cmpE) (rnL g.2.2 o)
  have b:=rnL_len g.2.2 o
  show(srt cmpE (rnL g.2.2 o)).length≤120
  omega
 ·have hm:=(hsp.2 e).1 he
  unfold rnL at hm
  obtain⟨d,hd,hx⟩:=List.mem_filterMap.1 hm
  exact rnE_ok (edge_of_gr hg hd) hx
theorem grB_rnG {g:GrD} {o:List Int} (hg:grB g=true) (ho:OrdOk g.2.1 o):grB (rnG g o)=true:=grB_rnGN hg ho.toN
def delO (n:Nat) (x:Int):List Int:=((List.range n).map fun v=>((v:Nat):Int)).filter fun y=>decide (y≠x)
theorem delO_succ (n:Nat) (x:Int):delO (n+1) x=if(n:Int)≠x then delO n x++ [(n:Int)] else delO n x:=by
 unfold delO
 rw[List.range_succ,List.map_append,List.filter_append]
 by_cases h:(n:Int)=x<;>simp[h]
theorem delO_mem {n:Nat} {x y:Int}:y∈delO n x↔(0≤y∧y<n)∧y≠x:=by
 unfold delO
 simp only[List.mem_filter,List.mem_map,List.mem_range,decide_eq_true_eq]
 constructor
 ·rintro⟨⟨v,hv,rfl⟩,h⟩
  exact⟨⟨by omega,by omega⟩,h⟩
 ·rintro⟨⟨h0,h1⟩,h⟩
  exact⟨⟨y.toNat,by omega,by omega⟩,h⟩
theorem delO_nodup (n:Nat) (x:Int):(delO n x).Nodup:=by
 induction n with
 | zero=>exact List.nodup_nil
 | succ n ih=>
   rw[delO_succ]
   split
   ·rw[List.nodup_append]
    refine⟨ih,by simp,fun a ha b hb e=> ?_⟩
    have:=(delO_mem.1 ha).1.2
    simp only[List.mem_singleton] at hb
    omega
   ·exact ih
theorem delO_head {n:Nat} {x:Int} (hn:1≤n) (hx:1≤x):(delO n x)[0]? =some 0:=by
 obtain⟨m,rfl⟩: ∃m,n=m+1:=⟨n-1,by omega⟩
 induction m with
 | zero=>
   rw[delO_succ,if_pos (by omega)]
   rfl
 | succ m ih=>
   rw[delO_succ]
   have:=ih (by omega)
   split
   ·rw[List.getElem?_append_left (by
     cases h:delO (m+1) x with
     | nil=>rw[h] at this;cases this
     | cons _ _=>simp)]
    exact this
   ·exact this
theorem delO_ok {n:Nat} {x:Int} (hn:1≤n) (hx:1≤x):OrdOk (n:Int) (delO n x):=
 ⟨delO_nodup n x,fun y hy=>(delO_mem.1 hy).1,delO_head hn hx⟩
theorem leafFrom_range (es:List EdD) (n:Nat): ∀f v:Nat,leafFrom es n f v= -1∨((v:Int)≤leafFrom es n f v∧leafFrom es n f v<n)
 | 0,v=> .inl rfl
 | f+1,v=>by
   unfold leafFrom
   split
   ·split
    ·right;omega
    ·rcases leafFrom_range es n f (v+1) with h | h
     ·exact .inl h
     ·right;omega
   ·exact .inl rfl
theorem leafV_range (es:List EdD) (n:Nat):leafV es n= -1∨(1≤leafV es n∧leafV es n<n):=by
 have:=leafFrom_range es n (n-1) 1
 unfold leafV
 omega
end Go.Proofs.YtfadnkjlilhneaaGreat
namespace Go.Proofs.YtfadnkjlilhneaaGreat
set_option maxRecDepth 20000
set_option linter.unusedVariables false
set_option linter.unusedSimpArgs false
open Go.RowKit Go.Shelf Go.Lib Go.Sort
def Tryz.sortE_ren:Go.Shelf.Ren:=⟨fun | 6=>107 | 15=>134 | 14=>133 | 28=>153 | 29=>154 | 20=>145 | 21=>146 | 22=>147 | 23=>148 | 24=>149 | 25=>150 | 26=>151 | 27=>152 | 46=>168 | 47=>169 | 48=>170 | 49=>171 | 50=>172 | 57=>181 | n=>n,fun | 22=>29 | 24=>54 | 25=>100 | 3=>3 | 39=>125 | 0=>0 | 53=>141 | 55=>143 | 4=>4 | 46=>135 | 45=>134 | 50=>85 | 5=>5 | 9=>9 | 66=>152 | 70=>156 | 76=>163 | 77=>41 | n=>n,fun | n=>n⟩
theorem Tryz.sortE:Go.Proofs.SlLaysF0.n6 Tryz.prog Tryz.sortE_ren:= {
 mixed:=by kernel_rfl,
 f6:=⟨Tryz.f107.name,by decide,Tryz.func107.trans (congrArg some (by kernel_rfl))⟩,
 f14:=⟨Tryz.f133.name,by decide,Tryz.func133.trans (congrArg some (by kernel_rfl))⟩,
 f15:=Tryz.func134.trans (congrArg some (by kernel_rfl)),
 f20:=⟨Tryz.f145.name,by decide,Tryz.func145.trans (congrArg some (by kernel_rfl))⟩,
 f21:=⟨Tryz.f146.name,by decide,Tryz.func146.trans (congrArg some (by kernel_rfl))⟩,
 f22:=⟨Tryz.f147.name,by decide,Tryz.func147.trans (congrArg some (by kernel_rfl))⟩,
 f23:=⟨Tryz.f148.name,by decide,Tryz.func148.trans (congrArg some (by kernel_rfl))⟩,
 f24:=⟨Tryz.f149.name,by decide,Tryz.func149.trans (congrArg some (by kernel_rfl))⟩,
 f25:=⟨Tryz.f150.name,by decide,Tryz.func150.trans (congrArg some (by kernel_rfl))⟩,
 f26:=⟨Tryz.f151.name,by decide,Tryz.func151.trans (congrArg some (by kernel_rfl))⟩,
 f27:=⟨Tryz.f152.name,by decide,Tryz.func152.trans (congrArg some (by kernel_rfl))⟩,
 f28:=Tryz.func153.trans (congrArg some (by kernel_rfl)),
 f29:=Tryz.func154.trans (congrArg some (by kernel_rfl)),
 f46:=⟨Tryz.f168.name,by decide,Tryz.func168.trans (congrArg some (by kernel_rfl))⟩,
 f47:=Tryz.func169.trans (congrArg some (by kernel_rfl)),
 f48:=Tryz.func170.trans (congrArg some (by kernel_rfl)),
 f49:=⟨Tryz.f171.name,by decide,Tryz.func171.trans (congrArg some (by kernel_rfl))⟩,
 f50:=⟨Tryz.f172.name,by decide,Tryz.func172.trans (congrArg some (by kernel_rfl))⟩,
 f57:=⟨Tryz.f181.name,by decide,Tryz.func181.trans (congrArg some (by kernel_rfl))⟩,
 t0:=Tryz.underlying0,
 a0:=Tryz.isAgg0,
 z0:=Tryz.sizeOf0,
 v0:=Tryz.zeroValue0,
 t3:=Tryz.underlying3,
 a3:=Tryz.isAgg3,
 z3:=Tryz.sizeOf3,
 v3:=Tryz.zeroValue3,
 t4:=Tryz.underlying4,
 a4:=Tryz.isAgg4,
 z4:=Tryz.sizeOf4,
 v4:=Tryz.zeroValue4,
 t5:=Tryz.underlying5,
 a5:=Tryz.isAgg5,
 z5:=Tryz.sizeOf5,
 v5:=Tryz.zeroValue5,
 t9:=Tryz.underlying9,
 a9:=Tryz.isAgg9,
 z9:=Tryz.sizeOf9,
 v9:=Tryz.zeroValue9,
 t22:=Tryz.underlying29,
 a22:=Tryz.isAgg29,
 z22:=Tryz.sizeOf29,
 v22:=Tryz.zeroValue29,
 t25:=Tryz.underlying100,
 a25:=Tryz.isAgg100,
 z25:=Tryz.sizeOf100,
 v25:=Tryz.zeroValue100,
 t39:=Tryz.underlying125,
 a39:=Tryz.isAgg125,
 z39:=Tryz.sizeOf125,
 v39:=Tryz.zeroValue125,
 t45:=Tryz.underlying134,
 a45:=Tryz.isAgg134,
 z45:=Tryz.sizeOf134,
 v45:=Tryz.zeroValue134,
 t46:=Tryz.underlying135,
 a46:=Tryz.isAgg135,
 z46:=Tryz.sizeOf135,
 v46:=Tryz.zeroValue135,
 t50:=Tryz.underlying85,
 a50:=Tryz.isAgg85,
 z50:=Tryz.sizeOf85,
 v50:=Tryz.zeroValue85,
 t53:=Tryz.underlying141,
 a53:=Tryz.isAgg141,
 z53:=Tryz.sizeOf141,
 v53:=Tryz.zeroValue141,
 t55:=Tryz.underlying143,
 a55:=Tryz.isAgg143,
 z55:=Tryz.sizeOf143,
 v55:=Tryz.zeroValue143,
 t66:=Tryz.underlying152,
 a66:=Tryz.isAgg152,
 z66:=Tryz.sizeOf152,
 v66:=Tryz.zeroValue152,
 t70:=Tryz.underlying156,
 a70:=Tryz.isAgg156,
 z70:=Tryz.sizeOf156,
 v70:=Tryz.zeroValue156,
 t76:=Tryz.underlying163,
 a76:=Tryz.isAgg163,
 z76:=Tryz.sizeOf163,
 v76:=Tryz.zeroValue163,
 t77:=Tryz.underlying41,
 a77:=Tryz.isAgg41,
 z77:=Tryz.sizeOf41,
 v77:=Tryz.zeroValue41}
theorem cmpE_swo:SWO (ltOf cmpE) where
 irrefl x:=by
  unfold ltOf
  simpa using cmpE_ord.irrefl x
 trans x y z h1 h2:=by
  unfold ltOf at*
  simp only[decide_eq_true_eq] at*
  exact cmpE_ord.trans h1 h2
 ntrans x y z h1 h2:=by
  unfold ltOf at*
  simp only[decide_eq_false_iff_not] at*
  rw[cmpE_neg] at*
  omega
set_option maxHeartbeats 1000000 in
theorem implCompareEdges_grow (a b:EdD) (w:World):
  Calls Tryz.prog 108 #[edV a,edV b] w fun e w'=>e= .returned (.int .i64 (cmpE a b))∧ ∃q os',w'=grow (w.drewN q) os':=by
 obtain⟨x,y,z⟩:=a
 obtain⟨x',y',z'⟩:=b
 unfold edV
 rcases e1:(cmpI x x' != 0) with _ | _
 ·rcases e2:(cmpI y y' != 0) with _ | _
  ·have F:Hid (cmpE (x,y,z) (x',y',z')=cmpI z z'):=hDD (by simp at e1 e2;simp[cmpE,e1,e2])
   go_enter Tryz.func108,Tryz.ntmps108
   go_wp2_with (go_at_call 135;refine(compareInts_any _ _ _).mono ?_;rintro e w' ⟨rfl,rfl⟩)
   go_ret
   exact⟨ret_int F.out.symm,0,_,by rw[alloc_eq_grow,alloc_eq_grow,grow_grow];rfl⟩
  ·have F:Hid (cmpE (x,y,z) (x',y',z')=cmpI y y'):=hDD (by simp at e1 e2;simp[cmpE,e1,e2])
   go_enter Tryz.func108,Tryz.ntmps108
   go_wp2_with (go_at_call 135;refine(compareInts_any _ _ _).mono ?_;rintro e w' ⟨rfl,rfl⟩)
   go_ret
   exact⟨ret_int F.out.symm,0,_,by rw[alloc_eq_grow,alloc_eq_grow,grow_grow];rfl⟩
 ·have F:Hid (cmpE (x,y,z) (x',y',z')=cmpI x x'):=hDD (by simp at e1;simp[cmpE,e1])
  go_enter Tryz.func108,Tryz.ntmps108
  go_wp2_with (go_at_call 135;refine(compareInts_any _ _ _).mono ?_;rintro e w' ⟨rfl,rfl⟩)
  go_ret
  exact⟨ret_int F.out.symm,0,_,by rw[alloc_eq_grow,alloc_eq_grow,grow_grow];rfl⟩
theorem edC_three (e:EdD):(edC e).length=3:=rfl
theorem edC_one (e:EdD) (v:Value) (h:v∈edC e):v.oneCell'=true:=by
 simp[edC] at h
 rcases h with rfl | rfl | rfl<;>rfl
theorem flatK_get (d:Array EdD) (j:Nat) (h:j<d.size*3):(flatK edC 3 d)[j]! =(edC d[j/3]!)[j%3]! :=by
 unfold flatK
 rw[getElem!_pos _ _ (by simpa using h)]
 simp
theorem edCs_at (es:List EdD) (j:Nat) (h:j<es.length*3):(edCs es)[j]? =some ((edC (es.toArray)[j/3]!)[j%3]!):=by
 have hk:j/3<es.length:=by omega
 have:=edCs_get es (j/3) (j%3) hk (by omega)
 rw[show j/3*3+j%3=j by omega] at this
 rw[this,List.getElem?_eq_getElem (show j%3<(edC es[j/3]).length by rw[edC_three];omega)]
 rw[getElem!_pos (es.toArray) _ (by simpa using hk),getElem!_pos _ _ (by rw[edC_three];omega)]
 simp
theorem OwE.holdsK {w:World} {base g n cap:Nat} {es:List EdD} (h:OwE w base (.slice (some ⟨g,0,none⟩) n cap) es):HoldsK edC 3 w g 0 es.toArray:=by
 have hn:n=es.length:=by
  rcases h.1.2 with ⟨hv,_⟩ | ⟨g',cap',cur,hv,_⟩
  ·cases hv
  ·injection hv
 subst hn
 intro j hj
 have hj':j<es.length*3:=by simpa[flatK] using hj
 refine⟨?_,h.free _⟩
 rw[Nat.zero_add,h.1.cellAt j hj',flatK_get _ _ (by simpa using hj')]
 exact edCs_at es j hj'
theorem sortWorld_row {w:World} {base g n cap:Nat} {es:List EdD} (h:OwE w base (.slice (some ⟨g,0,none⟩) n cap) es) (d:Array EdD) (hd:d.size=es.length) (hE:E64s d.toList) (q:Nat) (os:Array Obj):
  OwE (sortWorldK edC 3 w g 0 q d os) base (.slice (some ⟨g,0,none⟩) n cap) d.toList∧w.grownBy (sortWorldK edC 3 w g 0 q d os) (some g):=by
 have hlt:=(h.1.lt g rfl).2
 have hheap: ∀b,b<w.heap.size→(sortWorldK edC 3 w g 0 q d os).heap[b]? =if g=b then(w.heap[b]?).map (onCells (putCells id 0 (flatK edC 3 d))) else w.heap[b]? :=by
  intro b hb
  show((w.heap.modify g (onCells (putCells id 0 (flatK edC 3 d))))++os)[b]? =_
  rw[Array.getElem?_append_left (by simpa using hb),Array.getElem?_modify]
 refine⟨⟨⟨by rw[edCs_length],?_⟩,hE⟩,rfl,rfl,rfl,?_,fun b hb hne=> ?_⟩
 ·rcases h.1.2 with ⟨hv,_⟩ | ⟨g',cap',cur,hv,hg,hh,hnc,hcm,hcs,htake⟩
  ·cases hv
  ·injection hv with e1 e2 e3
   injection e1 with e1
   injection e1 with e1
   subst e1 e2 e3
   refine .inr ⟨g,cap,putCells id 0 (flatK edC 3 d) cur,by simp[hd],hg,?_,by simp[hd];exact hnc,hcm,by simp[putCells,hcs],?_⟩
   ·rw[hheap g hlt,if_pos rfl,hh]
    rfl
   ·apply List.ext_getElem?
    intro j
    rw[List.getElem?_take]
    split
    ·rename_i hj
     rw[Array.length_toList] at hj
     have hjc:j<cur.size:=by rw[hcs];have:d.size*3≤cap*3:=Nat.mul_le_mul_right 3 (by omega);omega
     rw[edCs_at _ _ (by simpa using hj),Array.getElem?_toList]
     simp only[putCells,Array.getElem?_mapIdx]
     rw[Array.getElem?_eq_getElem hjc]
     simp only[Option.map_some,Nat.zero_le,true_and,Nat.zero_add,Nat.sub_zero,id]
     rw[if_pos (by simpa[flatK] using hj),flatK_get _ _ hj]
    ·rename_i hj
     rw[List.getElem?_eq_none (by rw[edCs_length];omega)]
 ·show w.heap.size≤((w.heap.modify g (onCells (putCells id 0 (flatK edC 3 d))))++os).size
  simp
 ·rw[hheap b hb,if_neg (fun e=>hne (by rw[e]))]
theorem sortE_any (g n cap base:Nat) (es:List EdD) (w:World) (h:OwE w base (.slice (some ⟨g,0,none⟩) n cap) es) (hl:es.length≤1073741824):
  Calls Tryz.prog 107 #[.slice (some ⟨g,0,none⟩) n cap, .func (.func 108) #[] #[]] w fun e w'=>
   e= .returned (.tuple #[])∧ ∃es',OwE w' base (.slice (some ⟨g,0,none⟩) n cap) es'∧es'.Perm es∧(es'.Pairwise fun a b=> ¬0<cmpE a b)∧w.grownBy w' (some g):=by
 have hn:n=es.length:=by
  rcases h.1.2 with ⟨hv,_⟩ | ⟨g',cap',cur,hv,_⟩
  ·cases hv
  ·injection hv
 subst hn
 have eg: ∀args w,(callFunc 108 args).run Tryz.prog w= .ok (.enter 108 args) w:=enters_of Tryz.func108 (by kernel_rfl) rfl
 have hcon:=AnyQ.slices_SortFunc Tryz.sortE 3 Tryz.isAgg54 Tryz.sizeOf54 edC edC_three edC_one cmpE cmpE_swo 108 #[] g 0 cap es.toArray w eg (fun _ _ _ _ x y=>implCompareEdges_grow x y _) h.holdsK (h.1.lt g rfl).2 (by simp;omega)
 change Calls Tryz.prog 107 _ _ _ at hcon
 refine hcon.mono ?_
 rintro e w' ⟨rfl,d,q,os,hp,hs,rfl⟩
 obtain⟨p1,_,p3⟩:=hp
 have hperm:d.toList.Perm es:=by
  have e1:d.extract 0 es.toArray.size=d:=by rw[←p1];simp
  have e2:es.toArray.extract 0 es.toArray.size=es.toArray:=by simp
  rw[e1,e2] at p3
  simpa using p3
 have hE:E64s d.toList:=fun x hx=>h.2 x (hperm.mem_iff.1 hx)
 obtain⟨o1,g1⟩:=sortWorld_row h d (by simpa using p1) hE q os
 refine⟨rfl,d.toList,o1,hperm,?_,g1⟩
 rw[List.pairwise_iff_getElem]
 intro i j hi hj hij
 have hi':i<d.size:=by simpa using hi
 have hj':j<d.size:=by simpa using hj
 have:=hs i j (Nat.zero_le _) hij (by rw[←p1];exact hj')
 unfold ltOf at this
 rw[decide_eq_false_iff_not,getElem!_pos d j hj',getElem!_pos d i hi'] at this
 rw[Array.getElem_toList,Array.getElem_toList]
 intro h0
 exact this (cmpE_ord.anti.2 h0)
end Go.Proofs.YtfadnkjlilhneaaGreat
