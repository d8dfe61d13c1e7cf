/- Parts of the proof: PowI, DrawL, CmpW, Rot, EqW, PowP, PowR, DrawR, DrawT, LawE, LawW, Lst, Quo, Rgg, TwI, Frame, MarkG, MarkGS, QuoM, Conj, BasS, IdxW, Ctn, PowQ, IdxZ, IdxX, AddI, Dcl, IdxU, IdxP, NorP, PcP, MalP, Eul, Trn, Ovr, OvgP, OvgQ, OvgR, DrawY. -/
import Derived.Test.YtnjpoljbagfdnaaGreatV05
import Derived.Test.YtnjpoljbagfdnaaGreatV02
import Derived.Test.YtnjpoljbagfdnaaGreatV03
import Derived.Test.YtnjpoljbagfdnaaGreatV06
import Derived.Test.YtnjpoljbagfdnaaGreatV07
import Derived.Outline
import Derived.Deep.RegionHeld3
import Derived.Test.YtnjpoljbagfdnaaGreatV01
import Derived.ProofKit
import Derived.OpenShut
import Derived.ShutString
import Derived.ChangeOld
import Derived.Lib.SmallJoins
namespace Go.Proofs.YtnjpoljbagfdnaaGreat
set_option maxRecDepth 20000
set_option linter.unusedVariables false
set_option linter.unusedSimpArgs false
open Go.RowKit
set_option maxHeartbeats 1000000 in
theorem implRankOf_any (v:Value) (g:GrD) (w:World) (h:ArgG w v g):
  Calls Tryz.prog 118 #[v] w fun e w'=>e= .returned (.int .i64 (rankF g))∧Below w.heap.size w w':=by
 have HG:=hDD h
 obtain⟨s,rfl,hi1,hi2,ha⟩:=h
 obtain⟨A,cap,rfl,hcap,hm,_⟩:=ha
 have HP:Hid (coreB g=true→g.2.1≤40∧1≤g.2.1∧g.2.2.length≤120):=hDD fun e=>by
  obtain⟨_,h1,h2,_⟩:=grB_parts (coreB_grB e)
  exact⟨h1.2,h1.1,h2⟩
 have HR:Hid (rankF g=if coreB g then(g.2.2.length:Int)-g.2.1+1 else-1):=hDD rfl
 generalize rankF g=rk at*
 go_enter Tryz.func118,Tryz.ntmps118
 go_wp2_with fail
 have bx:Below w.heap.size w (w.alloc (Obj.cells #[Value.int IntKind.i64 g.1,Value.int IntKind.i64 g.2.1, .slice A g.2.2.length cap] 26)):=(by repeat(first | exact Below.refl _ _ | (refine Below.setCell ?_ (by first | omega | (simp<;>omega)) _) | (refine bel_drewN ?_ _) | (refine Below.drew ?_) | (refine Below.alloc ?_ (by first | omega | (simp<;>omega)) _)))
 have l1:(w.alloc (Obj.cells #[Value.int IntKind.i64 g.1,Value.int IntKind.i64 g.2.1, .slice A g.2.2.length cap] 26)).cell? ⟨w.heap.size,1,none⟩=some (.int .i64 g.2.1):=by simp[go_sem]
 have l2:(w.alloc (Obj.cells #[Value.int IntKind.i64 g.1,Value.int IntKind.i64 g.2.1, .slice A g.2.2.length cap] 26)).cell? ⟨w.heap.size,2,none⟩=some (.slice A g.2.2.length cap):=by simp[go_sem]
 have sA:w.heap.size<(w.alloc (Obj.cells #[Value.int IntKind.i64 g.1,Value.int IntKind.i64 g.2.1, .slice A g.2.2.length cap] 26)).heap.size:=by simp
 have ax:=HG.out.below bx
 generalize w.alloc (Obj.cells #[Value.int IntKind.i64 g.1,Value.int IntKind.i64 g.2.1, .slice A g.2.2.length cap] 26)=W at bx l1 l2 sA ax⊢
 refine(implIsCore_any _ g _ ax).mono ?_
 rintro e w1 ⟨rfl,b1⟩
 have B2:=hDD (bx.trans (b1.mono bx.size))
 have c1:=(b1.cell (p:=⟨w.heap.size,1,none⟩) sA).trans l1
 have c2:=(b1.cell (p:=⟨w.heap.size,2,none⟩) sA).trans l2
 clear b1 bx l1 l2 ax
 rcases e1:coreB g with _ | _
 ·have HR2:Hid (rk= -1):=hDD (by rw[HR.out,e1];rfl)
  clear e1
  go_wp2
  exact bodyPost_ret (v:= .int .i64 (-1)) (by simp[results,Tryz.results118]) rfl ⟨by rw[HR2.out],B2.out⟩
 ·obtain⟨p1,p2,p3⟩:=HP.out e1
  have HR2:Hid (rk=(g.2.2.length:Int)-g.2.1+1):=hDD (by rw[HR.out,e1,if_pos rfl])
  clear e1
  go_wp2
  exact bodyPost_ret (v:= .int .i64 ((g.2.2.length:Int)-g.2.1+1)) (by simp[results,Tryz.results118];try(go_num)) rfl ⟨by rw[HR2.out],B2.out⟩
set_option maxHeartbeats 1000000 in
theorem implLeastRank_any (v:Value) (gs:List GrD) (w:World) (h:ArgGS w v gs):
  Calls Tryz.prog 53 #[v] w fun e w'=>e= .returned (.int .i64 (leastR gs))∧Below w.heap.size w w':=by
 have H:=hDD h
 obtain⟨A,cap,rfl,hcap,hm,_⟩:=h
 unfold maxLen at hm
 go_enter Tryz.func53,Tryz.ntmps53
 go_wp2
 go_loopw [3,9] (fun b i wr=> ∃k:Nat,k≤gs.length∧i= .int .i64 k∧b= .int .i64 (leastR (gs.take k))∧Below w.heap.size w wr) (fun _ i _=>gs.length-(intOf i).toNat)
 case atStart=>exact⟨0,Nat.zero_le _,rfl,rfl,Below.refl _ _⟩
 case round=>
  obtain⟨k,hk,rfl,rfl,hbel⟩:=hrel
  have HB:=hDD hbel
  by_cases hlt:k<gs.length
  ·obtain⟨g,off,s',rfl,hg,c0,c1,c2,ha⟩:=(H.out.below hbel).at hlt
   obtain⟨A',cap',rfl⟩: ∃A' cap',s'= .slice A' gs[k].2.2.length cap':=by
    obtain⟨s,hv,_,_,hb⟩:=id ha
    obtain⟨A',cap',rfl⟩:=hb.form
    exact⟨A',cap',by simpa using hv⟩
   have X1:=hDD ha
   have HS:=hDD (leastR_succ gs k hlt)
   have hrm:=leastR_range gs k hk
   have hrr:=rankF_range gs[k]
   clear ha hbel
   generalize leastR (gs.take k)=m at*
   generalize gs[k]=x at*
   go_wp2_with fail
   refine(implRankOf_any _ x _ (X1.out.below ((Below.refl _ _).alloc (Nat.le_refl _) _))).mono ?_
   rintro e w9 ⟨rfl,b9⟩
   have B9:=hDD ((HB.out.alloc HB.out.size _).trans (b9.mono (by have:=HB.out.size;simp;omega)))
   have STEP:Hid (leastStep m (rankF x)=if 0≤rankF x∧(m<0∨rankF x<m) then rankF x else m):=hDD rfl
   generalize rankF x=r at*
   clear b9 c0 c1 c2
   by_cases t1:0≤r
   ·by_cases t2:m<0
    ·have F:Hid (leastStep m r=r):=hDD (by rw[STEP.out,if_pos ⟨t1, .inl t2⟩])
     go_wp2
     go_roundw
     case rel=>exact⟨k+1,by omega,by go_num,by rw[HS.out,F.out],B9.out⟩
     case measure=>simp[intOf];omega
    ·by_cases t3:r<m
     ·have F:Hid (leastStep m r=r):=hDD (by rw[STEP.out,if_pos ⟨t1, .inr t3⟩])
      go_wp2
      go_roundw
      case rel=>exact⟨k+1,by omega,by go_num,by rw[HS.out,F.out],B9.out⟩
      case measure=>simp[intOf];omega
     ·have F:Hid (leastStep m r=m):=hDD (by rw[STEP.out,if_neg (fun h=>h.2.elim t2 t3)])
      go_wp2
      go_roundw
      case rel=>exact⟨k+1,by omega,by go_num,by rw[HS.out,F.out],B9.out⟩
      case measure=>simp[intOf];omega
   ·have F:Hid (leastStep m r=m):=hDD (by rw[STEP.out,if_neg (fun h=>t1 h.1)])
    go_wp2
    go_roundw
    case rel=>exact⟨k+1,by omega,by go_num,by rw[HS.out,F.out],B9.out⟩
    case measure=>simp[intOf];omega
  ·obtain rfl:k=gs.length:=by omega
   rw[List.take_length]
   obtain⟨m,hm'⟩: ∃m,m=leastR gs:=⟨_,rfl⟩
   rw[←hm']
   have HL:=hDD hm'
   clear hm'
   clear hbel
   go_wp2
   exact bodyPost_ret (v:= .int .i64 m) (by simp[results,Tryz.results53]) rfl ⟨by rw[HL.out],HB.out⟩
theorem coreB_foldB {g:GrD} (h:coreB g=true):foldB g=true:=by
 unfold coreB at h
 simp only[Bool.and_eq_true] at h
 exact h.1.1
end Go.Proofs.YtnjpoljbagfdnaaGreat
namespace Go.Proofs.YtnjpoljbagfdnaaGreat
set_option maxRecDepth 20000
set_option linter.unusedVariables false
set_option linter.unusedSimpArgs false
open Go.RowKit
end Go.Proofs.YtnjpoljbagfdnaaGreat
namespace Go.Proofs.YtnjpoljbagfdnaaGreat
set_option maxRecDepth 20000
set_option linter.unusedVariables false
set_option linter.unusedSimpArgs false
open Go.RowKit
end Go.Proofs.YtnjpoljbagfdnaaGreat
namespace Go.Proofs.YtnjpoljbagfdnaaGreat
set_option maxRecDepth 20000
set_option linter.unusedVariables false
set_option linter.unusedSimpArgs false
open Go.RowKit
end Go.Proofs.YtnjpoljbagfdnaaGreat
namespace Go.Proofs.YtnjpoljbagfdnaaGreat
set_option maxRecDepth 20000
set_option linter.unusedVariables false
set_option linter.unusedSimpArgs false
open Go.RowKit
end Go.Proofs.YtnjpoljbagfdnaaGreat
namespace Go.Proofs.YtnjpoljbagfdnaaGreat
set_option maxRecDepth 20000
set_option linter.unusedVariables false
set_option linter.unusedSimpArgs false
open Go.RowKit
section
variable {g:GrD} (hg:grB g=true) (hf:Fol g.2.2) {w:List Int} (hw: ∀y∈w,Lt3 y) {s:Int×List Int} (hs:okS g s)
include hg hw
include hf
include hs
end
section
variable {g:GrD} (hg:grB g=true) (hf:Fol g.2.2)
include hg hf
end
section
variable {es:List EdD} {c:List Int} {v:Int}
end
end Go.Proofs.YtnjpoljbagfdnaaGreat
namespace Go.Proofs.YtnjpoljbagfdnaaGreat
set_option maxRecDepth 20000
set_option linter.unusedVariables false
set_option linter.unusedSimpArgs false
open Go.RowKit
end Go.Proofs.YtnjpoljbagfdnaaGreat
namespace Go.Proofs.YtnjpoljbagfdnaaGreat
set_option maxRecDepth 20000
set_option linter.unusedVariables false
set_option linter.unusedSimpArgs false
open Go.RowKit
theorem Tr.bw {p B:Nat} {w W W':World} (hb:Below B w W) (ht:Tr p (p+1) W W') (hp:B≤p) (hB:B≤W.heap.size):Below B w W':=
 ⟨ht.os.trans hb.os,ht.tape.trans hb.tape,ht.output.trans hb.output,Nat.le_trans hb.size ht.size,fun k hk=>(ht.block k (by omega) (by omega)).trans (hb.block k hk)⟩
set_option maxHeartbeats 4000000 in
theorem l12Any_any (p:Nat) (A:Option Addr) (cap:Nat) (cs:List Int) (w:World) (h:Cur p A cap cs w):
  Calls Tryz.prog 91 #[.pointer (some ⟨p,0,none⟩)] w fun e w'=> ∃v g,e= .returned v∧OwG w' w.heap.size v g∧g.2.2.length≤120∧Cur p A cap cs w'∧Tr p (p+1) w w':=by
 have H:=hDD h
 have hp:=h.lt
 clear h
 go_enter Tryz.func91,Tryz.ntmps91
 go_wp2_with fail
 obtain⟨W0,hW0⟩: ∃W,W=w.alloc (Obj.cells #[Value.int IntKind.i64 0,Value.int IntKind.i64 0, .slice none 0 0] 26):=⟨_,rfl⟩
 rw[←hW0]
 obtain⟨xb,b0,s0⟩:=CBx.new hW0
 clear hW0
 have XB:=hDD xb
 have I0:Hid (DrI p A cap cs w W0):=hDD ((DrI.refl H.out).bel b0)
 clear xb b0
 refine(l1Once_any p A cap cs 2 _ I0.out.cur (by omega) (by omega)).mono ?_
 rintro e w1 ⟨x,rfl,c1,t1⟩
 have I1:=hDD (I0.out.to t1 c1)
 have X1:=hDD (XB.out.trP t1 (by omega))
 have hs1:=X1.out.lt
 clear c1 t1 I0 XB
 have END: ∀w2 q1 q2 qs A2 cp2,DrI p A cap cs w w2→CBx w2 w.heap.size (.int .i64 0) (.int .i64 0) (.slice none 0 0)→OwE w2 w1.heap.size (.slice A2 (List.length (α:=EdD) qs) cp2) qs→I64 q1→I64 q2→qs.length≤120→
   ∃W,W=((w2.setCell ⟨w.heap.size,0,none⟩ (.int .i64 q1)).setCell ⟨w.heap.size,1,none⟩ (.int .i64 q2)).setCell ⟨w.heap.size,2,none⟩ (.slice A2 qs.length cp2)∧CBx W w.heap.size (.int .i64 q1) (.int .i64 q2) (.slice A2 qs.length cp2)∧DrI p A cap cs w W∧OwG W w.heap.size (.agg #[.int .i64 q1, .int .i64 q2, .slice A2 qs.length cp2]) (q1,q2,qs):=fun w2 q1 q2 qs A2 cp2 hI hX hO h1 h2 _=>
  ⟨_,rfl,hX.setv _ _ _,hI.hi H.out (Nat.le_refl _) (set3_below _ _ _ (Below.refl _ _) (Nat.le_refl w.heap.size)),_,rfl,h1,h2,(hO.keep fun c hc=>set3_heap _ _ _ _ _ (by have:=(hO.1.lt c hc).1;omega)).mono (by omega)⟩
 have HEND:=hDD END
 clear END
 rcases x with _ | _
 ·go_wp2_with fail
  refine(l9Any_any p A cap cs _ I1.out.cur).mono ?_
  rintro e w2 ⟨v2,⟨q1,q2,qs⟩,rfl,⟨s2,rfl,j1,j2,oe2⟩,hl,c2,t2⟩
  obtain⟨A2,cp2,rfl,_⟩:=oe2.form
  simp only at j1 j2 oe2 hl⊢
  have X2:=hDD (X1.out.trP t2 (by omega))
  have HE:=hDD (HEND.out w2 q1 q2 qs A2 cp2 (I1.out.to t2 c2) X2.out oe2 j1 j2 hl)
  clear c2 t2 oe2 I1 X1
  have u0:=X2.out.c0
  have u1:=X2.out.c1
  have u2:=X2.out.c2
  have f0:=X2.out.fz 0
  have f1:=X2.out.fz 1
  have f2:=X2.out.fz 2
  go_wp2
  obtain⟨W,hW,XF,IF,OF⟩:=HE.out
  rw[←hW]
  have e0:=XF.c0
  have e1:=XF.c1
  have e2:=XF.c2
  exact bodyPost_ret (v:= .agg #[.int .i64 q1, .int .i64 q2, .slice A2 qs.length cp2]) (by simp[results,Tryz.results91,go_sem,e0,e1,e2]) rfl ⟨_,rfl,q1,q2,qs,OF,hl,IF.cur,IF.tr⟩
 ·go_wp2_with fail
  refine(l12Finite_any p A cap cs _ I1.out.cur).mono ?_
  rintro e w2 ⟨v2,⟨q1,q2,qs⟩,rfl,⟨s2,rfl,j1,j2,oe2⟩,hcb,c2,t2⟩
  have hl:qs.length≤120:=(grB_parts (coreB_grB hcb)).2.2.1
  obtain⟨A2,cp2,rfl,_⟩:=oe2.form
  simp only at j1 j2 oe2⊢
  have X2:=hDD (X1.out.trP t2 (by omega))
  have HE:=hDD (HEND.out w2 q1 q2 qs A2 cp2 (I1.out.to t2 c2) X2.out oe2 j1 j2 hl)
  clear c2 t2 oe2 I1 X1 hcb
  have u0:=X2.out.c0
  have u1:=X2.out.c1
  have u2:=X2.out.c2
  have f0:=X2.out.fz 0
  have f1:=X2.out.fz 1
  have f2:=X2.out.fz 2
  go_wp2
  obtain⟨W,hW,XF,IF,OF⟩:=HE.out
  rw[←hW]
  have e0:=XF.c0
  have e1:=XF.c1
  have e2:=XF.c2
  exact bodyPost_ret (v:= .agg #[.int .i64 q1, .int .i64 q2, .slice A2 qs.length cp2]) (by simp[results,Tryz.results91,go_sem,e0,e1,e2]) rfl ⟨_,rfl,q1,q2,qs,OF,hl,IF.cur,IF.tr⟩
end Go.Proofs.YtnjpoljbagfdnaaGreat
namespace Go.Proofs.YtnjpoljbagfdnaaGreat
set_option maxRecDepth 20000
set_option linter.unusedVariables false
set_option linter.unusedSimpArgs false
open Go.RowKit
theorem argC_below {w W:World} {v:Value} {cs:List Int} (h:ArgC w v cs) (hb:Below w.heap.size w W):ArgC W v cs:=by
 obtain⟨A,cap,e,h1,h2,h3,h4⟩:=h
 exact⟨A,cap,e,h1,h2,h3,fun h0=>by
  obtain⟨b,off,hA,hc⟩:=h4 h0
  exact⟨b,off,hA,fun i hi=>(hb.cell (p:=⟨b,off+i,none⟩) (lt_cell (hc 0 h0))).trans (hc i hi)⟩⟩
end Go.Proofs.YtnjpoljbagfdnaaGreat
namespace Go.Proofs.YtnjpoljbagfdnaaGreat
set_option maxRecDepth 20000
set_option linter.unusedVariables false
set_option linter.unusedSimpArgs false
open Go.RowKit
theorem lt_cell0 {w:World} {b o:Nat} {v:Value} (h:w.cell? ⟨b,o,none⟩=some v):b<w.heap.size:=by
 rcases Nat.lt_or_ge b w.heap.size with h' | h'
 ·exact h'
 ·simp[World.cell?,Array.getElem?_eq_none h'] at h
theorem ArgC.below {w w':World} {v:Value} {cs:List Int} (h:ArgC w v cs) (hb:Below w.heap.size w w'):ArgC w' v cs:=by
 obtain⟨A,cap,hv,h1,h2,h3,h4⟩:=h
 refine⟨A,cap,hv,h1,h2,h3,fun h0=> ?_⟩
 obtain⟨b,off,hA,hc⟩:=h4 h0
 exact⟨b,off,hA,fun i hi=>(World.cell?_of_block (w:=w) (hb.block b (lt_cell0 (hc 0 h0)))).trans (hc i hi)⟩
set_option maxHeartbeats 400000 in
theorem sameInts_any (v u:Value) (xs ys:List Int) (w:World) (h:ArgI w v xs) (h':ArgI w u ys):
  Calls Tryz.prog 21 #[v,u] w fun e w'=>e= .returned (.bool (decide (xs=ys)))∧ ∃n,w'=w.drewN n:=by
 obtain⟨A,cap,rfl,hcap,hm,hr,hb⟩:=h
 obtain⟨A',cap',rfl,hcap',hm',hr',hb'⟩:=h'
 unfold maxLen at hm hm'
 by_cases hne:xs.length=ys.length
 ·have hd:((xs.length:Int) != (ys.length:Int))=false:=by simp[hne]
  have HNE:=hDD hne
  clear hne
  go_enter Tryz.func21,Tryz.ntmps21
  go_wp2
  go_loopw [5] (fun i wr=> ∃k:Nat,k≤xs.length∧i= .int .i64 k∧xs.take k=ys.take k∧ ∃n,wr=w.drewN n) (fun i _=>xs.length-(intOf i).toNat)
  case atStart=>exact⟨0,Nat.zero_le _,rfl,by simp,0,rfl⟩
  case round=>
   obtain⟨k,hk,rfl,heq,n,rfl⟩:=hrel
   have HEQ:=hDD heq
   clear heq
   by_cases hlt:k<xs.length
   ·obtain⟨b,off,rfl,hc⟩:=hb (by omega)
    have hlt':k<ys.length:=by have:=HNE.out;omega
    obtain⟨b',off',rfl,hc'⟩:=hb' (by omega)
    have hcell:=hc k hlt
    have hcell':=hc' k hlt'
    clear hc hc' hb hb'
    by_cases hx:xs[k]=ys[k]
    ·have hx1:(xs[k] != ys[k])=false:=by simp[hx]
     have HX:=hDD hx
     clear hx
     go_wp2
     go_quiet (fail)
     go_wp2
     go_roundw
     case rel=>exact⟨k+1,by omega,by go_num,take_eq_succ HEQ.out hlt hlt' HX.out,_,rfl⟩
     case measure=>simp[intOf];omega
    ·have hx1:(xs[k] != ys[k])=true:=by simp[hx]
     go_wp2
     go_quiet (fail)
     go_wp2
     go_ret
     exact⟨ret_bool (by symm;rw[decide_eq_false_iff_not];rintro rfl;exact hx rfl),_,World.drewN_drewN _ _ _⟩
   ·obtain rfl:k=xs.length:=by omega
    go_wp2
    go_ret
    refine⟨ret_bool ?_,n,rfl⟩
    have h1:=HEQ.out
    rw[List.take_length,HNE.out,List.take_length] at h1
    simp[h1]
 ·have hd:((xs.length:Int) != (ys.length:Int))=true:=by simp;omega
  go_enter Tryz.func21,Tryz.ntmps21
  go_wp2
  go_ret
  exact⟨ret_bool (by symm;rw[decide_eq_false_iff_not];rintro rfl;exact hne rfl),0,rfl⟩
set_option maxHeartbeats 1000000 in
theorem lawAt_any (v:Value) (cs:List Int) (i:Nat) (w:World) (h:ArgC w v cs) (hl:cs.length≤1048576) (hi:i≤1000):
  Calls Tryz.prog 110 #[v, .int .i64 i] w fun e w'=> ∃x:Int,e= .returned (.int .i64 x)∧(0≤x∧x≤255)∧w=w':=by
 obtain⟨A,cap,rfl,hcap,hm,hby,hat⟩:=h
 unfold maxLen at hm
 by_cases hlt:i<cs.length
 ·obtain⟨b,off,rfl,hc⟩:=hat (by omega)
  have hcell:=hc i hlt
  have hz:=hby _ (List.getElem_mem hlt)
  generalize cs[i]=z at*
  have hcv:IntKind.i64.wrap z=z:=by rw[IntKind.wrap_i64];omega
  clear hc hby hat
  go_enter Tryz.func110,Tryz.ntmps110
  go_wp2
  exact bodyPost_ret (v:= .int .i64 z) (by simp[results,Tryz.results110,go_sem]) rfl ⟨z,rfl,hz,rfl⟩
 ·clear hby hat
  have h1:IntKind.i64.wrap ((i:Int)*37)=(i:Int)*37:=by rw[IntKind.wrap_i64];omega
  have h2:IntKind.i64.wrap ((cs.length:Int)*11)=(cs.length:Int)*11:=by rw[IntKind.wrap_i64];omega
  have h3:IntKind.i64.wrap ((i:Int)*37+(cs.length:Int)*11)=(i:Int)*37+(cs.length:Int)*11:=by rw[IntKind.wrap_i64];omega
  go_enter Tryz.func110,Tryz.ntmps110
  go_wp2
  exact bodyPost_ret (v:= .int .i64 (((i:Int)*37+(cs.length:Int)*11)%256)) (by simp[results,Tryz.results110,go_sem]) rfl ⟨_,rfl,⟨Int.emod_nonneg _ (by decide),by have:=Int.emod_lt_of_pos ((i:Int)*37+(cs.length:Int)*11) (b:=256) (by decide);omega⟩,rfl⟩
theorem sameI (v u:Value) (xs ys:List Int) (w:World) (h:RdI w v xs) (h':RdI w u ys):
  Calls Tryz.prog 21 #[v,u] w fun e w'=>e= .returned (.bool (decide (xs=ys)))∧Below w.heap.size w w':=
 (sameInts_any v u xs ys w h.arg h'.arg).mono fun _ _ ⟨he,n,hn⟩=>⟨he,by rw[hn];exact bel_drewN (Below.refl _ _) _⟩
theorem big_any (v:Value) (cs:List Int) (w:World) (h:ArgC w v cs):
  Calls Tryz.prog 7 #[v] w fun e w'=>e= .returned (.bool (decide ((1048576:Int)<cs.length)))∧w=w':=by
 obtain⟨A,cap,rfl,_⟩:=h
 go_enter Tryz.func7,Tryz.ntmps7
 go_wp2
 exact bodyPost_ret (v:= .bool (decide ((1048576:Int)<cs.length))) (by simp[results,Tryz.results7,go_sem]) rfl ⟨rfl,rfl⟩
end Go.Proofs.YtnjpoljbagfdnaaGreat
namespace Go.Proofs.YtnjpoljbagfdnaaGreat
set_option maxRecDepth 20000
set_option linter.unusedVariables false
set_option linter.unusedSimpArgs false
open Go.RowKit
end Go.Proofs.YtnjpoljbagfdnaaGreat
namespace Go.Proofs.YtnjpoljbagfdnaaGreat
set_option maxRecDepth 20000
set_option linter.unusedVariables false
set_option linter.unusedSimpArgs false
open Go.RowKit
def inG (ds:List GrD) (d:GrD):Bool:=decide (d∈ds)
theorem inG_false {ds:List GrD} {d:GrD} (h: ∀j (hj:j<ds.length),ds[j]≠d):inG ds d=false:=by
 unfold inG
 rw[decide_eq_false_iff_not]
 intro hm
 obtain⟨j,hj,e⟩:=List.getElem_of_mem hm
 exact h j hj e
theorem inG_true {ds:List GrD} {d:GrD} (j:Nat) (hj:j<ds.length) (h:ds[j]=d):inG ds d=true:=by
 unfold inG
 rw[decide_eq_true_eq,←h]
 exact List.getElem_mem hj
set_option maxHeartbeats 1000000 in
theorem specIsListed_any (v u:Value) (ds:List GrD) (d:GrD) (w:World) (h:ArgGS w v ds) (h':ArgG w u d):
  Calls Tryz.prog 52 #[v,u] w fun e w'=>e= .returned (.bool (inG ds d))∧Below w.heap.size w w':=by
 have H:=hDD h
 have H':=hDD h'
 obtain⟨A,cap,rfl,hcap,hm,_⟩:=h
 unfold maxLen at hm
 obtain⟨s,rfl,_⟩:=h'
 go_enter Tryz.func52,Tryz.ntmps52
 go_wp2
 have hb:Below w.heap.size w (w.alloc (Obj.cells #[Value.int IntKind.i64 d.1,Value.int IntKind.i64 d.2.1,s] 26)):=(by repeat(first | exact Below.refl _ _ | (refine Below.setCell ?_ (by first | omega | (simp<;>omega)) _) | (refine bel_drewN ?_ _) | (refine Below.drew ?_) | (refine Below.alloc ?_ (by first | omega | (simp<;>omega)) _)))
 have q0:(w.alloc (Obj.cells #[Value.int IntKind.i64 d.1,Value.int IntKind.i64 d.2.1,s] 26)).cell? ⟨w.heap.size,0,none⟩=some (.int .i64 d.1):=by simp[go_sem]
 have q1:(w.alloc (Obj.cells #[Value.int IntKind.i64 d.1,Value.int IntKind.i64 d.2.1,s] 26)).cell? ⟨w.heap.size,1,none⟩=some (.int .i64 d.2.1):=by simp[go_sem]
 have q2:(w.alloc (Obj.cells #[Value.int IntKind.i64 d.1,Value.int IntKind.i64 d.2.1,s] 26)).cell? ⟨w.heap.size,2,none⟩=some s:=by simp[go_sem]
 have hs2:w.heap.size<(w.alloc (Obj.cells #[Value.int IntKind.i64 d.1,Value.int IntKind.i64 d.2.1,s] 26)).heap.size:=by simp
 generalize w.alloc (Obj.cells #[Value.int IntKind.i64 d.1,Value.int IntKind.i64 d.2.1,s] 26)=w2 at hb q0 q1 q2 hs2⊢
 have HB:=hDD hb
 have Q0:=hDD q0
 have Q1:=hDD q1
 have Q2:=hDD q2
 clear hb q0 q1 q2
 go_loopw [5] (fun i wr=> ∃k:Nat,k≤ds.length∧i= .int .i64 k∧(∀j (hj:j<ds.length),j<k→ds[j]≠d)∧Below w2.heap.size w2 wr) (fun i _=>ds.length-(intOf i).toNat)
 case atStart=>exact⟨0,Nat.zero_le _,rfl,fun j hj h=>absurd h (by omega),Below.refl _ _⟩
 case round=>
  obtain⟨k,hk,rfl,hall,hbel⟩:=hrel
  have HA:=hDD hall
  have HB2:=hDD hbel
  have HB3:=hDD (HB.out.trans (hbel.mono HB.out.size))
  have hsz:=hbel.size
  by_cases hlt:k<ds.length
  ·obtain⟨g,off,s',rfl,hg,c0,c1,c2,ha⟩:=(H.out.below HB3.out).at hlt
   have X1:=hDD ha
   have X2:=hDD (H'.out.below HB3.out)
   have HT:Hid (ds[k]=d→inG ds d=true):=hDD (inG_true k hlt)
   have HF:Hid (ds[k]≠d→ ∀j (hj:j<ds.length),j<k+1→ds[j]≠d):=hDD fun F j hj hjk=>by
    rcases Nat.lt_or_eq_of_le (Nat.le_of_lt_succ hjk) with h | rfl
    ·exact HA.out j hj h
    ·exact F
   have p0:=(hbel.cell (p:=⟨w.heap.size,0,none⟩) hs2).trans Q0.out
   have p1:=(hbel.cell (p:=⟨w.heap.size,1,none⟩) hs2).trans Q1.out
   have p2:=(hbel.cell (p:=⟨w.heap.size,2,none⟩) hs2).trans Q2.out
   have hws:w.heap.size<wr.heap.size:=by omega
   clear ha hall hbel
   generalize ds[k]=x at*
   go_wp2_with fail
   go_region_held3 (fun w'=>w'.cell? ⟨g,off+k*3,none⟩=some (.int .i64 x.1)∧w'.cell? ⟨g,off+k*3+1,none⟩=some (.int .i64 x.2.1)∧w'.cell? ⟨g,off+k*3+2,none⟩=some s'∧w'.cell? ⟨w.heap.size,0,none⟩=some (.int .i64 d.1)∧w'.cell? ⟨w.heap.size,1,none⟩=some (.int .i64 d.2.1)∧w'.cell? ⟨w.heap.size,2,none⟩=some s)
    (first | go_keep | exact⟨q0,q1,q2,q3,q4,q5⟩)
    ((go_at_call 47;refine(specEqualGraphs_any _ _ x d _ (X1.out.below (Below.refl _ _).drew) (X2.out.below (Below.refl _ _).drew)).mono ?_;rintro e w9 ⟨rfl,b9⟩;have B9:=hDD b9;have q0:=(b9.cell (p:=⟨g,off+k*3,none⟩) hg).trans c0;have q1:=(b9.cell (p:=⟨g,off+k*3+1,none⟩) hg).trans c1;have q2:=(b9.cell (p:=⟨g,off+k*3+2,none⟩) hg).trans c2;have q3:=(b9.cell (p:=⟨w.heap.size,0,none⟩) hws).trans p0;have q4:=(b9.cell (p:=⟨w.heap.size,1,none⟩) hws).trans p1;have q5:=(b9.cell (p:=⟨w.heap.size,2,none⟩) hws).trans p2;clear b9))
   rcases e2:decide (x=d) with _ | _
   ·go_wp2
    go_roundw
    case rel=>exact⟨k+1,by omega,by go_num,HF.out (by simpa using e2),HB2.out.trans ((Below.refl _ _).drew.trans (B9.out.mono hsz))⟩
    case measure=>simp[intOf];omega
   ·go_wp2
    go_ret
    exact⟨ret_bool (HT.out (by simpa using e2)).symm,HB3.out.trans ((Below.refl _ _).drew.trans (B9.out.mono (show w.heap.size≤wr.heap.size by omega)))⟩
  ·obtain rfl:k=ds.length:=by omega
   have F:=hDD (inG_false (d:=d) fun j hj=>HA.out j hj hj)
   clear hall hbel
   go_wp2
   go_ret
   exact⟨ret_bool F.out.symm,HB3.out⟩
set_option maxHeartbeats 1000000 in
theorem implIsListed_any (v u:Value) (ds:List GrD) (d:GrD) (w:World) (h:ArgGS w v ds) (h':ArgG w u d):
  Calls Tryz.prog 45 #[v,u] w fun e w'=>e= .returned (.bool (inG ds d))∧Below w.heap.size w w':=by
 have H:=hDD h
 have H':=hDD h'
 obtain⟨A,cap,rfl,hcap,hm,_⟩:=h
 unfold maxLen at hm
 obtain⟨s,rfl,_⟩:=h'
 go_enter Tryz.func45,Tryz.ntmps45
 go_wp2
 have hb:Below w.heap.size w (w.alloc (Obj.cells #[Value.int IntKind.i64 d.1,Value.int IntKind.i64 d.2.1,s] 26)):=(by repeat(first | exact Below.refl _ _ | (refine Below.setCell ?_ (by first | omega | (simp<;>omega)) _) | (refine bel_drewN ?_ _) | (refine Below.drew ?_) | (refine Below.alloc ?_ (by first | omega | (simp<;>omega)) _)))
 have q0:(w.alloc (Obj.cells #[Value.int IntKind.i64 d.1,Value.int IntKind.i64 d.2.1,s] 26)).cell? ⟨w.heap.size,0,none⟩=some (.int .i64 d.1):=by simp[go_sem]
 have q1:(w.alloc (Obj.cells #[Value.int IntKind.i64 d.1,Value.int IntKind.i64 d.2.1,s] 26)).cell? ⟨w.heap.size,1,none⟩=some (.int .i64 d.2.1):=by simp[go_sem]
 have q2:(w.alloc (Obj.cells #[Value.int IntKind.i64 d.1,Value.int IntKind.i64 d.2.1,s] 26)).cell? ⟨w.heap.size,2,none⟩=some s:=by simp[go_sem]
 have hs2:w.heap.size<(w.alloc (Obj.cells #[Value.int IntKind.i64 d.1,Value.int IntKind.i64 d.2.1,s] 26)).heap.size:=by simp
 generalize w.alloc (Obj.cells #[Value.int IntKind.i64 d.1,Value.int IntKind.i64 d.2.1,s] 26)=w2 at hb q0 q1 q2 hs2⊢
 have HB:=hDD hb
 have Q0:=hDD q0
 have Q1:=hDD q1
 have Q2:=hDD q2
 clear hb q0 q1 q2
 go_loopw [9] (fun i wr=> ∃k:Nat,k≤ds.length∧i= .int .i64 k∧(∀j (hj:j<ds.length),j<k→ds[j]≠d)∧Below w2.heap.size w2 wr) (fun i _=>ds.length-(intOf i).toNat)
 case atStart=>exact⟨0,Nat.zero_le _,rfl,fun j hj h=>absurd h (by omega),Below.refl _ _⟩
 case round=>
  obtain⟨k,hk,rfl,hall,hbel⟩:=hrel
  have HA:=hDD hall
  have HB2:=hDD hbel
  have HB3:=hDD (HB.out.trans (hbel.mono HB.out.size))
  have hsz:=hbel.size
  by_cases hlt:k<ds.length
  ·obtain⟨g,off,s',rfl,hg,c0,c1,c2,ha⟩:=(H.out.below HB3.out).at hlt
   have X1:=hDD ha
   have X2:=hDD (H'.out.below HB3.out)
   have HT:Hid (ds[k]=d→inG ds d=true):=hDD (inG_true k hlt)
   have HF:Hid (ds[k]≠d→ ∀j (hj:j<ds.length),j<k+1→ds[j]≠d):=hDD fun F j hj hjk=>by
    rcases Nat.lt_or_eq_of_le (Nat.le_of_lt_succ hjk) with h | rfl
    ·exact HA.out j hj h
    ·exact F
   have p0:=(hbel.cell (p:=⟨w.heap.size,0,none⟩) hs2).trans Q0.out
   have p1:=(hbel.cell (p:=⟨w.heap.size,1,none⟩) hs2).trans Q1.out
   have p2:=(hbel.cell (p:=⟨w.heap.size,2,none⟩) hs2).trans Q2.out
   have hws:w.heap.size<wr.heap.size:=by omega
   clear ha hall hbel
   generalize ds[k]=x at*
   obtain⟨A3,c3,rfl,_⟩:=X1.out.inner
   obtain⟨A4,c4,rfl,_⟩:=X2.out.inner
   go_wp2_with fail
   refine(implEqualGraphs_any _ _ x d _ (X1.out.below ((Below.refl _ _).alloc (Nat.le_refl _) _)) (X2.out.below ((Below.refl _ _).alloc (Nat.le_refl _) _))).mono ?_
   rintro e w9 ⟨rfl,b9⟩
   have B9:Hid (Below wr.heap.size wr w9):=hDD (((Below.refl _ _).alloc (Nat.le_refl _) _).trans (b9.mono (by simp)))
   clear b9
   rcases e2:decide (x=d) with _ | _
   ·go_wp2
    go_roundw
    case rel=>exact⟨k+1,by omega,by go_num,HF.out (by simpa using e2),HB2.out.trans (B9.out.mono hsz)⟩
    case measure=>simp[intOf];omega
   ·go_wp2
    go_ret
    exact⟨ret_bool (HT.out (by simpa using e2)).symm,HB3.out.trans (B9.out.mono (by omega))⟩
  ·obtain rfl:k=ds.length:=by omega
   have F:=hDD (inG_false (d:=d) fun j hj=>HA.out j hj hj)
   clear hall hbel
   go_wp2
   go_ret
   exact⟨ret_bool F.out.symm,HB3.out⟩
end Go.Proofs.YtnjpoljbagfdnaaGreat
namespace Go.Proofs.YtnjpoljbagfdnaaGreat
set_option maxRecDepth 20000
set_option linter.unusedVariables false
set_option linter.unusedSimpArgs false
open Go.RowKit
def addGs (l:List GrD) (x:GrD):List GrD:=if inG l x=true then l else l++ [x]
def quoV (g:GrD) (u:Nat) (out:List GrD):Nat→List GrD
 | 0=>out
 | j+1=>addGs (quoV g u out j) (coreG (merG g ((u:Int),((u+1+j:Nat):Int))))
def quoU (g:GrD):Nat→List GrD
 | 0=> []
 | u+1=>quoV g u (quoU g u) (g.2.1.toNat-(u+1))
def quotF (g:GrD):List GrD:=if coreB g=true then quoU g g.2.1.toNat else []
theorem addGs_len (l:List GrD) (x:GrD):(addGs l x).length≤l.length+1:=by
 unfold addGs
 split
 ·omega
 ·simp
theorem quoV_len (g:GrD) (u:Nat) (out:List GrD): ∀j,(quoV g u out j).length≤out.length+j
 | 0=>Nat.le_refl _
 | j+1=>by
   have h1:=quoV_len g u out j
   have h2:=addGs_len (quoV g u out j) (coreG (merG g ((u:Int),((u+1+j:Nat):Int))))
   unfold quoV
   omega
theorem quoU_len (g:GrD): ∀u,(quoU g u).length≤u*g.2.1.toNat
 | 0=>by simp[quoU]
 | u+1=>by
   have h1:=quoU_len g u
   have h2:=quoV_len g u (quoU g u) (g.2.1.toNat-(u+1))
   unfold quoU
   rw[Nat.succ_mul]
   omega
theorem quoV_step (g:GrD) (u:Nat) (out:List GrD) (m:Nat) (h:u<m):quoV g u out (m+1-(u+1))=addGs (quoV g u out (m-(u+1))) (coreG (merG g ((u:Int),(m:Int)))):=by
 obtain⟨j,rfl⟩: ∃j,m=u+1+j:=⟨m-(u+1),by omega⟩
 rw[show u+1+j+1-(u+1)=j+1 by omega,show u+1+j-(u+1)=j by omega]
 rfl
theorem push_graph {lo:Nat} {w0 w:World} {v:Value} {L:List GrD} {ops:Array Oper} {rest:List Oper} {o:Oper} {a:Act} {Q:Exit→Act→World→Prop} (hgd:o.guard=none) (s x:Operand)
  (ho:o.op= .call {callee:= .builtin .append,args:= #[s,x],argTypes:= #[51,51]})
  (hown:OGS lo w0.heap.size v L w0) (hlo:lo≤w0.heap.size) (hbel:Below w0.heap.size w0 w) (hs:a.eval s=v) (b:Nat) (z:Value) (d:GrD) {base:Nat} (hx:a.eval x= .slice (some ⟨b,0,none⟩) 1 1)
  (hel:OwE w base z d.2.2) (hi1:I64 d.1) (hi2:I64 d.2.1) (hbase:w0.heap.size≤base) (hc: ∀j u,[Value.int .i64 d.1, .int .i64 d.2.1,z][j]? =some u→w.cell? ⟨b,j,none⟩=some u) (hz:z.oneCell'=true) (hl:L.length≤1073741824)
  (h: ∀v' w',OGS lo w'.heap.size v' (L++ [d]) w'→w.grownBy w' v.ownBlock→wpList Tryz.prog ops Q rest (a.put o.dst v') w'):
  wpList Tryz.prog ops Q (o::rest) a w:=by
 obtain⟨i0,hi0,hz0,hz1,hz2⟩:=info_parts graph_info
 refine push_own EG.stable hgd s x ho Tryz.underlying51 hi0 hz0 hz1 hz2 rfl (by decide) (by decide) hown hlo hbel hs b [.int .i64 d.1, .int .i64 d.2.1,z] d z.ownBlock.toList hx ⟨z,rfl,hi1,hi2,hel.mono (Nat.zero_le _),rfl⟩ rfl ?_ ?_ hc ?_ hl h
 ·cases z.ownBlock<;>simp
 ·intro k hk
  have:=hel.1.lt k (by simpa using hk)
  omega
 ·intro u hu
  simp at hu
  rcases hu with rfl | rfl | rfl
  ·rfl
  ·rfl
  ·exact hz
theorem gr_lit (w:World) (N:Nat) (hN:w.heap.size=N) (a b c:Value) (t:TypeId): ∀j u,[a,b,c][j]? =some u→(w.alloc (.cells #[a,b,c] t)).cell? ⟨N,j,none⟩=some u:=by
 subst hN
 intro j u hj
 match j,hj with
 | 0,hj=>simp at hj;subst hj;simp[go_sem]
 | 1,hj=>simp at hj;subst hj;simp[go_sem]
 | 2,hj=>simp at hj;subst hj;simp[go_sem]
theorem OGS_lit (w:World) (N:Nat) (hN:w.heap.size=N) {lo:Nat} (h:lo≤N):OGS lo (N+1) (.slice (some ⟨N,0,none⟩) 0 0) [] (w.alloc (.cells #[] 26)):=by
 subst hN
 refine OwnL.nil (by have:=World.ownsRow_lit (e:=26) (size:=3) (base:=0) w #[] 0 (Nat.zero_le _) (by unfold maxLen;omega) (by simp);simpa using this) fun b hb=> ?_
 simp[Value.ownBlock] at hb
 omega
set_option maxHeartbeats 2000000 in
theorem specQuotientsOf_any (v:Value) (g:GrD) (w:World) (h:ArgG w v g):
  Calls Tryz.prog 43 #[v] w fun e w'=> ∃r,e= .returned r∧OGS w.heap.size w'.heap.size r (quotF g) w'∧Below w.heap.size w w':=by
 have HG:=hDD h
 obtain⟨s,rfl,hi1,hi2,ha⟩:=h
 obtain⟨A,cap,rfl⟩:=ha.form
 obtain⟨g1,N,es⟩:=g
 simp only at*
 clear ha
 go_enter Tryz.func43,Tryz.ntmps43
 have bx:Below w.heap.size w ((w.alloc (Obj.cells #[Value.int IntKind.i64 g1,Value.int IntKind.i64 N, .slice A es.length cap] 26)).alloc (.cells #[] 26)):=(by repeat(first | exact Below.refl _ _ | (refine Below.setCell ?_ (by first | omega | (simp<;>omega)) _) | (refine bel_drewN ?_ _) | (refine Below.drew ?_) | (refine Below.alloc ?_ (by first | omega | (simp<;>omega)) _)))
 have HOU:=hDD (OGS_lit (w.alloc (Obj.cells #[Value.int IntKind.i64 g1,Value.int IntKind.i64 N, .slice A es.length cap] 26)) (w.heap.size+1) (by simp) (lo:=w.heap.size+1) (Nat.le_refl _))
 go_wp2
 obtain⟨W,hW⟩: ∃W,W=(w.alloc (Obj.cells #[Value.int IntKind.i64 g1,Value.int IntKind.i64 N, .slice A es.length cap] 26)).alloc (.cells #[] 26):=⟨_,rfl⟩
 rw[←hW] at bx HOU⊢
 have hsW:W.heap.size=w.heap.size+2:=by rw[hW];simp
 have L0:Hid (W.cell? ⟨w.heap.size,0,none⟩=some (.int .i64 g1)):=hDD (by rw[hW];simp[go_sem])
 have L1:Hid (W.cell? ⟨w.heap.size,1,none⟩=some (.int .i64 N)):=hDD (by rw[hW];simp[go_sem])
 have L2:Hid (W.cell? ⟨w.heap.size,2,none⟩=some (.slice A es.length cap)):=hDD (by rw[hW];simp[go_sem])
 have BX:=hDD bx
 have HA:Hid (∀w',Below (w.heap.size+1) W w'→ArgG w' (.agg #[.int .i64 g1, .int .i64 N, .slice A es.length cap]) (g1,N,es)):=hDD fun w' hb=>HG.out.below (BX.out.trans (hb.mono (by omega)))
 have HCL:Hid (∀w',Below (w.heap.size+1) W w'→w'.cell? ⟨w.heap.size,0,none⟩=some (.int .i64 g1)∧w'.cell? ⟨w.heap.size,1,none⟩=some (.int .i64 N)∧w'.cell? ⟨w.heap.size,2,none⟩=some (.slice A es.length cap)):=hDD fun w' hb=>
  ⟨(hb.cell (p:=⟨w.heap.size,0,none⟩) (by show w.heap.size<_;omega)).trans L0.out,(hb.cell (p:=⟨w.heap.size,1,none⟩) (by show w.heap.size<_;omega)).trans L1.out,(hb.cell (p:=⟨w.heap.size,2,none⟩) (by show w.heap.size<_;omega)).trans L2.out⟩
 have HIS:=hDD (fun W' hb=>specIsSubgroup_any _ (g1,N,es) W' (HA.out W' hb))
 clear hW bx L0 L1 L2
 rcases ec:coreB (g1,N,es) with _ | _
 ·have F:Hid (quotF (g1,N,es)= []):=hDD (by unfold quotF;rw[ec];rfl)
  rw[ec] at HIS
  clear ec
  go_loopw [3,4] (fun out i wr=>i= .int .i64 0∧OGS (w.heap.size+1) wr.heap.size out [] wr∧Below (w.heap.size+1) W wr) (fun _ _ _=>0)
  case atStart=>exact⟨rfl,OwnL.widen HOU.out (Nat.le_refl _) (by omega),(Below.refl W.heap.size W).mono (by omega)⟩
  case round=>
   obtain⟨rfl,ho,hb⟩:=hrel
   have HO:=hDD ho
   have HB:=hDD hb
   obtain⟨wi,rfl⟩: ∃wi:World,wi=wr:=⟨_,rfl⟩
   clear ho hb
   have hwi:=HB.out.size
   obtain⟨q0,q1,q2⟩:=HCL.out wi HB.out
   obtain⟨Ao,co,rfl,_⟩:=OwnL.len HO.out
   have HOF:=hDD (OwnL.widen HO.out (show w.heap.size≤w.heap.size+1 by omega) (Nat.le_refl _))
   have HBF:Hid (Below w.heap.size w wi):=hDD (BX.out.trans (HB.out.mono (by omega)))
   rcases e0:decide ((0:Int)<N) with _ | _
   ·go_wp2
    go_ret
    rw[F.out]
    exact⟨_,rfl,HOF.out,HBF.out⟩
   ·go_wp2_with fail
    refine(HIS.out wi HB.out).mono ?_
    rintro e w3 ⟨rfl,b3⟩
    have HOF3:=hDD ((OwnL.keep HOF.out EG.stable fun b _ hlt=>b3.block b hlt).widen (Nat.le_refl _) b3.size)
    have HBF3:=hDD (HBF.out.trans (b3.mono (by omega)))
    clear b3 q0 q1 q2
    go_wp2
    go_ret
    rw[F.out]
    exact⟨_,rfl,HOF3.out,HBF3.out⟩
 have hfold:foldB (g1,N,es)=true:=by have h:=ec;unfold coreB at h;simp only[Bool.and_eq_true] at h;exact h.1.1
 have hgr:=(foldB_parts hfold).1
 have HGR:=hDD hgr
 obtain⟨h13,h40,h120,_⟩:=grB_parts hgr
 simp only at h13 h40 h120
 obtain⟨n,rfl⟩: ∃n:Nat,N=(n:Int):=⟨N.toNat,by omega⟩
 have F:Hid (quotF (g1,(n:Int),es)=quoU (g1,(n:Int),es) n):=hDD (by unfold quotF;rw[if_pos ec];rfl)
 have HUL:=hDD (quoU_len (g1,(n:Int),es))
 rw[ec] at HIS
 clear ec hfold hgr
 go_loopw [3,4] (fun out i wr=> ∃u:Nat,u≤n∧i= .int .i64 u∧OGS (w.heap.size+1) wr.heap.size out (quoU (g1,(n:Int),es) u) wr∧Below (w.heap.size+1) W wr) (fun _ i _=>n-(intOf i).toNat)
 case atStart=>exact⟨0,Nat.zero_le _,rfl,OwnL.widen HOU.out (Nat.le_refl _) (by omega),(Below.refl W.heap.size W).mono (by omega)⟩
 case round=>
  obtain⟨u,hu,rfl,ho,hb⟩:=hrel
  have HO1:=hDD ho
  have HB1:=hDD hb
  obtain⟨wi,rfl⟩: ∃wi:World,wi=wr:=⟨_,rfl⟩
  clear ho hb
  have hwi:=HB1.out.size
  obtain⟨q0,q1,q2⟩:=HCL.out wi HB1.out
  by_cases hlt:u<n
  ·have huI:(u:Int)<(n:Int):=by omega
   go_wp2_with fail
   refine(HIS.out wi HB1.out).mono ?_
   rintro e w3 ⟨rfl,b3⟩
   have HO3:=hDD ((OwnL.keep HO1.out EG.stable fun b _ hlt=>b3.block b hlt).widen (Nat.le_refl _) b3.size)
   have HB3:=hDD (HB1.out.trans (b3.mono (by omega)))
   clear b3 q0 q1 q2
   go_wp2
   go_loopw [3,5] (fun out i wr=> ∃m:Nat,u<m∧m≤n∧i= .int .i64 m∧OGS (w.heap.size+1) wr.heap.size out (quoV (g1,(n:Int),es) u (quoU (g1,(n:Int),es) u) (m-(u+1))) wr∧Below (w.heap.size+1) W wr) (fun _ i _=>n-(intOf i).toNat)
   case atStart=>exact⟨u+1,by omega,by omega,by go_num,by rw[Nat.sub_self];exact HO3.out,HB3.out⟩
   case round=>
    obtain⟨m,hum,hmn,rfl,ho,hb⟩:=hrel
    have HO:=hDD ho
    have HB:=hDD hb
    obtain⟨wj,rfl⟩: ∃wj:World,wj=wr:=⟨_,rfl⟩
    clear ho hb
    have hwj:=HB.out.size
    have hwj2:w.heap.size+1≤wj.heap.size:=by omega
    obtain⟨q0,q1,q2⟩:=HCL.out wj HB.out
    by_cases hlt2:m<n
    ·have hmI:(m:Int)<(n:Int):=by omega
     have HST:=hDD (quoV_step (g1,(n:Int),es) u (quoU (g1,(n:Int),es) u) m hum)
     have HLV:=hDD (quoV_len (g1,(n:Int),es) u (quoU (g1,(n:Int),es) u) (m-(u+1)))
     generalize quoV (g1,(n:Int),es) u (quoU (g1,(n:Int),es) u) (m-(u+1))=LO at*
     have hlo:LO.length≤1073741824:=by have h1:=HLV.out;have h2:=HUL.out u;have h3:u*n≤40*40:=Nat.mul_le_mul (by omega) (by omega);simp only[Int.toNat_natCast] at h2;omega
     have hfm:0≤(u:Int)∧(u:Int)<(m:Int)∧(m:Int)<(n:Int):=by omega
     have HGM:=hDD (grB_merG (g:=(g1,(n:Int),es)) (f:=((u:Int),(m:Int))) HGR.out hfm)
     go_wp2_with fail
     refine(specMergeVertices_any _ (g1,(n:Int),es) ((u:Int),(m:Int)) wj (HA.out wj HB.out) HGR.out hfm).mono ?_
     rintro e w5 ⟨r5,rfl,o5,b5⟩
     generalize merG (g1,(n:Int),es) ((u:Int),(m:Int))=M at*
     obtain⟨m1,m2,ms⟩:=M
     have HM5:=hDD o5
     obtain⟨s5,rfl,_,_,oe5⟩:=o5
     obtain⟨A5,c5,rfl,_⟩:=oe5.form
     have hs5:=b5.size
     have B5:=hDD (HB.out.trans (b5.mono (by omega)))
     have BJ5:=hDD b5
     simp only at*
     clear oe5 b5 q0 q1 q2
     have bX:Below w5.heap.size w5 (w5.alloc (Obj.cells #[Value.int IntKind.i64 m1,Value.int IntKind.i64 m2, .slice A5 ms.length c5] 26)):=(Below.refl _ _).alloc (Nat.le_refl _) _
     have hsX:=bX.size
     have BX5:=hDD bX
     go_wp2_with fail
     refine(specCoreGraph_any _ (m1,m2,ms) _ (HM5.out.arg.below bX) HGM.out).mono ?_
     rintro e w6 ⟨r6,rfl,o6,b6⟩
     generalize coreG (m1,m2,ms)=K at*
     obtain⟨k1,k2,ks⟩:=K
     have HK6:=hDD o6
     obtain⟨s6,rfl,hj1,hj2,oe6⟩:=o6
     obtain⟨A6,c6,rfl,_⟩:=oe6.form
     have hs6:=b6.size
     have BJ6:=hDD (BJ5.out.trans ((bX.trans (b6.mono hsX)).mono hs5))
     simp only at*
     have OE6:=hDD oe6
     clear oe6 b6 bX
     have hz6:=BJ6.out.size
     have bY:Below w6.heap.size w6 (w6.alloc (Obj.cells #[Value.int IntKind.i64 k1,Value.int IntKind.i64 k2, .slice A6 ks.length c6] 26)):=(Below.refl _ _).alloc (Nat.le_refl _) _
     have BJY:=hDD (BJ6.out.trans (bY.mono hz6))
     have HOY:=hDD ((OwnL.keep HO.out EG.stable fun b _ hlt=>BJY.out.block b hlt).widen (Nat.le_refl _) BJY.out.size)
     obtain⟨Ao,co,hov,_⟩:=OwnL.len HO.out
     subst hov
     go_wp2_with fail
     obtain⟨WY,hWY⟩: ∃W,W=w6.alloc (Obj.cells #[Value.int IntKind.i64 k1,Value.int IntKind.i64 k2, .slice A6 ks.length c6] 26):=⟨_,rfl⟩
     have y0:Hid (WY.cell? ⟨w6.heap.size,0,none⟩=some (.int .i64 k1)):=hDD (by rw[hWY];simp[go_sem])
     have y1:Hid (WY.cell? ⟨w6.heap.size,1,none⟩=some (.int .i64 k2)):=hDD (by rw[hWY];simp[go_sem])
     have y2:Hid (WY.cell? ⟨w6.heap.size,2,none⟩=some (.slice A6 ks.length c6)):=hDD (by rw[hWY];simp[go_sem])
     have hsY:WY.heap.size=w6.heap.size+1:=by rw[hWY];simp
     rw[←hWY] at bY BJY HOY⊢
     clear hWY
     refine(specIsListed_any _ _ LO (k1,k2,ks) WY (OGS.arg HOY.out) (HK6.out.arg.below bY)).mono ?_
     rintro e w7 ⟨rfl,b7⟩
     have hs7:=b7.size
     have z0:=(b7.cell (p:=⟨w6.heap.size,0,none⟩) (by show w6.heap.size<_;omega)).trans y0.out
     have z1:=(b7.cell (p:=⟨w6.heap.size,1,none⟩) (by show w6.heap.size<_;omega)).trans y1.out
     have z2:=(b7.cell (p:=⟨w6.heap.size,2,none⟩) (by show w6.heap.size<_;omega)).trans y2.out
     have BJ7:=hDD (BJY.out.trans (b7.mono BJY.out.size))
     have OE7:=hDD ((OE6.out.below bY).below b7)
     clear b7 bY
     rcases ei:inG LO (k1,k2,ks) with _ | _
     ·have HAD:Hid (addGs LO (k1,k2,ks)=LO++ [(k1,k2,ks)]):=hDD (by unfold addGs;rw[ei];rfl)
      clear ei
      go_wp2_with (at_builtin;refine push_graph rfl (.tmp 42) (.tmp 44) rfl HO.out hwj2 (BJ7.out.alloc BJ7.out.size _) rfl _ (.slice A6 ks.length c6) (k1,k2,ks) rfl (OE7.out.alloc _) hj1 hj2 (by omega) (gr_lit _ _ rfl _ _ _ _) rfl hlo ?_;intro v8 w8 o8 g8;have O8:=hDD o8;have B8:Hid (Below (w.heap.size+1) W w8):=hDD ((HB.out.trans ((BJ7.out.alloc BJ7.out.size (Obj.cells #[Value.int IntKind.i64 k1,Value.int IntKind.i64 k2, .slice A6 ks.length c6] 26)).mono hwj2)).grown g8 (by have:=BJ7.out.size;simp<;>omega) (fun c hc=>(HO.out.lt hc).1));clear o8 g8)
      go_roundw
      case rel=>exact⟨m+1,by omega,by omega,by go_num,by rw[HST.out,HAD.out];exact O8.out,B8.out⟩
      case measure=>simp[intOf];omega
     ·have HAD:Hid (addGs LO (k1,k2,ks)=LO):=hDD (by unfold addGs;rw[ei];rfl)
      have HO7:=hDD ((OwnL.keep HO.out EG.stable fun b _ hlt=>BJ7.out.block b hlt).widen (Nat.le_refl _) BJ7.out.size)
      have HB7:=hDD (HB.out.trans (BJ7.out.mono hwj2))
      clear ei z0 z1 z2
      go_wp2
      go_roundw
      case rel=>exact⟨m+1,by omega,by omega,by go_num,by rw[HST.out,HAD.out];exact HO7.out,HB7.out⟩
      case measure=>simp[intOf];omega
    ·obtain rfl:m=n:=by omega
     have HQU:Hid (quoU (g1,(m:Int),es) (u+1)=quoV (g1,(m:Int),es) u (quoU (g1,(m:Int),es) u) (m-(u+1))):=hDD rfl
     go_wp2
     go_roundw
     case rel=>exact⟨u+1,by omega,by go_num,by rw[HQU.out];exact HO.out,HB.out⟩
     case measure=>simp[intOf];omega
  ·obtain rfl:u=n:=by omega
   obtain⟨Ao,co,hov,_⟩:=OwnL.len HO1.out
   subst hov
   have HOF:=hDD (OwnL.widen HO1.out (show w.heap.size≤w.heap.size+1 by omega) (Nat.le_refl _))
   have HBF:Hid (Below w.heap.size w wi):=hDD (BX.out.trans (HB1.out.mono (by omega)))
   go_wp2
   go_ret
   rw[F.out]
   exact⟨_,rfl,HOF.out,HBF.out⟩
set_option maxHeartbeats 2000000 in
theorem implQuotientsOf_any (v:Value) (g:GrD) (w:World) (h:ArgG w v g):
  Calls Tryz.prog 42 #[v] w fun e w'=> ∃r,e= .returned r∧OGS w.heap.size w'.heap.size r (quotF g) w'∧Below w.heap.size w w':=by
 have HG:=hDD h
 obtain⟨s,rfl,hi1,hi2,ha⟩:=h
 obtain⟨A,cap,rfl⟩:=ha.form
 obtain⟨g1,N,es⟩:=g
 simp only at*
 clear ha
 go_enter Tryz.func42,Tryz.ntmps42
 have bx:Below w.heap.size w ((w.alloc (Obj.cells #[Value.int IntKind.i64 g1,Value.int IntKind.i64 N, .slice A es.length cap] 26)).alloc (.cells #[] 26)):=(by repeat(first | exact Below.refl _ _ | (refine Below.setCell ?_ (by first | omega | (simp<;>omega)) _) | (refine bel_drewN ?_ _) | (refine Below.drew ?_) | (refine Below.alloc ?_ (by first | omega | (simp<;>omega)) _)))
 have HOU:=hDD (OGS_lit (w.alloc (Obj.cells #[Value.int IntKind.i64 g1,Value.int IntKind.i64 N, .slice A es.length cap] 26)) (w.heap.size+1) (by simp) (lo:=w.heap.size+1) (Nat.le_refl _))
 go_wp2_with fail
 obtain⟨W,hW⟩: ∃W,W=(w.alloc (Obj.cells #[Value.int IntKind.i64 g1,Value.int IntKind.i64 N, .slice A es.length cap] 26)).alloc (.cells #[] 26):=⟨_,rfl⟩
 rw[←hW] at bx HOU⊢
 have hsW:W.heap.size=w.heap.size+2:=by rw[hW];simp
 have L0:Hid (W.cell? ⟨w.heap.size,0,none⟩=some (.int .i64 g1)):=hDD (by rw[hW];simp[go_sem])
 have L1:Hid (W.cell? ⟨w.heap.size,1,none⟩=some (.int .i64 N)):=hDD (by rw[hW];simp[go_sem])
 have L2:Hid (W.cell? ⟨w.heap.size,2,none⟩=some (.slice A es.length cap)):=hDD (by rw[hW];simp[go_sem])
 have BX:=hDD bx
 have HA:Hid (∀w',Below (w.heap.size+1) W w'→ArgG w' (.agg #[.int .i64 g1, .int .i64 N, .slice A es.length cap]) (g1,N,es)):=hDD fun w' hb=>HG.out.below (BX.out.trans (hb.mono (by omega)))
 have HCL:Hid (∀w',Below (w.heap.size+1) W w'→w'.cell? ⟨w.heap.size,0,none⟩=some (.int .i64 g1)∧w'.cell? ⟨w.heap.size,1,none⟩=some (.int .i64 N)∧w'.cell? ⟨w.heap.size,2,none⟩=some (.slice A es.length cap)):=hDD fun w' hb=>
  ⟨(hb.cell (p:=⟨w.heap.size,0,none⟩) (by show w.heap.size<_;omega)).trans L0.out,(hb.cell (p:=⟨w.heap.size,1,none⟩) (by show w.heap.size<_;omega)).trans L1.out,(hb.cell (p:=⟨w.heap.size,2,none⟩) (by show w.heap.size<_;omega)).trans L2.out⟩
 clear hW bx L0 L1 L2
 refine(implIsCore_any _ (g1,N,es) W (HA.out W ((Below.refl W.heap.size W).mono (by omega)))).mono ?_
 rintro e w2 ⟨rfl,b2⟩
 have hs2:=b2.size
 have B2:Hid (Below (w.heap.size+1) W w2):=hDD (b2.mono (by omega))
 have HOU2:=hDD ((OwnL.keep HOU.out EG.stable fun b _ hlt=>b2.block b (by omega)).widen (Nat.le_refl _) (show w.heap.size+1+1≤w2.heap.size by omega))
 clear b2
 rcases ec:coreB (g1,N,es) with _ | _
 ·have F:Hid (quotF (g1,N,es)= []):=hDD (by unfold quotF;rw[ec];rfl)
  have HOF:=hDD (OwnL.widen HOU2.out (show w.heap.size≤w.heap.size+1 by omega) (Nat.le_refl _))
  have HBF:Hid (Below w.heap.size w w2):=hDD (BX.out.trans (B2.out.mono (by omega)))
  clear ec
  go_wp2
  go_ret
  rw[F.out]
  exact⟨_,rfl,HOF.out,HBF.out⟩
 have hfold:foldB (g1,N,es)=true:=by have h:=ec;unfold coreB at h;simp only[Bool.and_eq_true] at h;exact h.1.1
 have hgr:=(foldB_parts hfold).1
 have HGR:=hDD hgr
 obtain⟨h13,h40,h120,_⟩:=grB_parts hgr
 simp only at h13 h40 h120
 obtain⟨n,rfl⟩: ∃n:Nat,N=(n:Int):=⟨N.toNat,by omega⟩
 have F:Hid (quotF (g1,(n:Int),es)=quoU (g1,(n:Int),es) n):=hDD (by unfold quotF;rw[if_pos ec];rfl)
 have HUL:=hDD (quoU_len (g1,(n:Int),es))
 clear ec hfold hgr
 go_wp2
 go_loopw [3,4] (fun out i wr=> ∃u:Nat,u≤n∧i= .int .i64 u∧OGS (w.heap.size+1) wr.heap.size out (quoU (g1,(n:Int),es) u) wr∧Below (w.heap.size+1) W wr) (fun _ i _=>n-(intOf i).toNat)
 case atStart=>exact⟨0,Nat.zero_le _,rfl,HOU2.out,B2.out⟩
 case round=>
  obtain⟨u,hu,rfl,ho,hb⟩:=hrel
  have HO1:=hDD ho
  have HB1:=hDD hb
  obtain⟨wi,rfl⟩: ∃wi:World,wi=wr:=⟨_,rfl⟩
  clear ho hb
  have hwi:=HB1.out.size
  obtain⟨q0,q1,q2⟩:=HCL.out wi HB1.out
  by_cases hlt:u<n
  ·have huI:(u:Int)<(n:Int):=by omega
   have HO3:=hDD HO1.out
   have HB3:=hDD HB1.out
   go_wp2
   clear q0 q1 q2
   go_loopw [3,5] (fun out i wr=> ∃m:Nat,u<m∧m≤n∧i= .int .i64 m∧OGS (w.heap.size+1) wr.heap.size out (quoV (g1,(n:Int),es) u (quoU (g1,(n:Int),es) u) (m-(u+1))) wr∧Below (w.heap.size+1) W wr) (fun _ i _=>n-(intOf i).toNat)
   case atStart=>exact⟨u+1,by omega,by omega,by go_num,by rw[Nat.sub_self];exact HO3.out,HB3.out⟩
   case round=>
    obtain⟨m,hum,hmn,rfl,ho,hb⟩:=hrel
    have HO:=hDD ho
    have HB:=hDD hb
    obtain⟨wj,rfl⟩: ∃wj:World,wj=wr:=⟨_,rfl⟩
    clear ho hb
    have hwj:=HB.out.size
    have hwj2:w.heap.size+1≤wj.heap.size:=by omega
    obtain⟨q0,q1,q2⟩:=HCL.out wj HB.out
    by_cases hlt2:m<n
    ·have hmI:(m:Int)<(n:Int):=by omega
     have HST:=hDD (quoV_step (g1,(n:Int),es) u (quoU (g1,(n:Int),es) u) m hum)
     have HLV:=hDD (quoV_len (g1,(n:Int),es) u (quoU (g1,(n:Int),es) u) (m-(u+1)))
     generalize quoV (g1,(n:Int),es) u (quoU (g1,(n:Int),es) u) (m-(u+1))=LO at*
     have hlo:LO.length≤1073741824:=by have h1:=HLV.out;have h2:=HUL.out u;have h3:u*n≤40*40:=Nat.mul_le_mul (by omega) (by omega);simp only[Int.toNat_natCast] at h2;omega
     have hfm:0≤(u:Int)∧(u:Int)<(m:Int)∧(m:Int)<(n:Int):=by omega
     have HGM:=hDD (grB_merG (g:=(g1,(n:Int),es)) (f:=((u:Int),(m:Int))) HGR.out hfm)
     go_wp2_with fail
     refine(implMergeVertices_any _ (g1,(n:Int),es) ((u:Int),(m:Int)) wj (HA.out wj HB.out) HGR.out hfm).mono ?_
     rintro e w5 ⟨r5,rfl,o5,b5⟩
     generalize merG (g1,(n:Int),es) ((u:Int),(m:Int))=M at*
     obtain⟨m1,m2,ms⟩:=M
     have HM5:=hDD o5
     obtain⟨s5,rfl,_,_,oe5⟩:=o5
     obtain⟨A5,c5,rfl,_⟩:=oe5.form
     have hs5:=b5.size
     have B5:=hDD (HB.out.trans (b5.mono (by omega)))
     have BJ5:=hDD b5
     simp only at*
     clear oe5 b5 q0 q1 q2
     have bX:Below w5.heap.size w5 (w5.alloc (Obj.cells #[Value.int IntKind.i64 m1,Value.int IntKind.i64 m2, .slice A5 ms.length c5] 26)):=(Below.refl _ _).alloc (Nat.le_refl _) _
     have hsX:=bX.size
     have BX5:=hDD bX
     go_wp2_with fail
     refine(implCoreGraph_any _ (m1,m2,ms) _ (HM5.out.arg.below bX) HGM.out).mono ?_
     rintro e w6 ⟨r6,rfl,o6,b6⟩
     generalize coreG (m1,m2,ms)=K at*
     obtain⟨k1,k2,ks⟩:=K
     have HK6:=hDD o6
     obtain⟨s6,rfl,hj1,hj2,oe6⟩:=o6
     obtain⟨A6,c6,rfl,_⟩:=oe6.form
     have hs6:=b6.size
     have BJ6:=hDD (BJ5.out.trans ((bX.trans (b6.mono hsX)).mono hs5))
     simp only at*
     have OE6:=hDD oe6
     clear oe6 b6 bX
     have hz6:=BJ6.out.size
     have bY:Below w6.heap.size w6 (w6.alloc (Obj.cells #[Value.int IntKind.i64 k1,Value.int IntKind.i64 k2, .slice A6 ks.length c6] 26)):=(Below.refl _ _).alloc (Nat.le_refl _) _
     have BJY:=hDD (BJ6.out.trans (bY.mono hz6))
     have HOY:=hDD ((OwnL.keep HO.out EG.stable fun b _ hlt=>BJY.out.block b hlt).widen (Nat.le_refl _) BJY.out.size)
     obtain⟨Ao,co,hov,_⟩:=OwnL.len HO.out
     subst hov
     go_wp2_with fail
     obtain⟨WY,hWY⟩: ∃W,W=w6.alloc (Obj.cells #[Value.int IntKind.i64 k1,Value.int IntKind.i64 k2, .slice A6 ks.length c6] 26):=⟨_,rfl⟩
     have y0:Hid (WY.cell? ⟨w6.heap.size,0,none⟩=some (.int .i64 k1)):=hDD (by rw[hWY];simp[go_sem])
     have y1:Hid (WY.cell? ⟨w6.heap.size,1,none⟩=some (.int .i64 k2)):=hDD (by rw[hWY];simp[go_sem])
     have y2:Hid (WY.cell? ⟨w6.heap.size,2,none⟩=some (.slice A6 ks.length c6)):=hDD (by rw[hWY];simp[go_sem])
     have hsY:WY.heap.size=w6.heap.size+1:=by rw[hWY];simp
     rw[←hWY] at bY BJY HOY⊢
     clear hWY
     refine(implIsListed_any _ _ LO (k1,k2,ks) WY (OGS.arg HOY.out) (HK6.out.arg.below bY)).mono ?_
     rintro e w7 ⟨rfl,b7⟩
     have hs7:=b7.size
     have z0:=(b7.cell (p:=⟨w6.heap.size,0,none⟩) (by show w6.heap.size<_;omega)).trans y0.out
     have z1:=(b7.cell (p:=⟨w6.heap.size,1,none⟩) (by show w6.heap.size<_;omega)).trans y1.out
     have z2:=(b7.cell (p:=⟨w6.heap.size,2,none⟩) (by show w6.heap.size<_;omega)).trans y2.out
     have BJ7:=hDD (BJY.out.trans (b7.mono BJY.out.size))
     have OE7:=hDD ((OE6.out.below bY).below b7)
     clear b7 bY
     rcases ei:inG LO (k1,k2,ks) with _ | _
     ·have HAD:Hid (addGs LO (k1,k2,ks)=LO++ [(k1,k2,ks)]):=hDD (by unfold addGs;rw[ei];rfl)
      clear ei
      go_wp2_with (at_builtin;refine push_graph rfl (.tmp 42) (.tmp 44) rfl HO.out hwj2 (BJ7.out.alloc BJ7.out.size _) rfl _ (.slice A6 ks.length c6) (k1,k2,ks) rfl (OE7.out.alloc _) hj1 hj2 (by omega) (gr_lit _ _ rfl _ _ _ _) rfl hlo ?_;intro v8 w8 o8 g8;have O8:=hDD o8;have B8:Hid (Below (w.heap.size+1) W w8):=hDD ((HB.out.trans ((BJ7.out.alloc BJ7.out.size (Obj.cells #[Value.int IntKind.i64 k1,Value.int IntKind.i64 k2, .slice A6 ks.length c6] 26)).mono hwj2)).grown g8 (by have:=BJ7.out.size;simp<;>omega) (fun c hc=>(HO.out.lt hc).1));clear o8 g8)
      go_roundw
      case rel=>exact⟨m+1,by omega,by omega,by go_num,by rw[HST.out,HAD.out];exact O8.out,B8.out⟩
      case measure=>simp[intOf];omega
     ·have HAD:Hid (addGs LO (k1,k2,ks)=LO):=hDD (by unfold addGs;rw[ei];rfl)
      have HO7:=hDD ((OwnL.keep HO.out EG.stable fun b _ hlt=>BJ7.out.block b hlt).widen (Nat.le_refl _) BJ7.out.size)
      have HB7:=hDD (HB.out.trans (BJ7.out.mono hwj2))
      clear ei z0 z1 z2
      go_wp2
      go_roundw
      case rel=>exact⟨m+1,by omega,by omega,by go_num,by rw[HST.out,HAD.out];exact HO7.out,HB7.out⟩
      case measure=>simp[intOf];omega
    ·obtain rfl:m=n:=by omega
     have HQU:Hid (quoU (g1,(m:Int),es) (u+1)=quoV (g1,(m:Int),es) u (quoU (g1,(m:Int),es) u) (m-(u+1))):=hDD rfl
     go_wp2
     go_roundw
     case rel=>exact⟨u+1,by omega,by go_num,by rw[HQU.out];exact HO.out,HB.out⟩
     case measure=>simp[intOf];omega
  ·obtain rfl:u=n:=by omega
   obtain⟨Ao,co,hov,_⟩:=OwnL.len HO1.out
   subst hov
   have HOF:=hDD (OwnL.widen HO1.out (show w.heap.size≤w.heap.size+1 by omega) (Nat.le_refl _))
   have HBF:Hid (Below w.heap.size w wi):=hDD (BX.out.trans (HB1.out.mono (by omega)))
   go_wp2
   go_ret
   rw[F.out]
   exact⟨_,rfl,HOF.out,HBF.out⟩
end Go.Proofs.YtnjpoljbagfdnaaGreat
namespace Go.Proofs.YtnjpoljbagfdnaaGreat
set_option maxRecDepth 20000
set_option linter.unusedVariables false
set_option linter.unusedSimpArgs false
open Go.RowKit
def freG (l:List Oper):Bool:=
 Region.noSelect l.toArray&&(List.range l.length).all fun i=>match l[i]? with
  | none=>true
  | some o=>(o.after.all fun e=> !Region.binds .any e||decide (e.on<i))&&
    ((List.range l.length).all fun k=>match l[k]? with
      | none=>true
      | some o'=>(decide (i=k)|| !(o.dst==o'.dst)||o.dst.isNone)&&
        (match o'.dst with
         | none=>true
         | some t=> !(o.looksAt l.toArray).contains t||reachB l l.length i k||reachB l l.length k i))
def ObwG (G:List Nat) (P:Program) (J:Nat→World→Prop) (l:List Oper) (L:List Sg) (T:List (Option (World→World→Prop))) (vs:Nat→Value) (Q:Exit→Act→World→Prop):List Oper→List Sg→Nat→Act→Prop
 | [],_,_,b=> ∀W',Hid (J l.length W')→Hid (∀j,j<l.length→(sgA L j).R (maskV l j vs) W' (vs j))→Q .normal b W'
 | _::_,[],_,_=>False
 | o::r,s::ss,k,b=>(match G.contains k with
   | true=>True
   | false=>(∀W K Q0,Hid (J k W)→Hid (∀j,reachB l l.length k j=true→(sgA L j).R (maskV l j vs) W (vs j))→Hid (∀v W',tnA T k W W'→s.R (maskV l k vs) W' v→K (b.put o.dst v) W')→o.wp P b W K Q0))∧ObwG G P J l L T vs Q r ss (k+1) (b.put o.dst (s.pick (vs k)))
def gdB (l:List Oper) (L:List Sg) (G:List Nat):Bool:=(List.range l.length).all fun i=>match l[i]? with
 | none=>true
 | some o=>match o.guard with
   | none=> !G.contains i
   | some (j,want)=>reachB l l.length i j&&(match (l[j]?).bind (·.dst) with | some _=>true | none=>false)&&(match sgA L j with | .val (.bool b)=>(b==want)== !G.contains i | _=>false)
def GOff (L:List Sg) (T:List (Option (World→World→Prop))):List Nat→Prop
 | []=>True
 | i::r=>(sgA L i= .val undef∧T.getD i none=none)∧GOff L T r
theorem GOff.at {L:List Sg} {T:List (Option (World→World→Prop))}: ∀ {G:List Nat},GOff L T G→ ∀i,G.contains i=true→sgA L i= .val undef∧T.getD i none=none
 | [],_,_,h=>by cases h
 | j::r,h,i,hi=>by
   simp only[List.contains_cons,Bool.or_eq_true,beq_iff_eq] at hi
   rcases hi with rfl | hi
   ·exact h.1
   ·exact GOff.at h.2 i hi
theorem actV_keep {S:Nat→Bool} {vs:Nat→Value} {d:Tmp}: ∀(r:List Oper) (k:Nat) (b:Act),(∀o∈r,o.dst≠some d)→(actV S vs r k b).tmps[d]? =b.tmps[d]?
 | [],_,_,_=>rfl
 | o::r,k,b,h=>by
   unfold actV
   rw[actV_keep r (k+1) _ fun o' ho'=>h o' (by simp[ho'])]
   split
   ·have:=h o (by simp)
    cases hd:o.dst with
    | none=>rfl
    | some e=>
      rw[hd] at this
      simp only[Act.put]
      rw[Array.getElem?_setIfInBounds_ne (fun q=>this (by rw[q]))]
   ·rfl
theorem actV_get {S:Nat→Bool} {vs:Nat→Value} {d:Tmp}: ∀(r:List Oper) (k:Nat) (b:Act) (i:Nat) (o:Oper),r[i]? =some o→o.dst=some d→S (k+i)=true→(∀j o2,r[j]? =some o2→j≠i→o2.dst≠some d)→d<b.tmps.size→(actV S vs r k b).tmps[d]? =some (vs (k+i))
 | [],_,_,_,_,h,_,_,_,_=>by simp at h
 | o'::r,k,b,0,o,h,hd,hS,hu,hz=>by
   obtain rfl:o'=o:=by simpa using h
   rw[Nat.add_zero] at hS⊢
   unfold actV
   rw[hS,actV_keep r (k+1) _ fun o2 ho2=>by
    obtain⟨j,hj⟩:=List.getElem?_of_mem ho2
    exact hu (j+1) o2 (by simpa using hj) (by omega)]
   simp only[if_true,hd,Act.put]
   rw[Array.getElem?_setIfInBounds_self_of_lt hz]
 | o'::r,k,b,i+1,o,h,hd,hS,hu,hz=>by
   unfold actV
   rw[actV_get r (k+1) _ i o (by simpa using h) hd (by rwa [show k+1+i=k+(i+1) by omega]) (fun j o2 hj hji=>hu (j+1) o2 (by simpa using hj) (by omega)) (by split<;>(try simp only[put_size])<;>exact hz)]
   rw[show k+1+i=k+(i+1) by omega]
section
variable {l:List Oper}
theorem freG_parts (h:freG l=true):Region.noSelect l.toArray=true∧ ∀i o,l[i]? =some o→(∀e∈o.after,Region.binds .any e=true→e.on<i)∧(∀k o',l[k]? =some o'→i≠k→ ∀d,o.dst=some d→o'.dst≠some d)∧
  ∀k o' t,l[k]? =some o'→o'.dst=some t→t∈o.looksAt l.toArray→reachB l l.length i k=true∨reachB l l.length k i=true:=by
 unfold freG at h
 rw[Bool.and_eq_true,List.all_eq_true] at h
 refine⟨h.1,fun i o ho=> ?_⟩
 have hi:i<l.length:=(List.getElem?_eq_some_iff.1 ho).1
 have h1:=h.2 i (List.mem_range.2 hi)
 rw[ho] at h1
 simp only[Bool.and_eq_true,List.all_eq_true,List.mem_range] at h1
 obtain⟨h3,h4⟩:=h1
 refine⟨fun e he hb=> ?_,fun k o' hk hik d hd hd'=> ?_,fun k o' t hk ht hl=> ?_⟩
 ·have:=Array.all_eq_true_iff_forall_mem.1 h3 e he
  rw[hb] at this
  simpa using this
 ·have h5:=h4 k ((List.getElem?_eq_some_iff.1 hk).1)
  rw[hk] at h5
  simp only[Bool.and_eq_true,Bool.or_eq_true,decide_eq_true_eq] at h5
  rcases h5.1 with (h6 | h6) | h6
  ·exact hik h6
  ·rw[hd,hd'] at h6;simp at h6
  ·rw[hd] at h6;simp at h6
 ·have h5:=h4 k ((List.getElem?_eq_some_iff.1 hk).1)
  rw[hk] at h5
  simp only[Bool.and_eq_true] at h5
  have h6:=h5.2
  rw[ht] at h6
  simp only[Bool.or_eq_true,Bool.not_eq_true'] at h6
  rcases h6 with (h6 | h6) | h6
  ·rw[List.contains_iff_mem.2 hl] at h6;cases h6
  ·exact .inl h6
  ·exact .inr h6
theorem reach_ltG (hB:freG l=true): ∀(f i j:Nat),reachB l f i j=true→j<i
 | 0,_,_,h=>by cases h
 | f+1,i,j,h=>by
   unfold reachB at h
   cases ho:l[i]? with
   | none=>rw[ho] at h;cases h
   | some o=>
     rw[ho] at h
     simp only[List.any_eq_true,Array.mem_toList_iff,Bool.and_eq_true,Bool.or_eq_true,beq_iff_eq] at h
     obtain⟨e,he,hb,h⟩:=h
     have h1:=((freG_parts hB).2 i o ho).1 e he hb
     rcases h with h | h
     ·omega
     ·have:=reach_ltG hB f e.on j h;omega
end
section
variable {P:Program} {I Hs:World→Prop} {D:List Nat} {J:Nat→World→Prop} {l:List Oper} {L:List Sg} {T:List (Option (World→World→Prop))} {w:World} {a:Act} {Q:Exit→Act→World→Prop} {G:List Nat}
theorem obwG_at {vs:Nat→Value} (hvs: ∀j,j<l.length→(sgA L j).pick (vs j)=vs j): ∀(r:List Oper) (ss:List Sg) (k:Nat) (b:Act),(∀j,r[j]? =l[k+j]?)→(∀j,ss.getD j (.val undef)=sgA L (k+j))→ObwG G P J l L T vs Q r ss k b→
  (∀i o,r[i]? =some o→G.contains (k+i)=false→ ∀W K Q0,Hid (J (k+i) W)→Hid (∀j,reachB l l.length (k+i) j=true→(sgA L j).R (maskV l j vs) W (vs j))→Hid (∀v W',tnA T (k+i) W W'→(sgA L (k+i)).R (maskV l (k+i) vs) W' v→K ((actV (fun j=>decide (j<k+i)) vs r k b).put o.dst v) W')→o.wp P (actV (fun j=>decide (j<k+i)) vs r k b) W K Q0)∧
  (∀W',Hid (J l.length W')→Hid (∀j,j<l.length→(sgA L j).R (maskV l j vs) W' (vs j))→Q .normal (actV (fun _=>true) vs r k b) W')
 | [],_,_,_,_,_,h=>⟨fun i o ho _=>by simp at ho,h⟩
 | _::_,[],_,_,_,_,h=>h.elim
 | o::r,s::ss,k,b,hr,hs,h=>by
   obtain⟨h1,h2⟩:=h
   have hs0:s=sgA L k:=by simpa using hs 0
   have hk:k<l.length:=by
    have:=hr 0
    rw[Nat.add_zero] at this
    exact(List.getElem?_eq_some_iff.1 this.symm).1
   rw[hs0,hvs k hk] at h2
   have hn:=obwG_at hvs r ss (k+1) _ (fun j=>by have:=hr (j+1);rw[show k+(j+1)=k+1+j by omega] at this;simpa using this) (fun j=>by have:=hs (j+1);rw[show k+(j+1)=k+1+j by omega] at this;simpa using this) h2
   refine⟨fun i o' ho' hG'=> ?_,?_⟩
   ·cases i with
    | zero=>
      obtain rfl:o=o':=by simpa using ho'
      have e:actV (fun j=>decide (j<k+0)) vs (o::r) k b=b:=by
       unfold actV
       rw[decide_eq_false (by omega)]
       have: ∀(r:List Oper) (k2:Nat) (b:Act),k≤k2→actV (fun j=>decide (j<k+0)) vs r k2 b=b:=by
        intro r
        induction r with
        | nil=>intros;rfl
        | cons o r ih=>
          intro k2 b hk2
          unfold actV
          rw[decide_eq_false (by omega)]
          exact ih (k2+1) b (by omega)
       exact this r (k+1) b (by omega)
      rw[Nat.add_zero] at hG'
      rw[e,Nat.add_zero,←hs0]
      rw[hG'] at h1
      exact h1
    | succ i=>
      have e:k+(i+1)=k+1+i:=by omega
      rw[e] at hG'
      have:=hn.1 i o' (by simpa using ho') hG'
      rw[e]
      unfold actV
      rw[decide_eq_true (by omega)]
      exact this
   ·exact hn.2
end
end Go.Proofs.YtnjpoljbagfdnaaGreat
namespace Go.Proofs.YtnjpoljbagfdnaaGreat
set_option maxRecDepth 20000
set_option linter.unusedVariables false
set_option linter.unusedSimpArgs false
open Go.RowKit
end Go.Proofs.YtnjpoljbagfdnaaGreat
namespace Go.Proofs.YtnjpoljbagfdnaaGreat
set_option maxRecDepth 20000
set_option linter.unusedVariables false
set_option linter.unusedSimpArgs false
open Go.ChangeShapes Go.WideShapes Go.ChangeAt Go.RowKit
theorem laidOut:laidOutB Tryz.prog=true:=by kernel_rfl
theorem own:ownKnob Tryz.prog.godebug=none:=by kernel_rfl
end Go.Proofs.YtnjpoljbagfdnaaGreat
namespace Go.Proofs.YtnjpoljbagfdnaaGreat
set_option maxRecDepth 20000
set_option linter.unusedVariables false
set_option linter.unusedSimpArgs false
open Go.RowKit
def OE (lo hi:Nat) (v:Value) (es:List EdD) (w:World):Prop:=OwE w lo v es∧ ∀b,v.ownBlock=some b→b<hi
end Go.Proofs.YtnjpoljbagfdnaaGreat
namespace Go.Proofs.YtnjpoljbagfdnaaGreat
set_option maxRecDepth 20000
set_option linter.unusedVariables false
set_option linter.unusedSimpArgs false
open Go.RowKit
end Go.Proofs.YtnjpoljbagfdnaaGreat
namespace Go.Proofs.YtnjpoljbagfdnaaGreat
set_option maxRecDepth 20000
set_option linter.unusedVariables false
set_option linter.unusedSimpArgs false
open Go.RowKit
end Go.Proofs.YtnjpoljbagfdnaaGreat
namespace Go.Proofs.YtnjpoljbagfdnaaGreat
set_option maxRecDepth 20000
set_option linter.unusedVariables false
set_option linter.unusedSimpArgs false
open Go.RowKit
def misV (g:GrD) (v:Int) (ls:List Int):List EdD:=(ls.filter fun x=>decide (nextV g.2.2 v x<0)).map fun x=>(v,x,-1)
def misU (g:GrD):Nat→List EdD
 | 0=> []
 | k+1=>misU g k++misV g (k:Int) (lettersL g.1.toNat)
def finB (g:GrD):Bool:=coreB g&&decide ((misU g g.2.1.toNat).length=0)
end Go.Proofs.YtnjpoljbagfdnaaGreat
namespace Go.Proofs.YtnjpoljbagfdnaaGreat
set_option maxRecDepth 20000
set_option linter.unusedVariables false
set_option linter.unusedSimpArgs false
open Go.RowKit
end Go.Proofs.YtnjpoljbagfdnaaGreat
namespace Go.Proofs.YtnjpoljbagfdnaaGreat
set_option maxRecDepth 20000
set_option linter.unusedVariables false
set_option linter.unusedSimpArgs false
open Go.RowKit
end Go.Proofs.YtnjpoljbagfdnaaGreat
namespace Go.Proofs.YtnjpoljbagfdnaaGreat
set_option maxRecDepth 20000
set_option linter.unusedVariables false
set_option linter.unusedSimpArgs false
open Go.RowKit
end Go.Proofs.YtnjpoljbagfdnaaGreat
namespace Go.Proofs.YtnjpoljbagfdnaaGreat
set_option maxRecDepth 20000
set_option linter.unusedVariables false
set_option linter.unusedSimpArgs false
open Go.RowKit
section
variable {g:GrD} (hg:grB g=true) (hf:Fol g.2.2)
include hg
include hf
end
end Go.Proofs.YtnjpoljbagfdnaaGreat
namespace Go.Proofs.YtnjpoljbagfdnaaGreat
set_option maxRecDepth 20000
set_option linter.unusedVariables false
set_option linter.unusedSimpArgs false
open Go.RowKit
end Go.Proofs.YtnjpoljbagfdnaaGreat
namespace Go.Proofs.YtnjpoljbagfdnaaGreat
set_option maxRecDepth 20000
set_option linter.unusedVariables false
set_option linter.unusedSimpArgs false
open Go.RowKit
end Go.Proofs.YtnjpoljbagfdnaaGreat
namespace Go.Proofs.YtnjpoljbagfdnaaGreat
set_option maxRecDepth 20000
set_option linter.unusedVariables false
set_option linter.unusedSimpArgs false
open Go.RowKit
end Go.Proofs.YtnjpoljbagfdnaaGreat
namespace Go.Proofs.YtnjpoljbagfdnaaGreat
set_option maxRecDepth 20000
set_option linter.unusedVariables false
set_option linter.unusedSimpArgs false
open Go.RowKit
section
variable {g:GrD} {t:List Int}
def hairX (g:GrD):GrD:=(g.1,g.2.1+1,g.2.2)
def cjY (g:GrD) (t:List Int):GrD:=addG (hairX g) (readF g.2.2 0 t).1 g.2.1 (t.drop (readF g.2.2 0 t).2)
end
structure CjH (g:GrD) (t:List Int) (R:GrD×Bool):Prop where
 c0:coreB g=false→R=((0,0,[]),false)
 c1:wordB g.1 t=false→R=((0,0,[]),false)
 c2:coreB g=true→wordB g.1 t=true→(readF g.2.2 0 t).2=t.length→R=(movG g (readF g.2.2 0 t).1.toNat,true)
 c3:(readF g.2.2 0 t).2<t.length→40≤g.2.1→R=((0,0,[]),false)
 c4:(readF g.2.2 0 t).2<t.length→addOk (hairX g) (t.drop (readF g.2.2 0 t).2)=false→R=((0,0,[]),false)
 c5:coreB g=true→wordB g.1 t=true→(readF g.2.2 0 t).2<t.length→g.2.1<40→addOk (hairX g) (t.drop (readF g.2.2 0 t).2)=true→R=(movG (cjY g t) g.2.1.toNat,true)
end Go.Proofs.YtnjpoljbagfdnaaGreat
namespace Go.Proofs.YtnjpoljbagfdnaaGreat
set_option maxRecDepth 20000
set_option linter.unusedVariables false
set_option linter.unusedSimpArgs false
open Go.RowKit
end Go.Proofs.YtnjpoljbagfdnaaGreat
namespace Go.Proofs.YtnjpoljbagfdnaaGreat
set_option maxRecDepth 20000
set_option linter.unusedVariables false
set_option linter.unusedSimpArgs false
open Go.RowKit
section
variable {g:GrD} (hc:coreB g=true)
include hc
theorem core_parts:grB g=true∧Fol g.2.2:=foldB_parts (coreB_foldB hc)
end
end Go.Proofs.YtnjpoljbagfdnaaGreat
namespace Go.Proofs.YtnjpoljbagfdnaaGreat
set_option maxRecDepth 20000
set_option linter.unusedVariables false
set_option linter.unusedSimpArgs false
open Go.RowKit
theorem walk_letters {g:GrD} (hg:grB g=true): ∀ {w:List Int} {v:Int},(∀x∈w,-3≤x∧x≤3)→0≤walkF g.2.2 v w→ ∀x∈w,x∈lettersL g.1.toNat
 | [],_,_,_,x,hx=>by cases hx
 | y::w,v,hl,h,x,hx=>by
   rw[walkF_cons] at h
   split at h
   ·exact absurd h (by decide)
   ·rename_i q
    rcases List.mem_cons.1 hx with e | e
    ·subst e
     exact next_letter hg (hl x (by simp)) (Int.not_lt.1 q)
    ·exact walk_letters hg (fun z hz=>hl z (by simp[hz])) h x e
theorem lt3_letters {g:GrD} (hg:grB g=true) {w:List Int} (h: ∀x∈w,x∈lettersL g.1.toNat): ∀x∈w,Lt3 x:=fun x hx=>by
 have h1:=letters_mem.1 (h x hx)
 have h2:=(grB_parts hg).1
 exact⟨by omega,by omega,by omega⟩
theorem incl_of_loops {a b:GrD} (ha:coreB a=true) (hb:coreB b=true) (hr:a.1=b.1)
  (H: ∀w,(∀x∈w,Lt3 x)→NoB w→walkF a.2.2 0 w=0→walkF b.2.2 0 w=0):inclS a b=true:=by
 obtain⟨hga,hfa⟩:=core_parts ha
 rw[incl_eq]
 unfold inclI
 rw[ha,hb,decide_eq_true hr,Bool.true_and,Bool.true_and,Bool.true_and]
 unfold basF
 rw[if_pos ha,List.all_eq_true]
 intro w hw
 obtain⟨e,he,rfl⟩:=List.mem_map.1 hw
 obtain⟨he1,he2⟩:=List.mem_filter.1 he
 have hre:=edge_of_gr hga he1
 have c1:=core_all ha hre.1
 have c2:=core_all ha hre.2.2
 have hwk:=bas_walk hga hfa he1 c1 c2
 have hl3:=bas_let3 hga he1 c1 c2
 exact decide_eq_true (H _ (lt3_letters hga (walk_letters (v:=0) hga hl3 (by omega))) (bas_chain hga hfa he1 he2 c1 c2) hwk)
theorem img_inv {a b:GrD} (h:inclS a b=true) (h':inclS b a=true) {v:Int} (hv:v∈canO a):imgW b a (imgW a b v)=v:=by
 obtain⟨ha,hb,_⟩:=incl_parts h
 have hga:=coreB_grB ha
 have hgb:=coreB_grB hb
 have hz:(0:Int)∈canO b:=List.mem_of_getElem? (canO_ok hgb).2.2
 have hr:=imgW_range h hv
 have:=incl_hom h' (wdO a v) 0 (wd_let3 hga hv) hz hr.1
 rw[incl_zero hgb,wd_walk hga hv] at this
 exact this.symm
theorem img_step {a b:GrD} (h:inclS a b=true) (h':inclS b a=true) {u x:Int} (hu:u∈canO a) (hx: -3≤x∧x≤3):
  (0≤nextV a.2.2 u x→nextV a.2.2 u x∈canO a∧nextV b.2.2 (imgW a b u) x=imgW a b (nextV a.2.2 u x)∧0≤imgW a b (nextV a.2.2 u x))∧(nextV a.2.2 u x<0→nextV b.2.2 (imgW a b u) x<0):=by
 obtain⟨ha,hb,_⟩:=incl_parts h
 have hga:=coreB_grB ha
 constructor
 ·intro h0
  have hm:=canO_closed hga hu hx h0
  exact⟨hm,(stp_in h hu hx h0).2.symm,(imgW_range h hm).1⟩
 ·intro h0
  apply Classical.byContradiction
  intro q
  have hr:=imgW_range h hu
  have:=stp_in h' (core_all hb hr) hx (by omega)
  rw[img_inv h h' hu] at this
  omega
theorem incl_anti {a b:GrD} (h:inclS a b=true) (h':inclS b a=true):a=b:=by
 obtain⟨ha,hb,hr⟩:=incl_parts h
 obtain⟨hga,hfa⟩:=core_parts ha
 obtain⟨hgb,hfb⟩:=core_parts hb
 have hoa:=canO_ok hga
 have hinj: ∀u∈canO a,∀v∈canO a,imgW a b u=imgW a b v→u=v:=fun u hu v hv e=>by
  rw[←img_inv h h' hu,←img_inv h h' hv,e]
 have hm:=canF_map (g:=a) (h:=b) (o:=canO a) (f:=imgW a b) (ls:=lettersL a.1.toNat) hinj (fun u hu x hx=>img_step h h' hu (let3 hga hx)) 41 0 [0] (fun y hy=>by
  rw[List.mem_singleton.1 hy];exact List.mem_of_getElem? hoa.2.2)
 rw[List.map_cons,List.map_nil,incl_zero hga] at hm
 have hcan:canO b=(canO a).map (imgW a b):=by
  show canF b.2.2 (lettersL b.1.toNat) 41 0 [0]=_
  rw[←hr]
  exact hm
 have ea:canG a=a:=by unfold coreB at ha;simp only[Bool.and_eq_true,decide_eq_true_eq] at ha;exact ha.2
 have eb:canG b=b:=by unfold coreB at hb;simp only[Bool.and_eq_true,decide_eq_true_eq] at hb;exact hb.2
 have hob:=canO_ok hgb
 have hov: ∀i:Int,0≤i→i<(canO a).length→ov (canO b) i=imgW a b (ov (canO a) i):=fun i h0 h1=>by
  obtain⟨k,rfl⟩: ∃k:Nat,i=(k:Int):=⟨i.toNat,by omega⟩
  have hk:k<(canO a).length:=by omega
  rw[ov_get hk,ov_get (by rw[hcan];simpa using hk)]
  simp[hcan]
 have hlen:(canO b).length=(canO a).length:=by rw[hcan];simp
 have key: ∀e:EdD,e∈(canG a).2.2↔e∈(canG b).2.2:=fun e=>by
  have hia:=fun he=>edge_of_gr (g:=canG a) (foldB_parts (foldB_canG (core_fold ha))).1 (e:=e) he
  have hib:=fun he=>edge_of_gr (g:=canG b) (foldB_parts (foldB_canG (core_fold hb))).1 (e:=e) he
  have sa:(canG a).2.1=((canO a).length:Int):=rfl
  have sb:(canG b).2.1=((canO b).length:Int):=rfl
  have ra:(canG a).1=a.1:=rfl
  have rb:(canG b).1=b.1:=rfl
  have h3:=(grB_parts hga).1
  have mid: ∀(h1:0≤e.1∧e.1<(canO a).length) (h2:0≤e.2.2∧e.2.2<(canO a).length) (h4:1≤e.2.1∧e.2.1≤a.1),e∈(canG a).2.2↔e∈(canG b).2.2:=fun h1 h2 h4=>by
   show e∈(rnG a (canO a)).2.2↔e∈(rnG b (canO b)).2.2
   rw[rn_edge hoa.1 h1 h2,rn_edge hob.1 (by rw[hlen];exact h1) (by rw[hlen];exact h2),hov _ h1.1 h1.2,hov _ h2.1 h2.2]
   have m1:=ov_mem h1.1 h1.2
   have m2:=ov_mem h2.1 h2.2
   generalize ov (canO a) e.1=p at*
   generalize ov (canO a) e.2.2=q at*
   have q0:=(hoa.2.1 q m2).1
   have st:=img_step h h' m1 (x:=e.2.1) (by omega)
   have i1:(p,e.2.1,q)∈a.2.2↔nextV a.2.2 p e.2.1=q:=by
    rw[next_iff hga hfa (by omega) q0]
    constructor
    ·intro z;exact .inl ⟨by omega,z⟩
    ·rintro(z | z)
     ·exact z.2
     ·omega
   have i2:(imgW a b p,e.2.1,imgW a b q)∈b.2.2↔nextV b.2.2 (imgW a b p) e.2.1=imgW a b q:=by
    rw[next_iff hgb hfb (by omega) (imgW_range h m2).1]
    constructor
    ·intro z;exact .inl ⟨by omega,z⟩
    ·rintro(z | z)
     ·exact z.2
     ·omega
   rw[i1,i2]
   constructor
   ·intro z
    have:=(st.1 (by omega)).2.1
    rw[this,z]
   ·intro z
    have hr2:=(imgW_range h m2).1
    rcases Int.lt_or_le (nextV a.2.2 p e.2.1) 0 with y | y
    ·have:=st.2 y;omega
    ·obtain⟨z1,z2,_⟩:=st.1 y
     rw[z2] at z
     exact hinj _ z1 _ m2 z
  constructor
  ·intro he
   obtain⟨e1,e2,e3⟩:=hia he
   exact(mid (by omega) (by omega) (by omega)).1 he
  ·intro he
   obtain⟨e1,e2,e3⟩:=hib he
   exact(mid (by omega) (by omega) (by omega)).2 he
 rw[←ea,←eb]
 have s1:Srt cmpE (canG a).2.2:=gr_srt (foldB_parts (foldB_canG (core_fold ha))).1
 have s2:Srt cmpE (canG b).2.2:=gr_srt (foldB_parts (foldB_canG (core_fold hb))).1
 have e3:(canG a).2.2=(canG b).2.2:=Srt.ext cmpE_ord s1 s2 key
 have e1:(canG a).1=(canG b).1:=hr
 have e2:(canG a).2.1=(canG b).2.1:=by show((canO a).length:Int)=((canO b).length:Int);rw[hlen]
 exact Prod.ext e1 (Prod.ext e2 e3)
theorem core_uniq {a b:GrD} (ha:coreB a=true) (hb:coreB b=true) (hr:a.1=b.1)
  (H: ∀w,(∀x∈w,Lt3 x)→NoB w→(walkF a.2.2 0 w=0↔walkF b.2.2 0 w=0)):a=b:=
 incl_anti (incl_of_loops ha hb hr fun w h1 h2 h=>(H w h1 h2).1 h) (incl_of_loops hb ha hr.symm fun w h1 h2 h=>(H w h1 h2).2 h)
section
variable {g:GrD} (hfi:finB g=true)
include hfi
omit hfi in
theorem inv_letters {w:List Int} (hw: ∀x∈w,x∈lettersL g.1.toNat): ∀x∈invN w,x∈lettersL g.1.toNat:=fun x hx=>by
 have:=letters_mem.1 (hw _ (invN_mem hx))
 exact letters_mem.2 (by omega)
end
end Go.Proofs.YtnjpoljbagfdnaaGreat
namespace Go.Proofs.YtnjpoljbagfdnaaGreat
set_option maxRecDepth 20000
set_option linter.unusedVariables false
set_option linter.unusedSimpArgs false
open Go.RowKit
section
variable {a b:GrD} {A B:Nat} (h:Two a b A B) {r:Nat} (hr:r≤3)
include h hr
end
end Go.Proofs.YtnjpoljbagfdnaaGreat
namespace Go.Proofs.YtnjpoljbagfdnaaGreat
set_option maxRecDepth 20000
set_option linter.unusedVariables false
set_option linter.unusedSimpArgs false
open Go.RowKit
section
variable {a b:GrD} {A B:Nat} (h:Two a b A B) {r:Nat} (hr:r≤3)
include h hr
end
section
variable {a b:GrD} {u v:Nat}
end
end Go.Proofs.YtnjpoljbagfdnaaGreat
namespace Go.Proofs.YtnjpoljbagfdnaaGreat
set_option maxRecDepth 20000
set_option linter.unusedVariables false
set_option linter.unusedSimpArgs false
open Go.RowKit
def chi (g:GrD):Int:=(g.2.2.length:Int)-g.2.1
theorem len_split {α:Type} (p:α→Bool): ∀l:List α,l.length=(l.filter p).length+(l.filter fun a=> !p a).length
 | []=>rfl
 | a::l=>by
   rw[List.filter_cons,List.filter_cons,List.length_cons,len_split p l]
   cases p a<;>simp<;>omega
theorem sum_rep (k:Nat): ∀n,(List.replicate n k).sum=n*k
 | 0=>by simp
 | n+1=>by rw[List.replicate_succ,List.sum_cons,sum_rep k n,Nat.succ_mul,Nat.add_comm]
theorem degE_zero {u:Int} {e:EdD}:degE u e=0↔e.1≠u∧e.2.2≠u:=by
 unfold degE
 by_cases h1:e.1=u<;>by_cases h2:e.2.2=u<;>simp[h1,h2]
theorem rank_chi {g:GrD} (h:coreB g=true):rankF g-1=chi g:=by
 unfold rankF chi
 rw[if_pos h]
 omega
end Go.Proofs.YtnjpoljbagfdnaaGreat
namespace Go.Proofs.YtnjpoljbagfdnaaGreat
set_option maxRecDepth 20000
set_option linter.unusedVariables false
set_option linter.unusedSimpArgs false
open Go.RowKit
def OwTr {α:Type} (E:El α) (t:TypeId) (width:Nat) (lo hi:Nat) (w:World) (vs:Value) (ds:List α) (vo:Value) (os:List α) (k:Nat):Prop:=
 ∃es0 es sub:List (List Value×α×List Nat),es.map (·.2.1)=ds∧(es0++sub).map (·.2.1)=os∧sub.Sublist (es.take k)∧(∀e∈es0++es,e.1.length=width∧E w e.1 e.2.1 e.2.2)∧
  w.ownsRow 0 t width vs es.length (es.map (·.1)).flatten∧w.ownsRow 0 t width vo (es0++sub).length ((es0++sub).map (·.1)).flatten∧
  (vs.ownBlock.toList++((es0.map (·.2.2)).flatten++(es.map (·.2.2)).flatten)).Nodup∧(∀b∈vs.ownBlock.toList++((es0.map (·.2.2)).flatten++(es.map (·.2.2)).flatten),lo≤b∧b<hi)∧
  (∀b,vo.ownBlock=some b→lo≤b∧b<hi∧b∉vs.ownBlock.toList++((es0.map (·.2.2)).flatten++(es.map (·.2.2)).flatten))
section
variable {α:Type} {E:El α} {t:TypeId} {width:Nat} {w w' w1 w2:World} {vs vo vo':Value} {ds os:List α} {lo hi:Nat} {k:Nat}
theorem tr_sub_flat {β γ:Type} {l l':List β} (f:β→List γ) (h:l'.Sublist l):((l'.map f).flatten).Sublist (l.map f).flatten:=by
 induction h with
 | slnil=>exact List.Sublist.refl _
 | cons a _ ih=>
   rw[List.map_cons,List.flatten_cons]
   exact ih.trans (List.sublist_append_right _ _)
 | cons_cons a _ ih=>
   rw[List.map_cons,List.flatten_cons,List.map_cons,List.flatten_cons]
   exact List.Sublist.append (List.Sublist.refl _) ih
theorem tr_flat_at {es:List (List Value×α×List Nat)} (h: ∀e∈es,e.1.length=width): ∀(k:Nat) (hk:k<es.length) (j:Nat),j<width→((es.map (·.1)).flatten)[k*width+j]? =es[k].1[j]? :=by
 induction es with
 | nil=>intro k hk;cases hk
 | cons e es ih=>
   intro k hk j hj
   rw[List.map_cons,List.flatten_cons]
   have he:=h e (by simp)
   match k with
   | 0=>rw[List.getElem?_append_left (by omega)];simp
   | k+1=>
     rw[List.getElem?_append_right (by rw[he,Nat.add_mul];omega)]
     have:(k+1)*width+j-e.1.length=k*width+j:=by rw[he,Nat.add_mul];omega
     rw[this,ih (fun e he=>h e (by simp[he])) k (by simpa using hk) j hj]
     rfl
theorem mem_flat {es:List (List Value×α×List Nat)} {e:List Value×α×List Nat} (he:e∈es) {b:Nat} (hb:b∈e.2.2):b∈(es.map (·.2.2)).flatten:=
 List.mem_flatten.2 ⟨e.2.2,List.mem_map.2 ⟨e,he,rfl⟩,hb⟩
theorem OwTr.start {lo1:Nat} (h:OwnL E t width lo1 hi w vs ds) (ho:OwnL E t width lo lo1 w vo os) (hlo:lo≤lo1) (hhi:lo1≤hi):OwTr E t width lo hi w vs ds vo os 0:=by
 obtain⟨F,⟨es,h1,h2,h3,rfl⟩,hn,hF⟩:=h
 obtain⟨G,⟨es0,g1,g2,g3,rfl⟩,gn,gF⟩:=ho
 obtain⟨n1,n2,n3⟩:=List.nodup_append.1 hn
 obtain⟨m1,m2,m3⟩:=List.nodup_append.1 gn
 refine⟨es0,es,[],h1,by simpa using g1,List.nil_sublist _,fun e he=> ?_,h3,by simpa using g3,?_,fun b hb=> ?_,fun b hb=> ?_⟩
 ·rcases List.mem_append.1 he with he | he
  ·exact g2 e he
  ·exact h2 e he
 ·refine List.nodup_append.2 ⟨n1,List.nodup_append.2 ⟨m2,n2,fun a ha b hb hab=> ?_⟩,fun a ha b hb hab=> ?_⟩
  ·have:=(gF a (List.mem_append.2 (.inr ha))).2
   have:=(hF b (List.mem_append.2 (.inr hb))).1
   omega
  ·rcases List.mem_append.1 hb with hb | hb
   ·have:=(gF b (List.mem_append.2 (.inr hb))).2
    have:=(hF a (List.mem_append.2 (.inl ha))).1
    omega
   ·exact n3 a ha b hb hab
 ·rcases List.mem_append.1 hb with hb | hb
  ·have:=hF b (List.mem_append.2 (.inl hb));omega
  ·rcases List.mem_append.1 hb with hb | hb
   ·have:=gF b (List.mem_append.2 (.inr hb));omega
   ·have:=hF b (List.mem_append.2 (.inr hb));omega
 ·have hg:=gF b (List.mem_append.2 (.inl (by rw[hb];simp)))
  refine⟨hg.1,by omega,fun hm=> ?_⟩
  rcases List.mem_append.1 hm with hm | hm
  ·have:=hF b (List.mem_append.2 (.inl hm));omega
  ·rcases List.mem_append.1 hm with hm | hm
   ·exact m3 b (by rw[hb];simp) b hm rfl
   ·have:=hF b (List.mem_append.2 (.inr hm));omega
theorem OwTr.keep (h:OwTr E t width lo hi w vs ds vo os k) (hE:Stable E) (hb: ∀b,lo≤b→b<hi→w'.heap[b]? =w.heap[b]?):OwTr E t width lo hi w' vs ds vo os k:=by
 obtain⟨es0,es,sub,h1,h2,h3,h4,h5,h6,hn,hF,ho⟩:=h
 refine⟨es0,es,sub,h1,h2,h3,fun e he=>⟨(h4 e he).1,hE _ _ _ _ _ (h4 e he).2 fun b hbe=> ?_⟩,ownsRow_keep h5 fun b hv=> ?_,ownsRow_keep h6 fun b hv=> ?_,hn,hF,ho⟩
 ·have hm:b∈(es0.map (·.2.2)).flatten++(es.map (·.2.2)).flatten:=by
   rcases List.mem_append.1 he with he | he
   ·exact List.mem_append.2 (.inl (mem_flat he hbe))
   ·exact List.mem_append.2 (.inr (mem_flat he hbe))
  have:=hF b (List.mem_append.2 (.inr hm))
  exact hb b this.1 this.2
 ·have:=hF b (List.mem_append.2 (.inl (by rw[hv];simp)))
  exact hb b this.1 this.2
 ·exact hb b (ho b hv).1 (ho b hv).2.1
theorem OwTr.widen (h:OwTr E t width lo hi w vs ds vo os k) {hi':Nat} (hh:hi≤hi'):OwTr E t width lo hi' w vs ds vo os k:=by
 obtain⟨es0,es,sub,h1,h2,h3,h4,h5,h6,hn,hF,ho⟩:=h
 exact⟨es0,es,sub,h1,h2,h3,h4,h5,h6,hn,fun b hb=>⟨(hF b hb).1,Nat.lt_of_lt_of_le (hF b hb).2 hh⟩,fun b hb=>⟨(ho b hb).1,Nat.lt_of_lt_of_le (ho b hb).2.1 hh,(ho b hb).2.2⟩⟩
theorem OwTr.below (h:OwTr E t width lo w.heap.size w vs ds vo os k) (hE:Stable E) (hb:Below w.heap.size w w'):OwTr E t width lo w'.heap.size w' vs ds vo os k:=
 (h.keep hE fun b _ hlt=>hb.block b hlt).widen hb.size
theorem OwTr.src (h:OwTr E t width lo hi w vs ds vo os k):OwnL E t width lo hi w vs ds:=by
 obtain⟨es0,es,sub,h1,h2,h3,h4,h5,h6,hn,hF,ho⟩:=h
 obtain⟨n1,n2,n3⟩:=List.nodup_append.1 hn
 refine⟨_,⟨es,h1,fun e he=>h4 e (List.mem_append.2 (.inr he)),h5,rfl⟩,List.nodup_append.2 ⟨n1,(List.nodup_append.1 n2).2.1,fun a ha b hb=>n3 a ha b (List.mem_append.2 (.inr hb))⟩,fun b hb=>hF b ?_⟩
 rcases List.mem_append.1 hb with hb | hb
 ·exact List.mem_append.2 (.inl hb)
 ·exact List.mem_append.2 (.inr (List.mem_append.2 (.inr hb)))
theorem OwTr.dst (h:OwTr E t width lo hi w vs ds vo os k):OwnL E t width lo hi w vo os:=by
 obtain⟨es0,es,sub,h1,h2,h3,h4,h5,h6,hn,hF,ho⟩:=h
 obtain⟨n1,n2,n3⟩:=List.nodup_append.1 hn
 have hss:sub.Sublist es:=h3.trans (List.take_sublist _ _)
 have hsl:((sub.map (·.2.2)).flatten).Sublist (es.map (·.2.2)).flatten:=tr_sub_flat _ hss
 have hmem: ∀b∈((es0++sub).map (·.2.2)).flatten,b∈(es0.map (·.2.2)).flatten++(es.map (·.2.2)).flatten:=by
  intro b hb
  rw[List.map_append,List.flatten_append] at hb
  rcases List.mem_append.1 hb with hb | hb
  ·exact List.mem_append.2 (.inl hb)
  ·exact List.mem_append.2 (.inr (hsl.subset hb))
 refine⟨_,⟨es0++sub,h2,fun e he=>h4 e ?_,h6,rfl⟩,List.nodup_append.2 ⟨by cases vo.ownBlock<;>simp,?_,fun a ha b hb hab=> ?_⟩,fun b hb=> ?_⟩
 ·rcases List.mem_append.1 he with he | he
  ·exact List.mem_append.2 (.inl he)
  ·exact List.mem_append.2 (.inr (hss.subset he))
 ·rw[List.map_append,List.flatten_append]
  exact n2.sublist (List.Sublist.append (List.Sublist.refl _) hsl)
 ·subst hab
  have ha':vo.ownBlock=some a:=by simpa using ha
  exact(ho a ha').2.2 (List.mem_append.2 (.inr (hmem a hb)))
 ·rcases List.mem_append.1 hb with hb | hb
  ·have hb':vo.ownBlock=some b:=by simpa using hb
   exact⟨(ho b hb').1,(ho b hb').2.1⟩
  ·exact hF b (List.mem_append.2 (.inr (hmem b hb)))
theorem OwTr.skip (h:OwTr E t width lo hi w vs ds vo os k):OwTr E t width lo hi w vs ds vo os (k+1):=by
 obtain⟨es0,es,sub,h1,h2,h3,r⟩:=h
 exact⟨es0,es,sub,h1,h2,h3.trans (List.take_sublist_take_left (by omega)),r⟩
end
theorem push_tr {α:Type} {E:El α} (hE:Stable E) {t ts:TypeId} {ti:TypeInfo} {z:Value} {width bytes lo:Nat} {w0 w:World} {vs vo:Value} {ds os:List α} {k:Nat} {ops:Array Oper} {rest:List Oper} {o:Oper} {a:Act} {Q:Exit→Act→World→Prop} (hgd:o.guard=none) (s x:Operand)
  (ho:o.op= .call {callee:= .builtin .append,args:= #[s,x],argTypes:= #[ts,ts]})
  (ht:Tryz.prog.underlying ts=some (.slice t)) (hi:Tryz.prog.info? t=some ti) (hz:ti.zero=some z) (hsize:ti.size=width) (hby:ti.bytes=bytes) (hzs:z.cells.size=width) (hsz:0<width) (hb0:bytes≤128)
  (hown:OwTr E t width lo w0.heap.size w0 vs ds vo os k) (hlo:lo≤w0.heap.size) (hbel:Below w0.heap.size w0 w) (hs:a.eval s=vo) (hk:k<ds.length) (d:α) (hd:ds[k]=d) (b g m cap:Nat) (hvs:vs= .slice (some ⟨g,0,none⟩) m cap) (hx:a.eval x= .slice (some ⟨b,0,none⟩) 1 1)
  (hc: ∀j,j<width→w.cell? ⟨b,j,none⟩=w0.cell? ⟨g,k*width+j,none⟩) (h1: ∀j u,j<width→w0.cell? ⟨g,k*width+j,none⟩=some u→u.oneCell'=true) (hl:os.length≤1073741824)
  (h: ∀v' w',OwTr E t width lo w'.heap.size w' vs ds v' (os++ [d]) (k+1)→w.grownBy w' vo.ownBlock→wpList Tryz.prog ops Q rest (a.put o.dst v') w'):
  wpList Tryz.prog ops Q (o::rest) a w:=by
 obtain⟨es0,es,sub,e1,e2,e3,e4,e5,e6,hn,hF,hvo⟩:=hown
 have hln:es.length=ds.length:=by rw[←e1];simp
 have hlo':(es0++sub).length=os.length:=by rw[←e2,List.length_map]
 have hke:k<es.length:=by omega
 have hek:es[k].2.1=d:=by rw[←hd];simp[←e1]
 have hw:=(e4 es[k] (List.mem_append.2 (.inr (by simp)))).1
 have hcs: ∀j u,es[k].1[j]? =some u→w0.cell? ⟨g,k*width+j,none⟩=some u:=by
  intro j u hj
  have hjw:j<width:=by rw[←hw];exact(List.getElem?_eq_some_iff.1 hj).1
  have hlt:k*width+j<es.length*width:=by
   have:=Nat.mul_le_mul_right width (show k+1≤es.length by omega)
   rw[Nat.add_mul] at this;omega
  rw[hvs] at e5
  obtain rfl:es.length=m:=by
   rcases e5.2 with ⟨hv,_⟩ | ⟨_,_,_,hv,_⟩
   ·cases hv
   ·injection hv with _ e _;exact e.symm
  rw[e5.cellAt _ hlt,tr_flat_at (fun e he=>(e4 e (List.mem_append.2 (.inr he))).1) k hke j hjw,hj]
 have hrow:=ownsRow_keep e6 (w':=w) fun b hb=>hbel.block b (hvo b hb).2.1
 refine wpList_append_own_at _ hgd s x ts ho 0 t ti z width bytes ht hi hz hsize hby hzs hsz vo _ _ hs hrow ⟨b,0,none⟩ 1 1 es[k].1 hx (by omega) ?_ ?_ (by unfold maxLen;omega) ?_ (Nat.zero_le _) ?_
 ·intro j u hj
  have e:(⟨b,0,none⟩:Addr).add j=⟨b,j,none⟩:=by simp[Addr.add];intro h;exact h.symm
  have hjw:j<width:=by rw[←hw];exact(List.getElem?_eq_some_iff.1 hj).1
  rw[e,hc j hjw];exact hcs j u hj
 ·intro u hu
  obtain⟨j,hj,rfl⟩:=List.mem_iff_getElem.1 hu
  exact h1 j _ (by omega) (hcs j _ (List.getElem?_eq_getElem hj))
 ·calc ((es0++sub).length+1)*bytes≤1073741825*128:=Nat.mul_le_mul (by omega) hb0
   _≤140737488355328:=by decide
 ·intro v' w' h2 h3 _ h5
  have hsz1:=hbel.size
  have hsz2:=h3.size
  have hblk: ∀b,b<w0.heap.size→some b≠vo.ownBlock→w'.heap[b]? =w0.heap[b]? :=fun b hb hne=>(h3.block b (by omega) hne).trans (hbel.block b hb)
  have hne: ∀b∈vs.ownBlock.toList++((es0.map (·.2.2)).flatten++(es.map (·.2.2)).flatten),some b≠vo.ownBlock:=fun b hb hv=>(hvo b hv.symm).2.2 hb
  refine h v' w' ⟨es0,es,sub++ [es[k]],e1,?_,?_,fun e he=>⟨(e4 e he).1,hE _ _ _ _ _ (e4 e he).2 fun b hbe=> ?_⟩,ownsRow_keep e5 fun b hv=> ?_,?_,hn,fun b hb=>⟨(hF b hb).1,by have:=(hF b hb).2;omega⟩,fun b hb=> ?_⟩ h3
  ·rw[←List.append_assoc,List.map_append,e2]
   simp[hek]
  ·rw[List.take_succ_eq_append_getElem hke]
   exact List.Sublist.append e3 (List.Sublist.refl _)
  ·have hm:b∈vs.ownBlock.toList++((es0.map (·.2.2)).flatten++(es.map (·.2.2)).flatten):=by
    refine List.mem_append.2 (.inr ?_)
    rcases List.mem_append.1 he with he | he
    ·exact List.mem_append.2 (.inl (mem_flat he hbe))
    ·exact List.mem_append.2 (.inr (mem_flat he hbe))
   exact hblk b (hF b hm).2 (hne b hm)
  ·have hm:b∈vs.ownBlock.toList++((es0.map (·.2.2)).flatten++(es.map (·.2.2)).flatten):=List.mem_append.2 (.inl (by rw[hv];simp))
   exact hblk b (hF b hm).2 (hne b hm)
  ·rw[←List.append_assoc,List.length_append,List.map_append,List.flatten_append]
   simpa using h2
  ·have hlt:=(h2.lt b hb).2
   rcases h5 with h5 | h5
   ·rw[h5] at hb
    exact⟨(hvo b hb).1,hlt,(hvo b hb).2.2⟩
   ·rw[h5] at hb
    injection hb with hb
    exact⟨by omega,hlt,fun hm=>by have:=(hF b hm).2;omega⟩
end Go.Proofs.YtnjpoljbagfdnaaGreat
namespace Go.Proofs.YtnjpoljbagfdnaaGreat
set_option maxRecDepth 20000
set_option linter.unusedVariables false
set_option linter.unusedSimpArgs false
open Go.RowKit
def ovL:List GrD→List GrD→Option (List GrD)
 | o,[]=>some o
 | o,x::xs=>if inG o x=true then ovL o xs else if 40≤o.length then none else ovL (o++ [x]) xs
def ovR:Nat→List GrD→Nat→Option (List GrD)
 | 0,o,_=>some o
 | f+1,o,i=>if i<o.length then(match ovL o (quotF (o[i]?.getD (0,0,[]))) with
   | none=>none
   | some o'=>ovR f o' (i+1)) else some o
def overF (g:GrD):List GrD×Bool:=if coreB g=true∧g.2.1≤6 then(match ovR 41 [g] 0 with
  | none=>([],false)
  | some o=>(o,true)) else([],false)
theorem ovR_end {f i:Nat} {o:List GrD} (h:o.length≤i):ovR f o i=some o:=by
 cases f with
 | zero=>rfl
 | succ f=>unfold ovR;rw[if_neg (by omega)]
theorem ovR_step {f i:Nat} {o:List GrD} (h:i<o.length):ovR (f+1) o i=(match ovL o (quotF o[i]) with
  | none=>none
  | some o'=>ovR f o' (i+1)):=by
 rw[ovR,if_pos h]
 simp[h]
theorem ovL_in {o:List GrD} {l:List GrD} {k:Nat} (hk:k<l.length) {d:GrD} (hd:l[k]=d) (h:inG o d=true):ovL o (l.drop k)=ovL o (l.drop (k+1)):=by
 rw[List.drop_eq_getElem_cons hk,ovL,hd,if_pos h]
theorem ovL_full {o:List GrD} {l:List GrD} {k:Nat} (hk:k<l.length) {d:GrD} (hd:l[k]=d) (h:inG o d=false) (h40:40≤o.length):ovL o (l.drop k)=none:=by
 rw[List.drop_eq_getElem_cons hk,ovL,hd,if_neg (by rw[h];simp),if_pos h40]
theorem ovL_new {o:List GrD} {l:List GrD} {k:Nat} (hk:k<l.length) {d:GrD} (hd:l[k]=d) (h:inG o d=false) (h40: ¬40≤o.length):ovL o (l.drop k)=ovL (o++ [d]) (l.drop (k+1)):=by
 rw[List.drop_eq_getElem_cons hk,ovL,hd,if_neg (by rw[h];simp),if_neg h40]
theorem OGS_one (w:World) {N:Nat} (hN:w.heap.size=N) {lo base:Nat} {d:GrD} {s:Value} (hi1:I64 d.1) (hi2:I64 d.2.1) (h:OwE w base s d.2.2) (hlo:lo≤base) (hb:base≤N):
  OGS lo (N+1) (.slice (some ⟨N,0,none⟩) 1 1) [d] (w.alloc (.cells #[.int .i64 d.1, .int .i64 d.2.1,s] 26)):=by
 subst hN
 have hr:=World.ownsRow_lit (e:=26) (size:=3) (base:=0) w #[.int .i64 d.1, .int .i64 d.2.1,s] 1 (Nat.zero_le _) (by unfold maxLen;omega) (by simp)
 refine⟨w.heap.size::s.ownBlock.toList,⟨[([.int .i64 d.1, .int .i64 d.2.1,s],d,s.ownBlock.toList)],rfl,fun e he=> ?_,by simpa using hr,by simp[Value.ownBlock]⟩,?_,fun b hb'=> ?_⟩
 ·simp at he
  subst he
  exact⟨rfl,s,rfl,hi1,hi2,(h.alloc _).mono (Nat.zero_le _),rfl⟩
 ·refine List.nodup_cons.2 ⟨fun hm=> ?_,by cases s.ownBlock<;>simp⟩
  have:=h.1.lt w.heap.size (by simpa using hm)
  omega
 ·rcases List.mem_cons.1 hb' with rfl | hb'
  ·omega
  ·have:=h.1.lt b (by simpa using hb')
   omega
theorem push_tr_graph {lo:Nat} {w0 w:World} {vs vo:Value} {Q os:List GrD} {k:Nat} {ops:Array Oper} {rest:List Oper} {o:Oper} {a:Act} {R:Exit→Act→World→Prop} (hgd:o.guard=none) (s x:Operand)
  (ho:o.op= .call {callee:= .builtin .append,args:= #[s,x],argTypes:= #[51,51]})
  (hown:OwTr EG 26 3 lo w0.heap.size w0 vs Q vo os k) (hlo:lo≤w0.heap.size) (hbel:Below w0.heap.size w0 w) (hs:a.eval s=vo) (hk:k<Q.length) (d:GrD) (hd:Q[k]=d) (b g m cap:Nat) (hvs:vs= .slice (some ⟨g,0,none⟩) m cap) (hx:a.eval x= .slice (some ⟨b,0,none⟩) 1 1)
  (u0 u1 u2:Value) (hz0:u0.oneCell'=true) (hz1:u1.oneCell'=true) (hz2:u2.oneCell'=true) (hc: ∀j u,[u0,u1,u2][j]? =some u→w.cell? ⟨b,j,none⟩=some u)
  (c0:w0.cell? ⟨g,k*3,none⟩=some u0) (c1:w0.cell? ⟨g,k*3+1,none⟩=some u1) (c2:w0.cell? ⟨g,k*3+2,none⟩=some u2) (hl:os.length≤1073741824)
  (h: ∀v' w',OwTr EG 26 3 lo w'.heap.size w' vs Q v' (os++ [d]) (k+1)→w.grownBy w' vo.ownBlock→wpList Tryz.prog ops R rest (a.put o.dst v') w'):
  wpList Tryz.prog ops R (o::rest) a w:=by
 obtain⟨i0,hi0,hq0,hq1,hq2⟩:=info_parts graph_info
 refine push_tr EG.stable hgd s x ho Tryz.underlying51 hi0 hq0 hq1 hq2 rfl (by decide) (by decide) hown hlo hbel hs hk d hd b g m cap hvs hx (fun j hj=> ?_) (fun j u hj hu=> ?_) hl h
 ·match j,hj with
  | 0,_=>rw[hc 0 u0 rfl];exact c0.symm
  | 1,_=>rw[hc 1 u1 rfl];exact c1.symm
  | 2,_=>rw[hc 2 u2 rfl];exact c2.symm
 ·match j,hj with
  | 0,_=>rw[Nat.add_zero,c0] at hu;injection hu with hu;subst hu;exact hz0
  | 1,_=>rw[c1] at hu;injection hu with hu;subst hu;exact hz1
  | 2,_=>rw[c2] at hu;injection hu with hu;subst hu;exact hz2
set_option maxHeartbeats 2000000 in
theorem specOvergroupsOf_any (v:Value) (g:GrD) (w:World) (h:ArgG w v g):
  Calls Tryz.prog 40 #[v] w fun e w'=> ∃r,e= .returned (.tuple #[r, .bool (overF g).2])∧OGS w.heap.size w'.heap.size r (overF g).1 w'∧Below w.heap.size w w':=by
 have HG:=hDD h
 obtain⟨s,rfl,hi1,hi2,ha⟩:=h
 obtain⟨A,cap,rfl⟩:=ha.form
 obtain⟨g1,N,es⟩:=g
 simp only at*
 clear ha
 go_enter Tryz.func40,Tryz.ntmps40
 go_wp2_with fail
 obtain⟨W,hW⟩: ∃W,W=w.alloc (Obj.cells #[Value.int IntKind.i64 g1,Value.int IntKind.i64 N, .slice A es.length cap] 26):=⟨_,rfl⟩
 have bx:Below w.heap.size w (w.alloc (Obj.cells #[Value.int IntKind.i64 g1,Value.int IntKind.i64 N, .slice A es.length cap] 26)):=(by repeat(first | exact Below.refl _ _ | (refine Below.setCell ?_ (by first | omega | (simp<;>omega)) _) | (refine bel_drewN ?_ _) | (refine Below.drew ?_) | (refine Below.alloc ?_ (by first | omega | (simp<;>omega)) _)))
 rw[←hW] at bx⊢
 have hsW:W.heap.size=w.heap.size+1:=by rw[hW];simp
 have L0:Hid (W.cell? ⟨w.heap.size,0,none⟩=some (.int .i64 g1)):=hDD (by rw[hW];simp[go_sem])
 have L1:Hid (W.cell? ⟨w.heap.size,1,none⟩=some (.int .i64 N)):=hDD (by rw[hW];simp[go_sem])
 have L2:Hid (W.cell? ⟨w.heap.size,2,none⟩=some (.slice A es.length cap)):=hDD (by rw[hW];simp[go_sem])
 have BX:=hDD bx
 have HA:Hid (∀w',Below (w.heap.size+1) W w'→ArgG w' (.agg #[.int .i64 g1, .int .i64 N, .slice A es.length cap]) (g1,N,es)):=hDD fun w' hb=>HG.out.below (BX.out.trans (hb.mono (by omega)))
 have HCL:Hid (∀w',Below (w.heap.size+1) W w'→w'.cell? ⟨w.heap.size,0,none⟩=some (.int .i64 g1)∧w'.cell? ⟨w.heap.size,1,none⟩=some (.int .i64 N)∧w'.cell? ⟨w.heap.size,2,none⟩=some (.slice A es.length cap)):=hDD fun w' hb=>
  ⟨(hb.cell (p:=⟨w.heap.size,0,none⟩) (by show w.heap.size<_;omega)).trans L0.out,(hb.cell (p:=⟨w.heap.size,1,none⟩) (by show w.heap.size<_;omega)).trans L1.out,(hb.cell (p:=⟨w.heap.size,2,none⟩) (by show w.heap.size<_;omega)).trans L2.out⟩
 clear hW bx L0 L1 L2
 refine(specIsSubgroup_any _ (g1,N,es) W (HA.out W ((Below.refl W.heap.size W).mono (by omega)))).mono ?_
 rintro e w2 ⟨rfl,b2⟩
 have hs2:=b2.size
 have B2:Hid (Below (w.heap.size+1) W w2):=hDD (b2.mono (by omega))
 clear b2
 obtain⟨q0,q1,q2⟩:=HCL.out w2 B2.out
 rcases ec:coreB (g1,N,es) with _ | _
 ·have F:Hid (overF (g1,N,es)=([],false)):=hDD (by unfold overF;rw[ec];rfl)
  have HOF:Hid (OGS w.heap.size (w2.heap.size+1) (.slice (some ⟨w2.heap.size,0,none⟩) 0 0) [] (w2.alloc (.cells #[] 26))):=hDD (OGS_lit w2 _ rfl (by omega))
  have HBF:Hid (Below w.heap.size w (w2.alloc (.cells #[] 26))):=hDD ((BX.out.trans (B2.out.mono (by omega))).alloc (by omega) _)
  clear ec
  go_wp2
  refine bodyPost_ret (v:= .tuple #[.slice (some ⟨w2.heap.size,0,none⟩) 0 0, .bool false]) (by simp[results,Tryz.results40,go_sem]) rfl ?_
  rw[F.out]
  exact⟨_,rfl,by simpa using HOF.out,HBF.out⟩
 by_cases h6:(6:Int)<N
 ·have F:Hid (overF (g1,N,es)=([],false)):=hDD (by unfold overF;rw[if_neg (fun hh=>by have:=hh.2;simp only at this;omega)])
  have HOF:Hid (OGS w.heap.size (w2.heap.size+1) (.slice (some ⟨w2.heap.size,0,none⟩) 0 0) [] (w2.alloc (.cells #[] 26))):=hDD (OGS_lit w2 _ rfl (by omega))
  have HBF:Hid (Below w.heap.size w (w2.alloc (.cells #[] 26))):=hDD ((BX.out.trans (B2.out.mono (by omega))).alloc (by omega) _)
  clear ec
  go_wp2
  refine bodyPost_ret (v:= .tuple #[.slice (some ⟨w2.heap.size,0,none⟩) 0 0, .bool false]) (by simp[results,Tryz.results40,go_sem]) rfl ?_
  rw[F.out]
  exact⟨_,rfl,by simpa using HOF.out,HBF.out⟩
 have hfold:foldB (g1,N,es)=true:=by have h:=ec;unfold coreB at h;simp only[Bool.and_eq_true] at h;exact h.1.1
 have hgr:=(foldB_parts hfold).1
 obtain⟨h13,h40,h120,_⟩:=grB_parts hgr
 simp only at h13 h40 h120
 have F:Hid (overF (g1,N,es)=(match ovR 41 [(g1,N,es)] 0 with | none=>([],false) | some o=>(o,true))):=hDD (by unfold overF;rw[if_pos ⟨ec,by simp only;omega⟩])
 clear ec hfold hgr
 go_wp2_with fail
 refine(l4Copy_any _ (g1,N,es) w2 (HA.out w2 B2.out) (by simp only;omega)).mono ?_
 rintro e w3 ⟨r3,rfl,o3,b3⟩
 have hs3:=b3.size
 have B3:Hid (Below (w.heap.size+1) W w3):=hDD (B2.out.trans (b3.mono (by omega)))
 obtain⟨s3,rfl,_,_,oe3⟩:=o3
 obtain⟨A3,c3,rfl,_⟩:=oe3.form
 have HO3:Hid (OGS (w.heap.size+1) (w3.heap.size+1) (.slice (some ⟨w3.heap.size,0,none⟩) 1 1) [(g1,N,es)] (w3.alloc (.cells #[.int .i64 g1, .int .i64 N, .slice A3 es.length c3] 26))):=hDD (OGS_one w3 rfl (d:=(g1,N,es)) hi1 hi2 oe3 (by omega) (by omega))
 have B4:Hid (Below (w.heap.size+1) W (w3.alloc (.cells #[.int .i64 g1, .int .i64 N, .slice A3 es.length c3] 26))):=hDD (B3.out.alloc (by omega) _)
 simp only at*
 clear oe3 b3 q0 q1 q2 B3
 go_wp2
 obtain⟨W4,hW4⟩: ∃W4,W4=w3.alloc (.cells #[.int .i64 g1, .int .i64 N, .slice A3 es.length c3] 26):=⟨_,rfl⟩
 have hs4:W4.heap.size=w3.heap.size+1:=by rw[hW4];simp
 rw[←hW4] at B4 HO3⊢
 clear hW4
 go_loopw [4,5] (fun out i wr=> ∃(k f:Nat) (L:List GrD),i= .int .i64 k∧k≤L.length∧L.length≤40∧f+k=41∧ovR f L k=ovR 41 [(g1,N,es)] 0∧OGS (w.heap.size+1) wr.heap.size out L wr∧Below (w.heap.size+1) W wr) (fun _ i _=>41-(intOf i).toNat)
 case atStart=>exact⟨0,41,[(g1,N,es)],rfl,by simp,by simp,rfl,rfl,by rw[hs4];exact HO3.out,B4.out⟩
 case round=>
  obtain⟨k,f,L,rfl,hkL,hL40,hfk,hR,ho,hb⟩:=hrel
  have HO1:=hDD ho
  have HB1:=hDD hb
  have HR1:=hDD hR
  obtain⟨wi,rfl⟩: ∃wi:World,wi=wr:=⟨_,rfl⟩
  clear ho hb hR
  have hwi:=HB1.out.size
  obtain⟨Ao,co,rfl,_⟩:=OwnL.len HO1.out
  by_cases hlt:k<L.length
  ·obtain⟨f,rfl⟩: ∃f',f=f'+1:=⟨f-1,by omega⟩
   have HST:Hid ((match ovL L (quotF L[k]) with | none=>none | some o'=>ovR f o' (k+1))=ovR 41 [(g1,N,es)] 0):=hDD (by rw[←HR1.out,ovR_step hlt])
   obtain⟨gb,cs,Fe,rfl,hg1,hg2,hE,_,_,_,hcell,_⟩:=OwnL.focus HO1.out EG.stable hlt
   obtain⟨sE,rfl,hj1,hj2,hoe,_⟩:=hE
   have c0:=hcell 0 (by simp)
   have c1:=hcell 1 (by simp)
   have c2:=hcell 2 (by simp)
   simp only[List.getElem_cons_zero,List.getElem_cons_succ,Nat.add_zero] at c0 c1 c2
   have HAK:Hid (ArgG wi (.agg #[.int .i64 L[k].1, .int .i64 L[k].2.1,sE]) L[k]):=hDD ⟨sE,rfl,hj1,hj2,hoe.arg⟩
   clear hcell hoe
   generalize L[k]=D at*
   obtain⟨d1,d2,ds⟩:=D
   simp only at*
   go_wp2_with fail
   refine(specQuotientsOf_any _ (d1,d2,ds) wi HAK.out).mono ?_
   rintro e w5 ⟨r5,rfl,o5,b5⟩
   have hs5:=b5.size
   obtain⟨AQ,cQ,rfl,_,hcQ,_⟩:=OwnL.len o5
   generalize quotF (d1,d2,ds)=Q at*
   have HB5:Hid (Below (w.heap.size+1) W w5):=hDD (HB1.out.trans (b5.mono (by omega)))
   have HT5:Hid (OwTr EG 26 3 (w.heap.size+1) w5.heap.size w5 (.slice AQ Q.length cQ) Q (.slice (some ⟨gb,0,none⟩) L.length co) L 0):=hDD (OwTr.start o5 (OwnL.keep HO1.out EG.stable fun b _ hlt=>b5.block b hlt) (by omega) (by omega))
   unfold maxLen at hcQ
   clear o5 b5 c0 c1 c2
   go_wp2
   go_loopw [4,7] (fun out i wr=> ∃(m:Nat) (L':List GrD),i= .int .i64 m∧m≤Q.length∧L'.length≤40∧L.length≤L'.length∧ovL L' (Q.drop m)=ovL L Q∧OwTr EG 26 3 (w.heap.size+1) wr.heap.size wr (.slice AQ Q.length cQ) Q out L' m∧Below (w.heap.size+1) W wr) (fun _ i _=>Q.length-(intOf i).toNat)
   case atStart=>exact⟨0,L,rfl,by omega,hL40,Nat.le_refl _,rfl,HT5.out,HB5.out⟩
   case round=>
    obtain⟨m,L',rfl,hmQ,hL'40,hLL,hV,ht,hb⟩:=hrel
    have HV:=hDD hV
    have HT:=hDD ht
    have HB:=hDD hb
    obtain⟨wj,rfl⟩: ∃wj:World,wj=wr:=⟨_,rfl⟩
    clear ht hb hV
    have hwj:=HB.out.size
    obtain⟨Ap,cp,rfl,_⟩:=OwnL.len HT.out.dst
    by_cases hlt2:m<Q.length
    ·obtain⟨gq,cs,Fe,rfl,hgq1,hgq2,hE,_,_,_,hcell,_⟩:=OwnL.focus HT.out.src EG.stable hlt2
     obtain⟨sE,rfl,hi3,hi4,hoe,_⟩:=hE
     obtain⟨AE,cE,rfl⟩:=hoe.arg.form
     have c0:=hcell 0 (by simp)
     have c1:=hcell 1 (by simp)
     have c2:=hcell 2 (by simp)
     simp only[List.getElem_cons_zero,List.getElem_cons_succ,Nat.add_zero] at c0 c1 c2
     have HAK2:Hid (ArgG wj (.agg #[.int .i64 Q[m].1, .int .i64 Q[m].2.1, .slice AE Q[m].2.2.length cE]) Q[m]):=hDD ⟨_,rfl,hi3,hi4,hoe.arg⟩
     have HIN:Hid (∀o,inG o Q[m]=true→ovL o (Q.drop m)=ovL o (Q.drop (m+1))):=hDD fun o h=>ovL_in hlt2 rfl h
     have HFU:Hid (∀o,inG o Q[m]=false→40≤o.length→ovL o (Q.drop m)=none):=hDD fun o h h'=>ovL_full hlt2 rfl h h'
     have HNE:Hid (∀o,inG o Q[m]=false→ ¬40≤o.length→ovL o (Q.drop m)=ovL (o++ [Q[m]]) (Q.drop (m+1))):=hDD fun o h h'=>ovL_new hlt2 rfl h h'
     obtain⟨D,hD⟩: ∃D,D=Q[m]:=⟨_,rfl⟩
     have HD:=hDD hD.symm
     rw[←hD] at c0 c1 c2 HAK2 HIN HFU HNE
     clear hcell hoe hD hi3 hi4
     obtain⟨d1',d2',ds'⟩:=D
     simp only at c0 c1 c2 HAK2
     have hgs:gq<wj.heap.size:=hgq2
     go_wp2_with fail
     refine(specIsListed_any _ _ L' (d1',d2',ds') wj (OGS.arg HT.out.dst) HAK2.out).mono ?_
     rintro e w7 ⟨rfl,b7⟩
     have hs7:=b7.size
     have z0:=(b7.cell (p:=⟨gq,m*3,none⟩) hgs).trans c0
     have z1:=(b7.cell (p:=⟨gq,m*3+1,none⟩) hgs).trans c1
     have z2:=(b7.cell (p:=⟨gq,m*3+2,none⟩) hgs).trans c2
     have HT7:=hDD (HT.out.below EG.stable b7)
     have HB7:Hid (Below (w.heap.size+1) W w7):=hDD (HB.out.trans (b7.mono (by omega)))
     clear b7 c0 c1 c2
     have hlo7:w.heap.size+1≤w7.heap.size:=by omega
     rcases ei:inG L' (d1',d2',ds') with _ | _
     ·by_cases h40':40≤L'.length
      ·have hnone:ovL L Q=none:=by rw[←HV.out];exact HFU.out L' ei h40'
       have HF2:Hid (overF (g1,N,es)=([],false)):=hDD (by
        rw[F.out,←HST.out,hnone])
       have HOF:Hid (OGS w.heap.size (w7.heap.size+1) (.slice (some ⟨w7.heap.size,0,none⟩) 0 0) [] (w7.alloc (.cells #[] 26))):=hDD (OGS_lit w7 _ rfl (by omega))
       have HBF:Hid (Below w.heap.size w (w7.alloc (.cells #[] 26))):=hDD ((BX.out.trans (HB7.out.mono (by omega))).alloc (by omega) _)
       have h40i:(40:Int)≤(L'.length:Int):=by omega
       clear ei hnone z0 z1 z2
       go_wp2
       refine bodyPost_ret (v:= .tuple #[.slice (some ⟨w7.heap.size,0,none⟩) 0 0, .bool false]) (by simp[results,Tryz.results40,go_sem]) rfl ?_
       rw[HF2.out]
       exact⟨_,rfl,by simpa using HOF.out,HBF.out⟩
      ·have HNX:=hDD ((HNE.out L' ei h40').symm.trans HV.out)
       have h40i: ¬(40:Int)≤(L'.length:Int):=by omega
       clear ei
       go_wp2_with (at_builtin;refine push_tr_graph rfl (.tmp 48) (.tmp 53) rfl HT7.out hlo7 ((Below.refl _ _).alloc (Nat.le_refl _) _) rfl hlt2 (d1',d2',ds') HD.out w7.heap.size gq _ _ rfl rfl (.int .i64 d1') (.int .i64 d2') (.slice AE ds'.length cE) rfl rfl rfl (gr_lit _ _ rfl _ _ _ _) z0 z1 z2 (by omega) ?_;intro v8 w8 o8 g8;have O8:=hDD o8;have B8:Hid (Below (w.heap.size+1) W w8):=hDD ((HB7.out.alloc hlo7 (Obj.cells #[Value.int IntKind.i64 d1',Value.int IntKind.i64 d2', .slice AE ds'.length cE] 26)).grown g8 (by simp;omega) (fun c hc=>(HT7.out.dst.lt hc).1));clear o8 g8)
       go_roundw
       case rel=>exact⟨m+1,L'++ [(d1',d2',ds')],by go_num,by omega,by rw[List.length_append];simp;omega,by rw[List.length_append];omega,HNX.out,O8.out,B8.out⟩
       case measure=>simp[intOf];omega
     ·have HNX:=hDD ((HIN.out L' ei).symm.trans HV.out)
      have HT8:=hDD HT7.out.skip
      clear ei z0 z1 z2
      go_wp2
      go_roundw
      case rel=>exact⟨m+1,L',by go_num,by omega,hL'40,hLL,HNX.out,HT8.out,HB7.out⟩
      case measure=>simp[intOf];omega
    ·obtain rfl:m=Q.length:=by omega
     have hV2:ovL L Q=some L':=by rw[←HV.out,List.drop_length];rfl
     have HN:Hid (ovR f L' (k+1)=ovR 41 [(g1,N,es)] 0):=hDD (by rw[←HST.out,hV2])
     clear hV2
     have HOD:=hDD HT.out.dst
     go_wp2
     go_roundw
     case rel=>exact⟨k+1,f,L',by go_num,by omega,hL'40,by omega,HN.out,HOD.out,HB.out⟩
     case measure=>simp[intOf];omega
  ·obtain rfl:k=L.length:=by omega
   have HF2:Hid (overF (g1,N,es)=(L,true)):=hDD (by rw[F.out,←HR1.out,ovR_end (Nat.le_refl _)])
   have HOF:=hDD (OwnL.widen HO1.out (show w.heap.size≤w.heap.size+1 by omega) (Nat.le_refl _))
   have HBF:Hid (Below w.heap.size w wi):=hDD (BX.out.trans (HB1.out.mono (by omega)))
   go_wp2
   refine bodyPost_ret (v:= .tuple #[.slice Ao L.length co, .bool true]) (by simp[results,Tryz.results40,go_sem]) rfl ?_
   rw[HF2.out]
   exact⟨_,rfl,HOF.out,HBF.out⟩
set_option maxHeartbeats 2000000 in
theorem implOvergroupsOf_any (v:Value) (g:GrD) (w:World) (h:ArgG w v g):
  Calls Tryz.prog 39 #[v] w fun e w'=> ∃r,e= .returned (.tuple #[r, .bool (overF g).2])∧OGS w.heap.size w'.heap.size r (overF g).1 w'∧Below w.heap.size w w':=by
 have HG:=hDD h
 obtain⟨s,rfl,hi1,hi2,ha⟩:=h
 obtain⟨A,cap,rfl⟩:=ha.form
 obtain⟨g1,N,es⟩:=g
 simp only at*
 clear ha
 go_enter Tryz.func39,Tryz.ntmps39
 go_wp2_with fail
 obtain⟨W,hW⟩: ∃W,W=w.alloc (Obj.cells #[Value.int IntKind.i64 g1,Value.int IntKind.i64 N, .slice A es.length cap] 26):=⟨_,rfl⟩
 have bx:Below w.heap.size w (w.alloc (Obj.cells #[Value.int IntKind.i64 g1,Value.int IntKind.i64 N, .slice A es.length cap] 26)):=(by repeat(first | exact Below.refl _ _ | (refine Below.setCell ?_ (by first | omega | (simp<;>omega)) _) | (refine bel_drewN ?_ _) | (refine Below.drew ?_) | (refine Below.alloc ?_ (by first | omega | (simp<;>omega)) _)))
 rw[←hW] at bx⊢
 have hsW:W.heap.size=w.heap.size+1:=by rw[hW];simp
 have L0:Hid (W.cell? ⟨w.heap.size,0,none⟩=some (.int .i64 g1)):=hDD (by rw[hW];simp[go_sem])
 have L1:Hid (W.cell? ⟨w.heap.size,1,none⟩=some (.int .i64 N)):=hDD (by rw[hW];simp[go_sem])
 have L2:Hid (W.cell? ⟨w.heap.size,2,none⟩=some (.slice A es.length cap)):=hDD (by rw[hW];simp[go_sem])
 have BX:=hDD bx
 have HA:Hid (∀w',Below (w.heap.size+1) W w'→ArgG w' (.agg #[.int .i64 g1, .int .i64 N, .slice A es.length cap]) (g1,N,es)):=hDD fun w' hb=>HG.out.below (BX.out.trans (hb.mono (by omega)))
 have HCL:Hid (∀w',Below (w.heap.size+1) W w'→w'.cell? ⟨w.heap.size,0,none⟩=some (.int .i64 g1)∧w'.cell? ⟨w.heap.size,1,none⟩=some (.int .i64 N)∧w'.cell? ⟨w.heap.size,2,none⟩=some (.slice A es.length cap)):=hDD fun w' hb=>
  ⟨(hb.cell (p:=⟨w.heap.size,0,none⟩) (by show w.heap.size<_;omega)).trans L0.out,(hb.cell (p:=⟨w.heap.size,1,none⟩) (by show w.heap.size<_;omega)).trans L1.out,(hb.cell (p:=⟨w.heap.size,2,none⟩) (by show w.heap.size<_;omega)).trans L2.out⟩
 clear hW bx L0 L1 L2
 refine(implIsCore_any _ (g1,N,es) W (HA.out W ((Below.refl W.heap.size W).mono (by omega)))).mono ?_
 rintro e w2 ⟨rfl,b2⟩
 have hs2:=b2.size
 have B2:Hid (Below (w.heap.size+1) W w2):=hDD (b2.mono (by omega))
 clear b2
 obtain⟨q0,q1,q2⟩:=HCL.out w2 B2.out
 rcases ec:coreB (g1,N,es) with _ | _
 ·have F:Hid (overF (g1,N,es)=([],false)):=hDD (by unfold overF;rw[ec];rfl)
  have HOF:Hid (OGS w.heap.size (w2.heap.size+1) (.slice (some ⟨w2.heap.size,0,none⟩) 0 0) [] (w2.alloc (.cells #[] 26))):=hDD (OGS_lit w2 _ rfl (by omega))
  have HBF:Hid (Below w.heap.size w (w2.alloc (.cells #[] 26))):=hDD ((BX.out.trans (B2.out.mono (by omega))).alloc (by omega) _)
  clear ec
  go_wp2
  refine bodyPost_ret (v:= .tuple #[.slice (some ⟨w2.heap.size,0,none⟩) 0 0, .bool false]) (by simp[results,Tryz.results39,go_sem]) rfl ?_
  rw[F.out]
  exact⟨_,rfl,by simpa using HOF.out,HBF.out⟩
 by_cases h6:(6:Int)<N
 ·have F:Hid (overF (g1,N,es)=([],false)):=hDD (by unfold overF;rw[if_neg (fun hh=>by have:=hh.2;simp only at this;omega)])
  have HOF:Hid (OGS w.heap.size (w2.heap.size+1) (.slice (some ⟨w2.heap.size,0,none⟩) 0 0) [] (w2.alloc (.cells #[] 26))):=hDD (OGS_lit w2 _ rfl (by omega))
  have HBF:Hid (Below w.heap.size w (w2.alloc (.cells #[] 26))):=hDD ((BX.out.trans (B2.out.mono (by omega))).alloc (by omega) _)
  clear ec
  go_wp2
  refine bodyPost_ret (v:= .tuple #[.slice (some ⟨w2.heap.size,0,none⟩) 0 0, .bool false]) (by simp[results,Tryz.results39,go_sem]) rfl ?_
  rw[F.out]
  exact⟨_,rfl,by simpa using HOF.out,HBF.out⟩
 have hfold:foldB (g1,N,es)=true:=by have h:=ec;unfold coreB at h;simp only[Bool.and_eq_true] at h;exact h.1.1
 have hgr:=(foldB_parts hfold).1
 obtain⟨h13,h40,h120,_⟩:=grB_parts hgr
 simp only at h13 h40 h120
 have F:Hid (overF (g1,N,es)=(match ovR 41 [(g1,N,es)] 0 with | none=>([],false) | some o=>(o,true))):=hDD (by unfold overF;rw[if_pos ⟨ec,by simp only;omega⟩])
 clear ec hfold hgr
 go_wp2_with fail
 refine(copyGraph_any _ (g1,N,es) w2 (HA.out w2 B2.out) (by simp only;omega)).mono ?_
 rintro e w3 ⟨r3,rfl,o3,b3⟩
 have hs3:=b3.size
 have B3:Hid (Below (w.heap.size+1) W w3):=hDD (B2.out.trans (b3.mono (by omega)))
 obtain⟨s3,rfl,_,_,oe3⟩:=o3
 obtain⟨A3,c3,rfl,_⟩:=oe3.form
 have HO3:Hid (OGS (w.heap.size+1) (w3.heap.size+1) (.slice (some ⟨w3.heap.size,0,none⟩) 1 1) [(g1,N,es)] (w3.alloc (.cells #[.int .i64 g1, .int .i64 N, .slice A3 es.length c3] 26))):=hDD (OGS_one w3 rfl (d:=(g1,N,es)) hi1 hi2 oe3 (by omega) (by omega))
 have B4:Hid (Below (w.heap.size+1) W (w3.alloc (.cells #[.int .i64 g1, .int .i64 N, .slice A3 es.length c3] 26))):=hDD (B3.out.alloc (by omega) _)
 simp only at*
 clear oe3 b3 q0 q1 q2 B3
 go_wp2
 obtain⟨W4,hW4⟩: ∃W4,W4=w3.alloc (.cells #[.int .i64 g1, .int .i64 N, .slice A3 es.length c3] 26):=⟨_,rfl⟩
 have hs4:W4.heap.size=w3.heap.size+1:=by rw[hW4];simp
 rw[←hW4] at B4 HO3⊢
 clear hW4
 go_loopw [4,5] (fun out i wr=> ∃(k f:Nat) (L:List GrD),i= .int .i64 k∧k≤L.length∧L.length≤40∧f+k=41∧ovR f L k=ovR 41 [(g1,N,es)] 0∧OGS (w.heap.size+1) wr.heap.size out L wr∧Below (w.heap.size+1) W wr) (fun _ i _=>41-(intOf i).toNat)
 case atStart=>exact⟨0,41,[(g1,N,es)],rfl,by simp,by simp,rfl,rfl,by rw[hs4];exact HO3.out,B4.out⟩
 case round=>
  obtain⟨k,f,L,rfl,hkL,hL40,hfk,hR,ho,hb⟩:=hrel
  have HO1:=hDD ho
  have HB1:=hDD hb
  have HR1:=hDD hR
  obtain⟨wi,rfl⟩: ∃wi:World,wi=wr:=⟨_,rfl⟩
  clear ho hb hR
  have hwi:=HB1.out.size
  obtain⟨Ao,co,rfl,_⟩:=OwnL.len HO1.out
  by_cases hlt:k<L.length
  ·obtain⟨f,rfl⟩: ∃f',f=f'+1:=⟨f-1,by omega⟩
   have HST:Hid ((match ovL L (quotF L[k]) with | none=>none | some o'=>ovR f o' (k+1))=ovR 41 [(g1,N,es)] 0):=hDD (by rw[←HR1.out,ovR_step hlt])
   obtain⟨gb,cs,Fe,rfl,hg1,hg2,hE,_,_,_,hcell,_⟩:=OwnL.focus HO1.out EG.stable hlt
   obtain⟨sE,rfl,hj1,hj2,hoe,_⟩:=hE
   have c0:=hcell 0 (by simp)
   have c1:=hcell 1 (by simp)
   have c2:=hcell 2 (by simp)
   simp only[List.getElem_cons_zero,List.getElem_cons_succ,Nat.add_zero] at c0 c1 c2
   have HAK:Hid (ArgG wi (.agg #[.int .i64 L[k].1, .int .i64 L[k].2.1,sE]) L[k]):=hDD ⟨sE,rfl,hj1,hj2,hoe.arg⟩
   clear hcell hoe
   generalize L[k]=D at*
   obtain⟨d1,d2,ds⟩:=D
   simp only at*
   go_wp2_with fail
   refine(implQuotientsOf_any _ (d1,d2,ds) wi HAK.out).mono ?_
   rintro e w5 ⟨r5,rfl,o5,b5⟩
   have hs5:=b5.size
   obtain⟨AQ,cQ,rfl,_,hcQ,_⟩:=OwnL.len o5
   generalize quotF (d1,d2,ds)=Q at*
   have HB5:Hid (Below (w.heap.size+1) W w5):=hDD (HB1.out.trans (b5.mono (by omega)))
   have HT5:Hid (OwTr EG 26 3 (w.heap.size+1) w5.heap.size w5 (.slice AQ Q.length cQ) Q (.slice (some ⟨gb,0,none⟩) L.length co) L 0):=hDD (OwTr.start o5 (OwnL.keep HO1.out EG.stable fun b _ hlt=>b5.block b hlt) (by omega) (by omega))
   unfold maxLen at hcQ
   clear o5 b5 c0 c1 c2
   go_wp2
   go_loopw [4,32] (fun out i wr=> ∃(m:Nat) (L':List GrD),i= .int .i64 m∧m≤Q.length∧L'.length≤40∧L.length≤L'.length∧ovL L' (Q.drop m)=ovL L Q∧OwTr EG 26 3 (w.heap.size+1) wr.heap.size wr (.slice AQ Q.length cQ) Q out L' m∧Below (w.heap.size+1) W wr) (fun _ i _=>Q.length-(intOf i).toNat)
   case atStart=>exact⟨0,L,rfl,by omega,hL40,Nat.le_refl _,rfl,HT5.out,HB5.out⟩
   case round=>
    obtain⟨m,L',rfl,hmQ,hL'40,hLL,hV,ht,hb⟩:=hrel
    have HV:=hDD hV
    have HT:=hDD ht
    have HB:=hDD hb
    obtain⟨wj,rfl⟩: ∃wj:World,wj=wr:=⟨_,rfl⟩
    clear ht hb hV
    have hwj:=HB.out.size
    obtain⟨Ap,cp,rfl,_⟩:=OwnL.len HT.out.dst
    by_cases hlt2:m<Q.length
    ·obtain⟨gq,cs,Fe,rfl,hgq1,hgq2,hE,_,_,_,hcell,_⟩:=OwnL.focus HT.out.src EG.stable hlt2
     obtain⟨sE,rfl,hi3,hi4,hoe,_⟩:=hE
     obtain⟨AE,cE,rfl⟩:=hoe.arg.form
     have c0:=hcell 0 (by simp)
     have c1:=hcell 1 (by simp)
     have c2:=hcell 2 (by simp)
     simp only[List.getElem_cons_zero,List.getElem_cons_succ,Nat.add_zero] at c0 c1 c2
     have HAK2:Hid (ArgG wj (.agg #[.int .i64 Q[m].1, .int .i64 Q[m].2.1, .slice AE Q[m].2.2.length cE]) Q[m]):=hDD ⟨_,rfl,hi3,hi4,hoe.arg⟩
     have HIN:Hid (∀o,inG o Q[m]=true→ovL o (Q.drop m)=ovL o (Q.drop (m+1))):=hDD fun o h=>ovL_in hlt2 rfl h
     have HFU:Hid (∀o,inG o Q[m]=false→40≤o.length→ovL o (Q.drop m)=none):=hDD fun o h h'=>ovL_full hlt2 rfl h h'
     have HNE:Hid (∀o,inG o Q[m]=false→ ¬40≤o.length→ovL o (Q.drop m)=ovL (o++ [Q[m]]) (Q.drop (m+1))):=hDD fun o h h'=>ovL_new hlt2 rfl h h'
     obtain⟨D,hD⟩: ∃D,D=Q[m]:=⟨_,rfl⟩
     have HD:=hDD hD.symm
     rw[←hD] at c0 c1 c2 HAK2 HIN HFU HNE
     clear hcell hoe hD hi3 hi4
     obtain⟨d1',d2',ds'⟩:=D
     simp only at c0 c1 c2 HAK2
     have hgs:gq<wj.heap.size:=hgq2
     go_wp2_with fail
     obtain⟨WX,hWX⟩: ∃WX,WX=wj.alloc (Obj.cells #[Value.int IntKind.i64 d1',Value.int IntKind.i64 d2', .slice AE ds'.length cE] 26):=⟨_,rfl⟩
     obtain⟨hsX,bX,hcX,_⟩:=gbox hWX
     rw[←hWX]
     have hgsX:gq<WX.heap.size:=by omega
     refine(implIsListed_any _ _ L' (d1',d2',ds') WX (OGS.arg (HT.out.below EG.stable bX).dst) (HAK2.out.below bX)).mono ?_
     rintro e w7 ⟨rfl,b7⟩
     have hs7:=b7.size
     obtain⟨y0,y1,y2⟩:=hcX w7 (b7.mono (by omega))
     have z0:=(b7.cell (p:=⟨gq,m*3,none⟩) hgsX).trans ((bX.cell (p:=⟨gq,m*3,none⟩) hgs).trans c0)
     have z1:=(b7.cell (p:=⟨gq,m*3+1,none⟩) hgsX).trans ((bX.cell (p:=⟨gq,m*3+1,none⟩) hgs).trans c1)
     have z2:=(b7.cell (p:=⟨gq,m*3+2,none⟩) hgsX).trans ((bX.cell (p:=⟨gq,m*3+2,none⟩) hgs).trans c2)
     have HT7:=hDD ((HT.out.below EG.stable bX).below EG.stable b7)
     have HB7:Hid (Below (w.heap.size+1) W w7):=hDD (HB.out.trans ((bX.trans (b7.mono (by omega))).mono (by omega)))
     clear b7 c0 c1 c2 hWX bX hcX
     have hlo7:w.heap.size+1≤w7.heap.size:=by omega
     rcases ei:inG L' (d1',d2',ds') with _ | _
     ·by_cases h40':40≤L'.length
      ·have hnone:ovL L Q=none:=by rw[←HV.out];exact HFU.out L' ei h40'
       have HF2:Hid (overF (g1,N,es)=([],false)):=hDD (by
        rw[F.out,←HST.out,hnone])
       have HOF:Hid (OGS w.heap.size (w7.heap.size+1) (.slice (some ⟨w7.heap.size,0,none⟩) 0 0) [] (w7.alloc (.cells #[] 26))):=hDD (OGS_lit w7 _ rfl (by omega))
       have HBF:Hid (Below w.heap.size w (w7.alloc (.cells #[] 26))):=hDD ((BX.out.trans (HB7.out.mono (by omega))).alloc (by omega) _)
       have h40i:(40:Int)≤(L'.length:Int):=by omega
       clear ei hnone z0 z1 z2
       go_wp2
       refine bodyPost_ret (v:= .tuple #[.slice (some ⟨w7.heap.size,0,none⟩) 0 0, .bool false]) (by simp[results,Tryz.results39,go_sem]) rfl ?_
       rw[HF2.out]
       exact⟨_,rfl,by simpa using HOF.out,HBF.out⟩
      ·have HNX:=hDD ((HNE.out L' ei h40').symm.trans HV.out)
       have h40i: ¬(40:Int)≤(L'.length:Int):=by omega
       clear ei
       go_wp2_with (at_builtin;refine push_tr_graph rfl (.tmp 43) (.tmp 45) rfl HT7.out hlo7 ((Below.refl _ _).alloc (Nat.le_refl _) _) rfl hlt2 (d1',d2',ds') HD.out w7.heap.size gq _ _ rfl rfl (.int .i64 d1') (.int .i64 d2') (.slice AE ds'.length cE) rfl rfl rfl (gr_lit _ _ rfl _ _ _ _) z0 z1 z2 (by omega) ?_;intro v8 w8 o8 g8;have O8:=hDD o8;have B8:Hid (Below (w.heap.size+1) W w8):=hDD ((HB7.out.alloc hlo7 (Obj.cells #[Value.int IntKind.i64 d1',Value.int IntKind.i64 d2', .slice AE ds'.length cE] 26)).grown g8 (by simp;omega) (fun c hc=>(HT7.out.dst.lt hc).1));clear o8 g8)
       go_roundw
       case rel=>exact⟨m+1,L'++ [(d1',d2',ds')],by go_num,by omega,by rw[List.length_append];simp;omega,by rw[List.length_append];omega,HNX.out,O8.out,B8.out⟩
       case measure=>simp[intOf];omega
     ·have HNX:=hDD ((HIN.out L' ei).symm.trans HV.out)
      have HT8:=hDD HT7.out.skip
      clear ei z0 z1 z2
      go_wp2
      go_roundw
      case rel=>exact⟨m+1,L',by go_num,by omega,hL'40,hLL,HNX.out,HT8.out,HB7.out⟩
      case measure=>simp[intOf];omega
    ·obtain rfl:m=Q.length:=by omega
     have hV2:ovL L Q=some L':=by rw[←HV.out,List.drop_length];rfl
     have HN:Hid (ovR f L' (k+1)=ovR 41 [(g1,N,es)] 0):=hDD (by rw[←HST.out,hV2])
     clear hV2
     have HOD:=hDD HT.out.dst
     go_wp2
     go_roundw
     case rel=>exact⟨k+1,f,L',by go_num,by omega,hL'40,by omega,HN.out,HOD.out,HB.out⟩
     case measure=>simp[intOf];omega
  ·obtain rfl:k=L.length:=by omega
   have HF2:Hid (overF (g1,N,es)=(L,true)):=hDD (by rw[F.out,←HR1.out,ovR_end (Nat.le_refl _)])
   have HOF:=hDD (OwnL.widen HO1.out (show w.heap.size≤w.heap.size+1 by omega) (Nat.le_refl _))
   have HBF:Hid (Below w.heap.size w wi):=hDD (BX.out.trans (HB1.out.mono (by omega)))
   go_wp2
   refine bodyPost_ret (v:= .tuple #[.slice Ao L.length co, .bool true]) (by simp[results,Tryz.results39,go_sem]) rfl ?_
   rw[HF2.out]
   exact⟨_,rfl,HOF.out,HBF.out⟩
end Go.Proofs.YtnjpoljbagfdnaaGreat
namespace Go.Proofs.YtnjpoljbagfdnaaGreat
set_option maxRecDepth 20000
set_option linter.unusedVariables false
set_option linter.unusedSimpArgs false
open Go.RowKit
def StpE (es:List EdD) (u x v:Int):Prop:=(0<x∧(u,x,v)∈es)∨(x<0∧(v,-x,u)∈es)
inductive Pth (es:List EdD):Int→List Int→Int→Prop
 | nil (u:Int):Pth es u [] u
 | cons {u x v z:Int} {w:List Int} (h:StpE es u x v) (p:Pth es v w z):Pth es u (x::w) z
def HomE (es es':List EdD) (f:Int→Int):Prop:= ∀e∈es,(f e.1,e.2.1,f e.2.2)∈es'
theorem Pth.map {es es':List EdD} {f:Int→Int} (H:HomE es es' f) {u v:Int} {w:List Int} (p:Pth es u w v):Pth es' (f u) w (f v):=by
 induction p with
 | nil u=>exact .nil _
 | cons h _ ih=>
   refine .cons ?_ ih
   rcases h with ⟨h1,h2⟩ | ⟨h1,h2⟩
   ·exact .inl ⟨h1,H _ h2⟩
   ·exact .inr ⟨h1,H _ h2⟩
theorem Pth.of_walk {g:GrD} (hg:grB g=true) (hf:Fol g.2.2): ∀ {w:List Int} {u:Int},(∀x∈w,-3≤x∧x≤3)→0≤walkF g.2.2 u w→Pth g.2.2 u w (walkF g.2.2 u w)
 | [],u,_,_=> .nil u
 | x::w,u,hl,h=>by
   rw[walkF_cons] at h⊢
   split at h
   ·exact absurd h (by decide)
   ·rename_i q
    rw[if_neg q]
    refine .cons ?_ (Pth.of_walk hg hf (fun y hy=>hl y (by simp[hy])) h)
    exact(next_iff hg hf (hl x (by simp)) (Int.not_lt.1 q)).1 rfl
theorem Pth.walk {g:GrD} (hg:grB g=true) (hf:Fol g.2.2) {w:List Int} {u v:Int} (hl: ∀x∈w,-3≤x∧x≤3) (p:Pth g.2.2 u w v):walkF g.2.2 u w=v:=by
 induction p with
 | nil u=>rfl
 | cons h p ih=>
   rename_i u x v z w
   have hv:0≤v:=by
    rcases h with ⟨_,h2⟩ | ⟨_,h2⟩
    ·exact(edge_of_gr hg h2).2.2.1
    ·exact(edge_of_gr hg h2).1.1
   have hn:=(next_iff hg hf (hl x (by simp)) hv).2 h
   rw[walkF_cons,if_neg (by omega),hn]
   exact ih fun y hy=>hl y (by simp[hy])
theorem mer_mem {g:GrD} {f:FoD} {e:EdD}:e∈(merG g f).2.2↔ ∃d∈g.2.2,plE f d=e:=by
 show e∈srt cmpE (g.2.2.map (plE f))↔_
 rw[(srt_spec cmpE_ord _).2,List.mem_map]
theorem mer_hom (g:GrD) (f:FoD):HomE g.2.2 (merG g f).2.2 (plF f):=fun e he=>mer_mem.2 ⟨e,he,rfl⟩
theorem plF_zero {f:FoD} (h:0≤f.1∧f.1<f.2):plF f 0=0:=by
 unfold plF
 rw[if_neg (by omega),if_neg (by omega)]
theorem HomE.comp {es es' es'':List EdD} {f g:Int→Int} (h:HomE es es' f) (k:HomE es' es'' g):HomE es es'' (fun v=>g (f v)):=fun e he=>k _ (h e he)
theorem fol_hom: ∀(n:Nat) (g:GrD),grB g=true→ ∃f,HomE g.2.2 (folF n g).2.2 f∧f 0=0
 | 0,g,_=>⟨id,fun e he=>he,rfl⟩
 | n+1,g,hg=>by
   rcases e:foL g.2.2 with _ | ⟨f,l⟩
   ·rw[folF_nil e]
    exact⟨id,fun e he=>he,rfl⟩
   ·rw[folF_cons e]
    have hf:=foL_ok hg (f:=f) (by rw[e];simp)
    obtain⟨k,hk,h0⟩:=fol_hom n (merG g f) (grB_merG hg hf)
    exact⟨_,(mer_hom g f).comp hk,by rw[plF_zero ⟨hf.1,hf.2.1⟩];exact h0⟩
theorem folF_rk: ∀(n:Nat) (g:GrD),(folF n g).1=g.1
 | 0,_=>rfl
 | n+1,g=>by
   rcases e:foL g.2.2 with _ | ⟨f,l⟩
   ·rw[folF_nil e]
   ·rw[folF_cons e,folF_rk n];rfl
theorem core_fol {g:GrD} (hg:grB g=true):coreG (folA g)=coreG g:=by
 unfold coreG
 rw[folA_fol (folA_ok hg)]
theorem coreG_rk {g:GrD} (hg:grB g=true):(coreG g).1=g.1:=by
 obtain⟨s,hs,_⟩:=Sub.core (folA_ok hg)
 rw[core_fol hg] at hs
 exact hs.rk.trans (folF_rk _ g)
theorem loop_up {g X:GrD} (hg:grB g=true) (hf:Fol g.2.2) (hX:grB X=true) {f:Int→Int} (H:HomE g.2.2 X.2.2 f) (h0:f 0=0) {w:List Int} (hw: ∀x∈w,Lt3 x) (hn:NoB w) (h:walkF g.2.2 0 w=0):walkF (coreG X).2.2 0 w=0:=by
 have hl: ∀x∈w,-3≤x∧x≤3:=fun x hx=>(hw x hx).b3
 have p:=Pth.of_walk hg hf hl (u:=0) (by omega)
 rw[h] at p
 obtain⟨k,hk,k0⟩:=fol_hom X.2.1.toNat X hX
 have p2:=(p.map H).map hk
 rw[h0,k0] at p2
 have hF:=folA_ok hX
 obtain⟨gF,fF⟩:=foldB_parts hF
 have h1:walkF (folA X).2.2 0 w=0:=Pth.walk gF fF hl p2
 obtain⟨s,hs,hs0⟩:=Sub.core hF
 rw[core_fol hX] at hs
 have hsz:=(grB_parts (coreB_grB (coreB_coreG hX))).2.1
 refine hs.lp 0 w (by omega) (by omega) .base hl hn ?_
 rw[hs0]
 exact h1
def lfF (f:FoD) (i:Int):Int:=if i<f.2 then i else i+1
theorem mer_fac {g:GrD} {f:FoD} (hf:0≤f.1∧f.1<f.2) {es:List EdD} {k:Int→Int} (H:HomE g.2.2 es k) (he:k f.1=k f.2):HomE (merG g f).2.2 es (fun i=>k (lfF f i))∧k (lfF f 0)=k 0:=by
 have key: ∀v,k (lfF f (plF f v))=k v:=fun v=>by
  unfold plF
  by_cases q:v=f.2
  ·rw[if_pos q,q,←he]
   unfold lfF
   rw[if_pos hf.2]
  ·rw[if_neg q]
   by_cases q2:f.2<v
   ·rw[if_pos q2]
    unfold lfF
    rw[if_neg (by omega),Int.sub_add_cancel]
   ·rw[if_neg q2]
    unfold lfF
    rw[if_pos (by omega)]
 refine⟨fun e he2=> ?_,by unfold lfF;rw[if_pos (by omega)]⟩
 obtain⟨d,hd,rfl⟩:=mer_mem.1 he2
 have:=H d hd
 show(k (lfF f (plF f d.1)),d.2.1,k (lfF f (plF f d.2.2)))∈es
 rw[key,key]
 exact this
theorem fold_eq {es:List EdD} (hf:Fol es) {u x v v':Int} (h:(u,x,v)∈es) (h':(u,x,v')∈es):v=v':=Classical.byContradiction fun q=>by
 have:=fol_mem hf h h' (fun e=>q (by injection e with _ e;injection e))
 unfold clash at this
 simp at this
theorem fold_eq2 {es:List EdD} (hf:Fol es) {u u' x v:Int} (h:(u,x,v)∈es) (h':(u',x,v)∈es):u=u':=Classical.byContradiction fun q=>by
 have:=fol_mem hf h h' (fun e=>q (by injection e))
 unfold clash at this
 simp at this
theorem minmax_eq {k:Int→Int} {a b:Int} (h:k a=k b):k (min a b)=k (max a b):=by
 rcases Int.le_total a b with q | q
 ·rw[Int.min_eq_left q,Int.max_eq_right q];exact h
 ·rw[Int.min_eq_right q,Int.max_eq_left q];exact h.symm
theorem fo_same {g:GrD} {es:List EdD} (hfo:Fol es) {k:Int→Int} (H:HomE g.2.2 es k) {f:FoD} (hf:f∈foL g.2.2):k f.1=k f.2:=by
 obtain⟨i,j,hi,hj,hm⟩:=foL_from hf
 have h1:=H _ (List.getElem_mem (show i<g.2.2.length by omega))
 have h2:=H _ (List.getElem_mem hj)
 generalize g.2.2[i]'(by omega)=a at*
 generalize g.2.2[j]=b at*
 obtain⟨a1,a2,a3⟩:=a
 obtain⟨b1,b2,b3⟩:=b
 simp only at h1 h2
 unfold fo2 at hm
 rcases List.mem_append.1 hm with hm | hm
 ·split at hm
  ·rename_i q
   simp only at q
   obtain⟨rfl,rfl⟩:=q
   rw[List.mem_singleton.1 hm]
   exact minmax_eq (fold_eq hfo h1 h2)
  ·cases hm
 ·split at hm
  ·rename_i q
   simp only at q
   obtain⟨rfl,rfl⟩:=q
   rw[List.mem_singleton.1 hm]
   exact minmax_eq (fold_eq2 hfo h1 h2)
  ·cases hm
theorem fol_fac {es:List EdD} (hfo:Fol es): ∀(n:Nat) (g:GrD),grB g=true→ ∀k,HomE g.2.2 es k→ ∃k',HomE (folF n g).2.2 es k'∧k' 0=k 0
 | 0,_,_,k,H=>⟨k,H,rfl⟩
 | n+1,g,hg,k,H=>by
   rcases e:foL g.2.2 with _ | ⟨f,l⟩
   ·rw[folF_nil e]
    exact⟨k,H,rfl⟩
   ·rw[folF_cons e]
    have hfm:f∈foL g.2.2:=by rw[e];simp
    have hf:=foL_ok hg hfm
    obtain⟨H2,h0⟩:=mer_fac (g:=g) ⟨hf.1,hf.2.1⟩ H (fo_same hfo H hfm)
    obtain⟨k',hk,hk0⟩:=fol_fac hfo n (merG g f) (grB_merG hg hf) _ H2
    exact⟨k',hk,hk0.trans h0⟩
theorem loop_down {X h:GrD} (hX:grB X=true) (gh:grB h=true) (fh:Fol h.2.2) {k:Int→Int} (H:HomE X.2.2 h.2.2 k) (h0:k 0=0) {w:List Int} (hw: ∀x∈w,Lt3 x) (hl:walkF (coreG X).2.2 0 w=0):walkF h.2.2 0 w=0:=by
 have h3: ∀x∈w,-3≤x∧x≤3:=fun x hx=>(hw x hx).b3
 have hF:=folA_ok hX
 obtain⟨gF,fF⟩:=foldB_parts hF
 obtain⟨s,hs,hs0⟩:=Sub.core hF
 rw[core_fol hX] at hs
 have hgc:=coreB_grB (coreB_coreG hX)
 have hsz:=(grB_parts hgc).2.1
 have h1:=hs.walk hgc w 0 (by omega) (by omega) h3 (by omega)
 rw[hl,hs0] at h1
 have p:=Pth.of_walk gF fF h3 (u:=0) (by omega)
 rw[h1] at p
 obtain⟨k',hk,hk0⟩:=fol_fac fh X.2.1.toNat X hX k H
 have p2:=p.map hk
 rw[hk0,h0] at p2
 exact Pth.walk gh fh h3 p2
end Go.Proofs.YtnjpoljbagfdnaaGreat
namespace Go.Proofs.YtnjpoljbagfdnaaGreat
set_option maxRecDepth 20000
set_option linter.unusedVariables false
set_option linter.unusedSimpArgs false
open Go.RowKit
theorem sum_one {U:List Int} (h:U.Nodup) (a:Int):(U.map fun u=>if a=u then 1 else 0).sum=if a∈U then 1 else 0:=by
 induction U with
 | nil=>rfl
 | cons x U ih=>
   obtain⟨h1,h2⟩:=List.nodup_cons.1 h
   rw[List.map_cons,List.sum_cons,ih h2]
   by_cases q:a=x
   ·subst q
    rw[if_pos rfl,if_neg h1,if_pos List.mem_cons_self]
   ·rw[if_neg q]
    by_cases q2:a∈U
    ·rw[if_pos q2,if_pos (List.mem_cons_of_mem _ q2)]
    ·rw[if_neg q2,if_neg (by simp[q,q2])]
theorem sum_add2 {α:Type} (f g:α→Nat): ∀L:List α,(L.map fun x=>f x+g x).sum=(L.map f).sum+(L.map g).sum
 | []=>rfl
 | x::L=>by
   simp only[List.map_cons,List.sum_cons]
   rw[sum_add2 f g L]
   omega
def endU (U:List Int) (e:EdD):Nat:=(if e.1∈U then 1 else 0)+if e.2.2∈U then 1 else 0
theorem deg_sum {U:List Int} (h:U.Nodup): ∀L:List EdD,(U.map fun u=>degL L u).sum=(L.map (endU U)).sum
 | []=>by
   have:(U.map fun u=>degL ([]:List EdD) u)=List.replicate U.length 0:=by
    rw[List.eq_replicate_iff]
    exact⟨by simp,fun x hx=>by obtain⟨u,_,rfl⟩:=List.mem_map.1 hx;rfl⟩
   rw[this,sum_rep]
   simp
 | e::L=>by
   have e1:(U.map fun u=>degL (e::L) u)=U.map fun u=>degE u e+degL L u:=List.map_congr_left fun u _=>degL_cons e L u
   rw[e1,sum_add2,deg_sum h L,List.map_cons,List.sum_cons]
   congr 1
   unfold endU
   rw[←sum_one h,←sum_one h,←sum_add2]
   rfl
theorem sum_le2 {L:List EdD} {U:List Int}:(L.map (endU U)).sum≤2*L.length:=by
 induction L with
 | nil=>simp
 | cons e L ih=>
   rw[List.map_cons,List.sum_cons,List.length_cons]
   have:endU U e≤2:=by unfold endU;split<;>split<;>omega
   omega
theorem sum_lt2 {L:List EdD} {U:List Int} (h: ∃e∈L,endU U e≤1):(L.map (endU U)).sum<2*L.length:=by
 induction L with
 | nil=>obtain⟨e,he,_⟩:=h;cases he
 | cons d L ih=>
   rw[List.map_cons,List.sum_cons,List.length_cons]
   have h2:endU U d≤2:=by unfold endU;split<;>split<;>omega
   obtain⟨e,he,h1⟩:=h
   rcases List.mem_cons.1 he with rfl | he
   ·have:=sum_le2 (L:=L) (U:=U)
    omega
   ·have:=ih ⟨e,he,h1⟩
    omega
theorem sum_ge2 {U:List Int} {f:Int→Nat} (h: ∀u∈U,2≤f u):2*U.length≤(U.map f).sum:=by
 induction U with
 | nil=>simp
 | cons u U ih=>
   rw[List.map_cons,List.sum_cons,List.length_cons]
   have h1:=h u (by simp)
   have h2:=ih fun x hx=>h x (by simp[hx])
   omega
theorem incl_home {g h:GrD} (hi:inclS g h=true):HomE g.2.2 h.2.2 (imgW g h):=fun e he=>by
 obtain⟨hx,hy,hr⟩:=incl_parts hi
 obtain⟨gx,fx⟩:=foldB_parts (core_fold hx)
 obtain⟨gy,fy⟩:=foldB_parts (core_fold hy)
 have hr3:=(grB_parts gx).1
 have hre:=edge_of_gr gx he
 have n1:=nextV_out gx fx he
 have hm:=core_all hx hre.1
 have hm2:=core_all hx hre.2.2
 obtain⟨s1,s2⟩:=stp_in hi hm (l:=e.2.1) (by omega) (by rw[n1];exact hre.2.2.1)
 rw[n1] at s2
 rcases(next_iff gy fy (v:=imgW g h e.1) (x:=e.2.1) (y:=imgW g h e.2.2) (by omega) (imgW_range hi hm2).1).1 s2.symm with q | q
 ·exact q.2
 ·omega
theorem emb_eq {g h:GrD} (hi:inclS g h=true) (hinj: ∀u v,(0≤u∧u<g.2.1)→(0≤v∧v<g.2.1)→imgW g h u=imgW g h v→u=v)
  (hall: ∀e∈h.2.2,∃d∈g.2.2,(imgW g h d.1,d.2.1,imgW g h d.2.2)=e):g=h:=by
 obtain⟨hx,hy,hr⟩:=incl_parts hi
 obtain⟨gx,fx⟩:=foldB_parts (core_fold hx)
 obtain⟨gy,fy⟩:=foldB_parts (core_fold hy)
 have hsz:=(grB_parts gx).2.1
 have step: ∀ {u x:Int},(0≤u∧u<g.2.1)→(-3≤x∧x≤3)→0≤nextV h.2.2 (imgW g h u) x→(0≤nextV g.2.2 u x∧nextV g.2.2 u x<g.2.1)∧imgW g h (nextV g.2.2 u x)=nextV h.2.2 (imgW g h u) x:=fun {u x} hu hx3 h0=>by
  rcases(next_iff gy fy (v:=imgW g h u) (x:=x) (y:=nextV h.2.2 (imgW g h u) x) hx3 h0).1 rfl with ⟨q1,q2⟩ | ⟨q1,q2⟩
  ·obtain⟨d,hd,hde⟩:=hall _ q2
   have hrd:=edge_of_gr gx hd
   injection hde with e1 e2
   injection e2 with e2 e3
   have:=hinj _ _ hrd.1 hu e1
   have hn:=nextV_out gx fx hd
   rw[this,e2] at hn
   rw[hn]
   exact⟨hrd.2.2,e3⟩
  ·obtain⟨d,hd,hde⟩:=hall _ q2
   have hrd:=edge_of_gr gx hd
   injection hde with e1 e2
   injection e2 with e2 e3
   have:=hinj _ _ hrd.2.2 hu e3
   have hn:=nextV_in gx fx hd
   rw[this,e2,Int.neg_neg] at hn
   rw[hn]
   exact⟨hrd.1,e1⟩
 have walk: ∀(w:List Int) (u:Int),(0≤u∧u<g.2.1)→(∀x∈w,-3≤x∧x≤3)→0≤walkF h.2.2 (imgW g h u) w→(0≤walkF g.2.2 u w∧walkF g.2.2 u w<g.2.1)∧imgW g h (walkF g.2.2 u w)=walkF h.2.2 (imgW g h u) w:=by
  intro w
  induction w with
  | nil=>intro u hu _ _;exact⟨hu,rfl⟩
  | cons x w ih=>
    intro u hu hl h0
    rw[walkF_cons] at h0⊢
    split at h0
    ·omega
    ·rename_i q
     obtain⟨s1,s2⟩:=step hu (hl x (by simp)) (Int.not_lt.1 q)
     rw[walkF_cons,if_neg (by omega),if_neg q,←s2]
     rw[←s2] at h0
     exact ih _ s1 (fun y hy=>hl y (by simp[hy])) h0
 refine core_uniq hx hy hr fun w hw hn=>⟨fun e=> ?_,fun e=> ?_⟩
 ·have p:=(Pth.of_walk gx fx (u:=0) (fun x hx=>(hw x hx).b3) (by omega)).map (incl_home hi)
  rw[e,incl_zero gx] at p
  exact Pth.walk gy fy (fun x hx=>(hw x hx).b3) p
 ·have z:=incl_zero (b:=h) gx
  obtain⟨w1,w2⟩:=walk w 0 (by omega) (fun x hx=>(hw x hx).b3) (by rw[z];omega)
  have e2:walkF h.2.2 (imgW g h 0) w=0:=by rw[z];exact e
  exact hinj _ _ w1 (by omega) (w2.trans (e2.trans z.symm))
theorem emb_chi {g h:GrD} (hi:inclS g h=true) (hinj: ∀u v,(0≤u∧u<g.2.1)→(0≤v∧v<g.2.1)→imgW g h u=imgW g h v→u=v) (hne:g≠h):chi g<chi h:=by
 obtain⟨hx,hy,hr⟩:=incl_parts hi
 obtain⟨gx,fx⟩:=foldB_parts (core_fold hx)
 obtain⟨gy,fy⟩:=foldB_parts (core_fold hy)
 have hsg:=(grB_parts gx).2.1
 have hsh:=(grB_parts gy).2.1
 have hH:=incl_home hi
 let ph:EdD→EdD:=fun e=>(imgW g h e.1,e.2.1,imgW g h e.2.2)
 let Ei:=g.2.2.map ph
 let Vi:=(rng g.2.1.toNat).map (imgW g h)
 let U:=(rng h.2.1.toNat).filter fun v=>decide (v∉Vi)
 let Ep:=h.2.2.filter fun e=>decide (e∉Ei)
 have hrng: ∀ {n:Nat} {v:Int},v∈rng n↔0≤v∧v<n:=fun {n v}=>by
  unfold rng
  rw[List.mem_map]
  constructor
  ·rintro⟨k,hk,rfl⟩
   have:=List.mem_range.1 hk
   omega
  ·intro hv
   exact⟨v.toNat,List.mem_range.2 (by omega),by omega⟩
 have hVm: ∀v,v∈Vi↔ ∃u,(0≤u∧u<g.2.1)∧imgW g h u=v:=fun v=>by
  simp only[Vi]
  rw[List.mem_map]
  constructor
  ·rintro⟨u,hu,e⟩
   have:=hrng.1 hu
   exact⟨u,by omega,e⟩
  ·rintro⟨u,hu,e⟩
   exact⟨u,hrng.2 (by omega),e⟩
 have hVn:Vi.Nodup:=by
  simp only[Vi]
  unfold List.Nodup
  rw[List.pairwise_map]
  refine(rng_nodup g.2.1.toNat).imp_of_mem fun {a b} ha hb hab e=>hab ?_
  have h1:=hrng.1 ha
  have h2:=hrng.1 hb
  exact hinj a b (by omega) (by omega) e
 have hEn:Ei.Nodup:=by
  simp only[Ei]
  unfold List.Nodup
  rw[List.pairwise_map]
  refine(gr_nodup gx).2.imp_of_mem fun {a b} ha hb hab e=>hab ?_
  have h1:=edge_of_gr gx ha
  have h2:=edge_of_gr gx hb
  simp only[ph] at e
  injection e with e1 e2
  injection e2 with e2 e3
  exact Prod.ext (hinj _ _ h1.1 h2.1 e1) (Prod.ext e2 (hinj _ _ h1.2.2 h2.2.2 e3))
 have hVsub: ∀v∈Vi,v∈rng h.2.1.toNat:=fun v hv=>by
  obtain⟨u,hu,rfl⟩:=(hVm v).1 hv
  have:=imgW_range hi (core_all hx hu)
  exact hrng.2 (by omega)
 have hEsub: ∀e∈Ei,e∈h.2.2:=fun e he=>by
  obtain⟨d,hd,rfl⟩:=List.mem_map.1 he
  exact hH d hd
 have hcV:U.length+g.2.1.toNat=h.2.1.toNat:=by
  have hsp:=len_split (fun v:Int=>decide (v∉Vi)) (rng h.2.1.toNat)
  have hp:((rng h.2.1.toNat).filter fun v=> !decide (v∉Vi)).Perm Vi:=by
   refine(List.perm_ext_iff_of_nodup ((rng_nodup _).filter _) hVn).2 fun v=> ?_
   rw[List.mem_filter,Bool.not_eq_true',decide_eq_false_iff_not,Classical.not_not]
   exact⟨fun q=>q.2,fun q=>⟨hVsub v q,q⟩⟩
  have hl:Vi.length=g.2.1.toNat:=by simp only[Vi];rw[List.length_map,rng_len]
  rw[hp.length_eq,hl,rng_len] at hsp
  exact hsp.symm
 have hcE:Ep.length+g.2.2.length=h.2.2.length:=by
  have hsp:=len_split (fun e:EdD=>decide (e∉Ei)) h.2.2
  have hp:(h.2.2.filter fun e=> !decide (e∉Ei)).Perm Ei:=by
   refine(List.perm_ext_iff_of_nodup ((gr_nodup gy).2.filter _) hEn).2 fun e=> ?_
   rw[List.mem_filter,Bool.not_eq_true',decide_eq_false_iff_not,Classical.not_not]
   exact⟨fun q=>q.2,fun q=>⟨hEsub e q,q⟩⟩
  have hl:Ei.length=g.2.2.length:=by simp only[Ei];rw[List.length_map]
  rw[hp.length_eq,hl] at hsp
  exact hsp.symm
 have hEp0:Ep≠ []:=fun q=>hne (emb_eq hi hinj fun e he=>Classical.byContradiction fun hno=>by
  have:e∈Ep:=List.mem_filter.2 ⟨he,decide_eq_true fun hm=>by
   obtain⟨d,hd,hde⟩:=List.mem_map.1 hm
   exact hno ⟨d,hd,hde⟩⟩
  rw[q] at this
  cases this)
 have hlt:U.length<Ep.length:=by
  by_cases hU:U= []
  ·rw[hU]
   exact List.length_pos_iff.2 hEp0
  ·have hUn:U.Nodup:=(rng_nodup _).filter _
   have hz:(0:Int)∈Vi:=(hVm 0).2 ⟨0,by omega,incl_zero gx⟩
   have himg: ∀e∈Ei,e.1∈Vi∧e.2.2∈Vi:=fun e he=>by
    obtain⟨d,hd,rfl⟩:=List.mem_map.1 he
    have:=edge_of_gr gx hd
    exact⟨(hVm _).2 ⟨_,this.1,rfl⟩,(hVm _).2 ⟨_,this.2.2,rfl⟩⟩
   have hUm: ∀u,u∈U↔(0≤u∧u<h.2.1)∧u∉Vi:=fun u=>by
    simp only[U]
    rw[List.mem_filter,decide_eq_true_eq,hrng]
    constructor
    ·rintro⟨a,b⟩;exact⟨by omega,b⟩
    ·rintro⟨a,b⟩;exact⟨by omega,b⟩
   have hdeg: ∀u∈U,2≤degL Ep u:=fun u hu=>by
    obtain⟨h1,h2⟩:=(hUm u).1 hu
    have hu0:u≠0:=fun q=>h2 (q▸hz)
    have:=core_deg hy (v:=u) ⟨by omega,h1.2⟩
    have e:degL Ep u=degL h.2.2 u:=by
     simp only[Ep]
     have key: ∀L:List EdD,(∀e∈L,e∈Ei→degE u e=0)→degL (L.filter fun e=>decide (e∉Ei)) u=degL L u:=by
      intro L
      induction L with
      | nil=>intro _;rfl
      | cons d L ih=>
        intro hL
        have h3:=ih fun e he=>hL e (by simp[he])
        rw[List.filter_cons]
        by_cases q:d∈Ei
        ·rw[if_neg (by simp[q]),h3,degL_cons,hL d (by simp) q]
         omega
        ·rw[if_pos (by simp[q]),degL_cons,degL_cons,h3]
     refine key h.2.2 fun e _ he=>degE_zero.2 ?_
     have:=himg e he
     exact⟨fun q=>h2 (q▸this.1),fun q=>h2 (q▸this.2)⟩
    rw[e]
    exact this
   have h1:=sum_ge2 hdeg
   rw[deg_sum hUn] at h1
   have h2:(Ep.map (endU U)).sum<2*Ep.length:=by
    refine sum_lt2 (Classical.byContradiction fun hno=>hU ?_)
    have hboth: ∀e∈Ep,e.1∈U∧e.2.2∈U:=fun e he=>by
     refine Classical.byContradiction fun q=>hno ⟨e,he,?_⟩
     unfold endU
     by_cases a:e.1∈U
     ·by_cases b:e.2.2∈U
      ·exact absurd ⟨a,b⟩ q
      ·rw[if_pos a,if_neg b]
       omega
     ·rw[if_neg a]
      split<;>omega
    have hclo: ∀v,0≤v∧v<h.2.1→v∈Vi:=fun v hv=>by
     refine conn_of_closed (S:=fun v=>v∈Vi) hz (fun e he=> ?_) (core_conn hy hv)
     by_cases q:e∈Ei
     ·have:=himg e q
      exact⟨fun _=>this.2,fun _=>this.1⟩
     ·have:=hboth e (List.mem_filter.2 ⟨he,decide_eq_true q⟩)
      exact⟨fun a=>absurd a ((hUm _).1 this.1).2,fun a=>absurd a ((hUm _).1 this.2).2⟩
    rcases hUe:U with _ | ⟨u,l⟩
    ·rfl
    ·have hu:u∈U:=by rw[hUe];simp
     obtain⟨a,b⟩:=(hUm u).1 hu
     exact absurd (hclo u a) b
   omega
 unfold chi
 omega
end Go.Proofs.YtnjpoljbagfdnaaGreat
namespace Go.Proofs.YtnjpoljbagfdnaaGreat
set_option maxRecDepth 20000
set_option linter.unusedVariables false
set_option linter.unusedSimpArgs false
open Go.RowKit
theorem add_self (l:List GrD) (x:GrD):x∈addGs l x:=by
 unfold addGs
 split
 ·rename_i h
  unfold inG at h
  exact of_decide_eq_true h
 ·simp
theorem add_sub {l:List GrD} {x y:GrD} (h:y∈l):y∈addGs l x:=by
 unfold addGs
 split
 ·exact h
 ·simp[h]
theorem add_of {l:List GrD} {x y:GrD} (h:y∈addGs l x):y∈l∨y=x:=by
 unfold addGs at h
 split at h
 ·exact .inl h
 ·simpa using h
theorem quoV_sub {g:GrD} {u:Nat} {out:List GrD} {y:GrD} (h:y∈out): ∀j,y∈quoV g u out j
 | 0=>h
 | j+1=>add_sub (quoV_sub h j)
theorem quoV_in {g:GrD} {u:Nat} {out:List GrD} {k:Nat}: ∀j,k<j→coreG (merG g ((u:Int),((u+1+k:Nat):Int)))∈quoV g u out j
 | 0,h=>absurd h (by omega)
 | j+1,h=>by
   rcases Nat.lt_or_ge k j with q | q
   ·exact add_sub (quoV_in j q)
   ·obtain rfl:k=j:=by omega
    exact add_self _ _
theorem quoV_of {g:GrD} {u:Nat} {out:List GrD} {y:GrD}: ∀j,y∈quoV g u out j→y∈out∨ ∃k,k<j∧y=coreG (merG g ((u:Int),((u+1+k:Nat):Int)))
 | 0,h=> .inl h
 | j+1,h=>by
   rcases add_of h with h | h
   ·rcases quoV_of j h with h | ⟨k,hk,e⟩
    ·exact .inl h
    ·exact .inr ⟨k,by omega,e⟩
   ·exact .inr ⟨j,by omega,h⟩
theorem quoU_in {g:GrD} {u v:Nat} (h:u<v) (hv:v<g.2.1.toNat): ∀n,u<n→coreG (merG g ((u:Int),(v:Int)))∈quoU g n
 | 0,h=>absurd h (by omega)
 | n+1,hn=>by
   rcases Nat.lt_or_ge u n with q | q
   ·exact quoV_sub (quoU_in h hv n q) _
   ·obtain rfl:u=n:=by omega
    obtain⟨k,rfl⟩: ∃k,v=u+1+k:=⟨v-(u+1),by omega⟩
    exact quoV_in _ (by omega)
theorem quoU_of {g:GrD} {y:GrD}: ∀n,n≤g.2.1.toNat→y∈quoU g n→ ∃u v:Nat,u<v∧(v:Int)<g.2.1∧y=coreG (merG g ((u:Int),(v:Int)))
 | 0,_,h=>by cases h
 | n+1,hn,h=>by
   rcases quoV_of _ h with h | ⟨k,hk,e⟩
   ·exact quoU_of n (by omega) h
   ·exact⟨n,n+1+k,by omega,by omega,e⟩
theorem pth_pos {g:GrD} (hg:grB g=true) {u v:Int} {w:List Int} (hu:0≤u) (p:Pth g.2.2 u w v):0≤v:=by
 induction p with
 | nil u=>exact hu
 | cons h p ih=>
   refine ih ?_
   rcases h with ⟨_,h2⟩ | ⟨_,h2⟩
   ·exact(edge_of_gr hg h2).2.2.1
   ·exact(edge_of_gr hg h2).1.1
theorem incl_loop {a b:GrD} (h:inclS a b=true) {w:List Int} (hw: ∀x∈w,Lt3 x) (hl:walkF a.2.2 0 w=0):walkF b.2.2 0 w=0:=by
 have ha:=coreB_grB (incl_parts h).1
 have hs:=(grB_parts ha).2.1
 have:=incl_hom h w 0 (fun x hx=>(hw x hx).b3) (core_all (incl_parts h).1 (by omega)) (by omega)
 rw[incl_zero ha,hl,incl_zero ha] at this
 exact this
theorem incl_refl {a:GrD} (h:coreB a=true):inclS a a=true:=incl_of_loops h h rfl fun _ _ _ q=>q
theorem incl_trans {a b c:GrD} (h:inclS a b=true) (k:inclS b c=true):inclS a c=true:=
 incl_of_loops (incl_parts h).1 (incl_parts k).2.1 ((incl_parts h).2.2.trans (incl_parts k).2.2) fun _ hw _ hl=>incl_loop k hw (incl_loop h hw hl)
theorem quo_up {g:GrD} (hg:coreB g=true) {u v:Nat} (h:u<v) (hv:(v:Int)<g.2.1):inclS g (coreG (merG g ((u:Int),(v:Int))))=true:=by
 obtain⟨gg,fg⟩:=foldB_parts (core_fold hg)
 have hX:=grB_merG (g:=g) (f:=((u:Int),(v:Int))) gg (by simp only;omega)
 exact incl_of_loops hg (coreB_coreG hX) (coreG_rk hX).symm fun w hw hn hl=>loop_up gg fg hX (mer_hom g _) (plF_zero (by simp only;omega)) hw hn hl
theorem quot_up {g q:GrD} (h:q∈quotF g):inclS g q=true:=by
 unfold quotF at h
 split at h
 ·rename_i hg
  obtain⟨u,v,h1,h2,rfl⟩:=quoU_of _ (Nat.le_refl _) h
  exact quo_up hg h1 h2
 ·cases h
theorem ovL_sub: ∀ {l o o':List GrD},ovL o l=some o'→ ∀y,y∈o∨y∈l→y∈o'
 | [],o,o',h,y,hy=>by
   simp[ovL] at h
   subst h
   simpa using hy
 | x::xs,o,o',h,y,hy=>by
   unfold ovL at h
   split at h
   ·rename_i q
    refine ovL_sub h y ?_
    rcases hy with hy | hy
    ·exact .inl hy
    ·rcases List.mem_cons.1 hy with rfl | hy
     ·unfold inG at q
      exact .inl (of_decide_eq_true q)
     ·exact .inr hy
   ·split at h
    ·cases h
    ·refine ovL_sub h y ?_
     rcases hy with hy | hy
     ·exact .inl (by simp[hy])
     ·rcases List.mem_cons.1 hy with rfl | hy
      ·exact .inl (by simp)
      ·exact .inr hy
theorem ovL_all {P:GrD→Prop}: ∀ {l o o':List GrD},ovL o l=some o'→(∀y∈o,P y)→(∀y∈l,P y)→ ∀y∈o',P y
 | [],o,o',h,ho,_=>by
   simp[ovL] at h
   subst h
   exact ho
 | x::xs,o,o',h,ho,hl=>by
   unfold ovL at h
   split at h
   ·exact ovL_all h ho fun y hy=>hl y (by simp[hy])
   ·split at h
    ·cases h
    ·refine ovL_all h (fun y hy=> ?_) fun y hy=>hl y (by simp[hy])
     rcases List.mem_append.1 hy with hy | hy
     ·exact ho y hy
     ·exact hl y (by simp at hy;simp[hy])
theorem ovR_sub: ∀ {f i:Nat} {o o':List GrD},ovR f o i=some o'→ ∀y∈o,y∈o'
 | 0,i,o,o',h,y,hy=>by
   simp[ovR] at h
   subst h
   exact hy
 | f+1,i,o,o',h,y,hy=>by
   unfold ovR at h
   split at h
   ·split at h
    ·cases h
    ·rename_i o2 e
     exact ovR_sub h y (ovL_sub e y (.inl hy))
   ·injection h with h
    subst h
    exact hy
theorem ovR_all {g:GrD}: ∀ {f i:Nat} {o o':List GrD},ovR f o i=some o'→(∀y∈o,inclS g y=true)→ ∀y∈o',inclS g y=true
 | 0,i,o,o',h,ho=>by
   simp[ovR] at h
   subst h
   exact ho
 | f+1,i,o,o',h,ho=>by
   unfold ovR at h
   split at h
   ·rename_i hi
    split at h
    ·cases h
    ·rename_i o2 e
     refine ovR_all h (ovL_all e ho fun y hy=> ?_)
     rw[List.getElem?_eq_getElem hi] at hy
     exact incl_trans (ho _ (List.getElem_mem hi)) (quot_up hy)
   ·injection h with h
    subst h
    exact ho
theorem over_all {g:GrD} (h:(overF g).2=true):coreB g=true∧(∀q∈quotF g,q∈(overF g).1):=by
 unfold overF at h⊢
 split at h
 ·rename_i hg
  rw[if_pos hg]
  rcases e:ovR 41 [g] 0 with _ | o
  ·rw[e] at h;cases h
  ·refine⟨hg.1,fun q hq=> ?_⟩
   show q∈o
   rw[ovR_step (by simp)] at e
   simp only[List.getElem_cons_zero] at e
   rcases e2:ovL [g] (quotF g) with _ | o2
   ·rw[e2] at e;cases e
   ·rw[e2] at e
    exact ovR_sub e q (ovL_sub e2 q (.inr hq))
 ·cases h
theorem over_up {g:GrD}: ∀q∈(overF g).1,inclS g q=true:=fun q hq=>by
 unfold overF at hq
 split at hq
 ·rename_i hg
  rcases e:ovR 41 [g] 0 with _ | o
  ·rw[e] at hq;cases hq
  ·rw[e] at hq
   exact ovR_all e (fun y hy=>by rw[List.mem_singleton.1 hy];exact incl_refl hg.1) q hq
 ·cases hq
theorem mer_new {g:GrD} (hc:coreB g=true) {u v:Nat} (huv:u<v) (hvn:(v:Int)<g.2.1):coreG (merG g ((u:Int),(v:Int)))≠g:=fun e=>by
 obtain⟨gg,fg⟩:=foldB_parts (core_fold hc)
 have hs:=(grB_parts gg).2.1
 have hX:=grB_merG (g:=g) (f:=((u:Int),(v:Int))) gg (by simp only;omega)
 have hu:=core_all hc (v:=(u:Int)) (by omega)
 have hv:=core_all hc (v:=(v:Int)) (by omega)
 obtain⟨k,hk,k0⟩:=fol_hom (merG g ((u:Int),(v:Int))).2.1.toNat _ hX
 have hF:=folA_ok hX
 obtain⟨gF,fF⟩:=foldB_parts hF
 have hsF:=(grB_parts gF).2.1
 have Lu: ∀x∈wdO g (u:Int),Lt3 x:=lt3_letters gg (wd_let gg hu)
 have Lv: ∀x∈wdO g (v:Int),Lt3 x:=lt3_letters gg (wd_let gg hv)
 have Li: ∀x∈invN (wdO g (v:Int)),Lt3 x:=lt3_letters gg (inv_letters (wd_let gg hv))
 have La: ∀x∈wdO g (u:Int)++invN (wdO g (v:Int)),Lt3 x:=fun x hx=>by
  rcases List.mem_append.1 hx with h | h
  ·exact Lu x h
  ·exact Li x h
 have P0:plF ((u:Int),(v:Int)) 0=0:=plF_zero (by simp only;omega)
 have pu:=((Pth.of_walk gg fg (u:=0) (wd_let3 gg hu) (by rw[wd_walk gg hu];omega)).map (mer_hom g ((u:Int),(v:Int)))).map hk
 have pv:=((Pth.of_walk gg fg (u:=0) (wd_let3 gg hv) (by rw[wd_walk gg hv];omega)).map (mer_hom g ((u:Int),(v:Int)))).map hk
 rw[wd_walk gg hu,P0,k0] at pu
 rw[wd_walk gg hv,P0,k0] at pv
 have wu:=pu.walk gF fF (wd_let3 gg hu)
 have wv:=pv.walk gF fF (wd_let3 gg hv)
 have Eu:plF ((u:Int),(v:Int)) (u:Int)=u:=by
  unfold plF
  simp only
  rw[if_neg (by omega),if_neg (by omega)]
 have Ev:plF ((u:Int),(v:Int)) (v:Int)=u:=by
  unfold plF
  exact if_pos rfl
 rw[Eu] at wu
 rw[Ev] at wv
 have r0:0≤k (u:Int):=by
  have:=pth_pos gF (Int.le_refl _) pu
  rwa [Eu] at this
 have ru:=run_walk (g:=folA (merG g ((u:Int),(v:Int)))) (v:=0) (w:=wdO g (u:Int)) (by rw[wu];exact r0)
 have rv:=run_walk (g:=folA (merG g ((u:Int),(v:Int)))) (v:=0) (w:=wdO g (v:Int)) (by rw[wv];exact r0)
 rw[wu] at ru
 rw[wv] at rv
 have ok0:okS (folA (merG g ((u:Int),(v:Int)))) (0,[]):=⟨by simp only;omega,trivial⟩
 have ri:=run_inv gF fF ok0 Lv
 rw[rv,←ru,←runS_app] at ri
 have l1:=(loop_iff gF fF La (v:=0) (by omega) (u:=0) (by omega)).2 ri
 obtain⟨s,hS,hs0⟩:=Sub.core hF
 rw[core_fol hX] at hS
 have hcs:=(grB_parts (coreB_grB (coreB_coreG hX))).2.1
 have l2:=hS.lp 0 (redL [] (wdO g (u:Int)++invN (wdO g (v:Int)))) (by omega) (by omega) .base (fun x hx=>(red_lt3 La x hx).b3) (red_noB La) (by rw[hs0];exact l1)
 rw[e] at l2
 have l3:=(loop_iff gg fg La (v:=0) (by omega) (u:=0) (by omega)).1 l2
 have okg:okS g (0,[]):=⟨by simp only;omega,trivial⟩
 have ku:=run_walk (g:=g) (v:=0) (w:=wdO g (u:Int)) (by rw[wd_walk gg hu];omega)
 have kv:=run_walk (g:=g) (v:=0) (w:=wdO g (v:Int)) (by rw[wd_walk gg hv];omega)
 rw[wd_walk gg hu] at ku
 rw[wd_walk gg hv] at kv
 rw[runS_app,ku] at l3
 have oku:okS g ((u:Int),[]):=⟨by simp only;omega,trivial⟩
 have b1:=run_inv gg fg oku Li
 rw[l3,invN_inv,kv] at b1
 have b2:=congrArg Prod.fst b1
 simp only at b2
 omega
theorem over_found {g h:GrD} (ho:(overF g).2=true) (hi:inclS g h=true) (hr:rankF h≤rankF g) (hne:g≠h): ∃q∈(overF g).1,q≠g∧inclS q h=true:=by
 obtain⟨hc,hq⟩:=over_all ho
 have hh:=(incl_parts hi).2.1
 obtain⟨gg,fg⟩:=foldB_parts (core_fold hc)
 obtain⟨gh,fh⟩:=foldB_parts (core_fold hh)
 have h1: ¬ ∀u v,(0≤u∧u<g.2.1)→(0≤v∧v<g.2.1)→imgW g h u=imgW g h v→u=v:=fun hinj=>by
  have:=emb_chi hi hinj hne
  have a1:=rank_chi hc
  have a2:=rank_chi hh
  omega
 have h2: ∃u v:Nat,u<v∧(v:Int)<g.2.1∧imgW g h u=imgW g h v:=Classical.byContradiction fun q=>h1 fun u v hu hv e=>Classical.byContradiction fun ne=>by
  rcases Int.lt_or_gt_of_ne ne with l | l
  ·exact q ⟨u.toNat,v.toNat,by omega,by omega,by rw[Int.toNat_of_nonneg hu.1,Int.toNat_of_nonneg hv.1];exact e⟩
  ·exact q ⟨v.toNat,u.toNat,by omega,by omega,by rw[Int.toNat_of_nonneg hu.1,Int.toNat_of_nonneg hv.1];exact e.symm⟩
 obtain⟨u,v,huv,hv,e⟩:=h2
 have hX:=grB_merG (g:=g) (f:=((u:Int),(v:Int))) gg (by simp only;omega)
 refine⟨coreG (merG g ((u:Int),(v:Int))),hq _ ?_,mer_new hc huv hv,?_⟩
 ·unfold quotF
  rw[if_pos hc]
  exact quoU_in huv (by omega) _ (by omega)
 ·obtain⟨H,H0⟩:=mer_fac (g:=g) (f:=((u:Int),(v:Int))) (by simp only;omega) (incl_home hi) e
  exact incl_of_loops (coreB_coreG hX) hh ((coreG_rk hX).trans (incl_parts hi).2.2) fun w hw _ hl=>loop_down hX gh fh H (H0.trans (incl_zero gg)) hw hl
end Go.Proofs.YtnjpoljbagfdnaaGreat
namespace Go.Proofs.YtnjpoljbagfdnaaGreat
set_option maxRecDepth 20000
set_option linter.unusedVariables false
set_option linter.unusedSimpArgs false
open Go.RowKit
theorem OGS.trP {p lo hi:Nat} {w w':World} {v:Value} {L:List GrD} (h:OGS lo hi v L w) (ht:Tr p (p+1) w w') (hp:p<lo) (hh:hi≤w.heap.size):OGS lo hi v L w':=
 h.keep EG.stable fun b h1 h2=>ht.block b (by omega) (by omega)
theorem push_graphN {lo N:Nat} {w:World} {v:Value} {L:List GrD} {ops:Array Oper} {rest:List Oper} {o:Oper} {a:Act} {Q:Exit→Act→World→Prop} (hgd:o.guard=none) (s x:Operand)
  (ho:o.op= .call {callee:= .builtin .append,args:= #[s,x],argTypes:= #[51,51]})
  (hown:OGS lo N v L w) (hlo:lo≤N) (hN:N≤w.heap.size) (hs:a.eval s=v) (b:Nat) (z:Value) (d:GrD) {base:Nat} (hx:a.eval x= .slice (some ⟨b,0,none⟩) 1 1)
  (hel:OwE w base z d.2.2) (hi1:I64 d.1) (hi2:I64 d.2.1) (hbase:N≤base) (hc: ∀j u,[Value.int .i64 d.1, .int .i64 d.2.1,z][j]? =some u→w.cell? ⟨b,j,none⟩=some u) (hz:z.oneCell'=true) (hl:L.length≤1073741824)
  (h: ∀v' w',OGS lo w'.heap.size v' (L++ [d]) w'→w.grownBy w' v.ownBlock→wpList Tryz.prog ops Q rest (a.put o.dst v') w'):
  wpList Tryz.prog ops Q (o::rest) a w:=by
 have hsz:=trunc_size w N hN
 refine push_graph (w0:=trunc w N) hgd s x ho (lo:=lo) ?_ (by rw[hsz];exact hlo) ?_ hs b z d hx hel hi1 hi2 (by rw[hsz];exact hbase) hc hz hl h
 ·rw[hsz]
  exact hown.keep EG.stable fun b _ hb=>trunc_at w N b hb hN
 ·rw[hsz]
  exact⟨rfl,rfl,rfl,by rw[hsz];exact hN,fun b hb=>(trunc_at w N b hb hN).symm⟩
set_option maxHeartbeats 4000000 in
theorem l23Small_any (p:Nat) (A:Option Addr) (cap:Nat) (cs:List Int) (w:World) (h:Cur p A cap cs w):
  Calls Tryz.prog 119 #[.pointer (some ⟨p,0,none⟩)] w fun e w'=> ∃v g,e= .returned v∧OwG w' w.heap.size v g∧g.2.2.length≤120∧Cur p A cap cs w'∧Tr p (p+1) w w':=by
 have H:=hDD h
 have hp:=h.lt
 clear h
 go_enter Tryz.func119,Tryz.ntmps119
 go_wp2_with fail
 obtain⟨W0,hW0⟩: ∃W,W=w.alloc (Obj.cells #[Value.int IntKind.i64 0,Value.int IntKind.i64 0, .slice none 0 0] 26):=⟨_,rfl⟩
 rw[←hW0]
 obtain⟨xb,b0,s0⟩:=CBx.new hW0
 clear hW0
 have XB:=hDD xb
 have I0:Hid (DrI p A cap cs w W0):=hDD ((DrI.refl H.out).bel b0)
 clear xb b0
 refine(l12Any_any p A cap cs W0 I0.out.cur).mono ?_
 rintro e w2 ⟨v2,⟨q1,q2,qs⟩,rfl,⟨s2,rfl,j1,j2,oe2⟩,hql,c2,t2⟩
 obtain⟨A2,cp2,rfl,_⟩:=oe2.form
 simp only at j1 j2 oe2 hql⊢
 have I2:=hDD (I0.out.to t2 c2)
 have X2:=hDD (XB.out.trP t2 (by omega))
 have OE2:=hDD oe2
 have hs2:=t2.size
 clear c2 t2 oe2 I0 XB
 go_wp2_with fail
 obtain⟨W3,hW3⟩: ∃W,W=w2.alloc (Obj.cells #[Value.int IntKind.i64 q1,Value.int IntKind.i64 q2, .slice A2 qs.length cp2] 26):=⟨_,rfl⟩
 have g3:=GBx.new (m:=(q1,q2,qs)) OE2.out j1 j2 hW3
 obtain⟨_,b3,s3⟩:=CBx.new hW3
 rw[←hW3]
 have G3:=hDD (g3.mono (show w.heap.size+1≤W0.heap.size by omega))
 have X3:=hDD (X2.out.below b3)
 have I3:=hDD (I2.out.bel b3)
 clear hW3 g3 b3 I2 X2 OE2
 generalize hb:w2.heap.size=b at*
 have hbw:w.heap.size<b:=by omega
 clear hb j1 j2
 go_loopw [4] (fun i wr=> ∃(k:Nat) (g:GrD) (A':Option Addr) (c':Nat),i= .int .i64 k∧k≤3∧g.2.2.length≤120∧GBx wr b (w.heap.size+1) A' c' g∧CBx wr w.heap.size (.int .i64 0) (.int .i64 0) (.slice none 0 0)∧DrI p A cap cs w wr) (fun i _=>3-(intOf i).toNat)
 case atStart=>exact⟨0,(q1,q2,qs),A2,cp2,rfl,by omega,hql,G3.out,X3.out,I3.out⟩
 case round=>
  obtain⟨k,⟨r1,r2,rs⟩,A4,c4,rfl,hk3,hrl,hG,hX,hI⟩:=hrel
  have G:=hDD hG
  have X:=hDD hX
  have I:=hDD hI
  have hlt:=hG.lt
  have z0:=hG.c0
  have z1:=hG.c1
  have z2:=hG.c2
  simp only at z0 z1 z2 hrl
  clear hG hX hI
  have FIN:Hid (∀W,W=((wr.setCell ⟨w.heap.size,0,none⟩ (.int .i64 r1)).setCell ⟨w.heap.size,1,none⟩ (.int .i64 r2)).setCell ⟨w.heap.size,2,none⟩ (.slice A4 rs.length c4)→(CBx W w.heap.size (.int .i64 r1) (.int .i64 r2) (.slice A4 rs.length c4)∧OwG W w.heap.size (.agg #[.int .i64 r1, .int .i64 r2, .slice A4 rs.length c4]) (r1,r2,rs)∧rs.length≤120∧Cur p A cap cs W∧Tr p (p+1) w W)):=hDD fun W e=>by
   subst e
   have IF:=I.out.hi H.out (Nat.le_refl _) (set3_below (.int .i64 r1) (.int .i64 r2) (.slice A4 rs.length c4) (Below.refl _ _) (Nat.le_refl w.heap.size))
   exact⟨X.out.setv _ _ _,⟨_,rfl,G.out.i1,G.out.i2,(G.out.ow.keep fun c hc=>set3_heap _ _ _ _ _ (by have:=(G.out.ow.1.lt c hc).1;omega)).mono (by omega)⟩,hrl,IF.cur,IF.tr⟩
  by_cases hk:(k:Int)<3
  ·by_cases h5:5<r2
   ·go_wp2_with fail
    refine(l12Any_any p A cap cs wr I.out.cur).mono ?_
    rintro e w5 ⟨v5,⟨m1,m2,ms⟩,rfl,⟨s5,rfl,i1,i2,oe5⟩,hml,c5,t5⟩
    obtain⟨A5,cp5,rfl,_⟩:=oe5.form
    simp only at i1 i2 oe5 hml⊢
    have I5:=hDD (I.out.to t5 c5)
    have X5:=hDD (X.out.trP t5 (by omega))
    have G5:=hDD (G.out.trP t5 (by omega) (by omega))
    have OE5:=hDD oe5
    have hs5:=t5.size
    clear c5 t5 oe5 z0 z1 z2
    have z0:=G5.out.c0
    have z1:=G5.out.c1
    have z2:=G5.out.c2
    have y0:=G5.out.fz 0
    have y1:=G5.out.fz 1
    have y2:=G5.out.fz 2
    simp only at z0 z1 z2
    have hwk:IntKind.i64.wrap ((k:Int)+1)=((k+1:Nat):Int):=by rw[IntKind.wrap_i64];omega
    go_wp2
    go_roundw
    case rel=>
     refine⟨k+1,(m1,m2,ms),A5,cp5,by go_num,by omega,hml,(G5.out.set (m:=(m1,m2,ms)) OE5.out (fun c hc=>by have:=(OE5.out.1.lt c hc).1;omega) i1 i2).mono (by omega),X5.out.other (by omega),I5.out.hi H.out (Nat.le_refl _) (set3_below _ _ _ (Below.refl _ _) (by omega))⟩
    case measure=>(simp[intOf];omega)
   ·have u0:=X.out.c0
    have u1:=X.out.c1
    have u2:=X.out.c2
    have f0:=X.out.fz 0
    have f1:=X.out.fz 1
    have f2:=X.out.fz 2
    go_wp2
    obtain⟨XF,HF⟩:=FIN.out _ rfl
    have e0:=XF.c0
    have e1:=XF.c1
    have e2:=XF.c2
    exact bodyPost_ret (v:= .agg #[.int .i64 r1, .int .i64 r2, .slice A4 rs.length c4]) (by simp[results,Tryz.results119,go_sem,e0,e1,e2]) rfl ⟨_,rfl,r1,r2,rs,HF⟩
  ·have u0:=X.out.c0
   have u1:=X.out.c1
   have u2:=X.out.c2
   have f0:=X.out.fz 0
   have f1:=X.out.fz 1
   have f2:=X.out.fz 2
   go_wp2
   obtain⟨XF,HF⟩:=FIN.out _ rfl
   have e0:=XF.c0
   have e1:=XF.c1
   have e2:=XF.c2
   exact bodyPost_ret (v:= .agg #[.int .i64 r1, .int .i64 r2, .slice A4 rs.length c4]) (by simp[results,Tryz.results119,go_sem,e0,e1,e2]) rfl ⟨_,rfl,r1,r2,rs,HF⟩
set_option maxHeartbeats 4000000 in
theorem drawOvg_any (v:Value) (cs:List Int) (w:World) (h:ArgC w v cs) (hl:cs.length≤1048576):
  Calls Tryz.prog 38 #[v] w fun e w'=> ∃gv g,e= .returned gv∧OwG w' w.heap.size gv g∧g.2.2.length≤120∧Below w.heap.size w w':=by
 have HN:=hDD (fun W (h:ArgC W v cs)=>l1New_any v cs W h hl)
 have HBW:=hDD (fun W (hb:Below w.heap.size w W)=>argC_below h hb)
 clear h
 go_enter Tryz.func38,Tryz.ntmps38
 go_wp2_with fail
 obtain⟨W0,hW0⟩: ∃W,W=w.alloc (Obj.cells #[Value.int IntKind.i64 0,Value.int IntKind.i64 0, .slice none 0 0] 26):=⟨_,rfl⟩
 rw[←hW0]
 obtain⟨xb,b0,s0⟩:=CBx.new hW0
 clear hW0
 have XB:=hDD xb
 have B0:=hDD b0
 clear xb b0
 refine(HN.out W0 (HBW.out _ B0.out)).mono ?_
 rintro e w1 ⟨p,A,cap,rfl,c1,hp,b1⟩
 have X1:=hDD (XB.out.below b1)
 have B1:=hDD (B0.out.trans (b1.mono (by omega)))
 have hs1:=b1.size
 have I1:=hDD (DrI.refl c1)
 have hpl:=c1.lt
 clear b1 c1 XB B0 HN HBW
 go_wp2_with fail
 refine(l23Small_any p A cap cs w1 I1.out.cur).mono ?_
 rintro e w2 ⟨v2,⟨q1,q2,qs⟩,rfl,⟨s2,rfl,j1,j2,oe2⟩,hql,c2,t2⟩
 obtain⟨A2,cp2,rfl,_⟩:=oe2.form
 simp only at j1 j2 oe2 hql⊢
 have B2:=hDD (Tr.bw B1.out t2 (by omega) (by omega))
 have X2:=hDD (X1.out.trP t2 (by omega))
 have OE2:=hDD oe2
 clear c2 t2 oe2 X1
 have u0:=X2.out.c0
 have u1:=X2.out.c1
 have u2:=X2.out.c2
 have f0:=X2.out.fz 0
 have f1:=X2.out.fz 1
 have f2:=X2.out.fz 2
 go_wp2
 have XF:=X2.out.setv (.int .i64 q1) (.int .i64 q2) (.slice A2 qs.length cp2)
 have e0:=XF.c0
 have e1:=XF.c1
 have e2:=XF.c2
 exact bodyPost_ret (v:= .agg #[.int .i64 q1, .int .i64 q2, .slice A2 qs.length cp2]) (by simp[results,Tryz.results38,go_sem,e0,e1,e2]) rfl ⟨_,rfl,q1,q2,qs,⟨_,rfl,j1,j2,(OE2.out.keep fun c hc=>set3_heap _ _ _ _ _ (by have:=(OE2.out.1.lt c hc).1;omega)).mono (by omega)⟩,hql,set3_below _ _ _ B2.out (by omega)⟩
set_option maxHeartbeats 4000000 in
theorem l23List_any (v:Value) (cs:List Int) (w:World) (h:ArgC w v cs) (hl:cs.length≤1048576):
  Calls Tryz.prog 130 #[v] w fun e w'=> ∃lv L,e= .returned lv∧OGS w.heap.size w'.heap.size lv L w'∧(L.length≤4∧ ∀d∈L,d.2.2.length≤120)∧Below w.heap.size w w':=by
 have HN:=hDD (l1New_any v cs w h hl)
 clear h
 go_enter Tryz.func130,Tryz.ntmps130
 go_wp2_with fail
 refine HN.out.mono ?_
 rintro e w1 ⟨p,A,cap,rfl,c1,hp,b1⟩
 have hs1:=b1.size
 have hpl:=c1.lt
 have B1:=hDD b1
 have I1:Hid (DrI p A cap cs w1 (w1.alloc (.cells #[] 26))):=hDD ((DrI.refl c1).bel ((Below.refl _ _).alloc (Nat.le_refl _) _))
 have CW:=hDD c1
 have O1:=hDD (OGS_lit w1 w1.heap.size rfl (Nat.le_refl _))
 clear b1 c1 HN
 go_wp2_with fail
 refine(l1Below_any p A cap cs 5 _ I1.out.cur (by omega) (by omega)).mono ?_
 rintro e w2 ⟨k0,rfl,⟨k00,k05⟩,c2,t2⟩
 have I2:=hDD (I1.out.to t2 c2)
 have O2:=hDD ((O1.out.trP t2 hpl (by simp)).widen (Nat.le_refl _) (by have:=t2.size;simpa using this))
 clear c2 t2 O1 I1
 go_wp2
 go_loopw [4,5] (fun rv nv wr=> ∃(k:Int) (L:List GrD),nv= .int .i64 k∧0≤k∧k+L.length≤4∧(∀d∈L,d.2.2.length≤120)∧OGS w1.heap.size wr.heap.size rv L wr∧DrI p A cap cs w1 wr)
  (fun _ nv _=>(intOf nv).toNat)
 case atStart=>exact⟨k0,[],rfl,k00,by simp;omega,fun r hr=>(by cases hr),O2.out,I2.out⟩
 case round=>
  obtain⟨k,L,rfl,hk0,hkm,hL,hO,hI⟩:=hrel
  have HL:=hDD hL
  have HO:=hDD hO
  have HI:=hDD hI
  have hsz:=hI.tr.size
  obtain⟨Ar,cr,rfl,_⟩:=hO.len
  clear hO hI hL
  by_cases hlt:0<k
  ·go_wp2_with fail
   refine(l9Any_any p A cap cs wr HI.out.cur).mono ?_
   rintro e w3 ⟨xv,⟨q1,q2,qs⟩,rfl,⟨s2,rfl,j1,j2,oe2⟩,hql,c3,t3⟩
   obtain⟨A2,cp2,rfl,_⟩:=oe2.form
   simp only at j1 j2 oe2 hql⊢
   have I3:=hDD (HI.out.to t3 c3)
   have O3:=hDD (HO.out.trP t3 hpl (Nat.le_refl _))
   have hs3:=t3.size
   have OE:=hDD oe2
   have hwk:IntKind.i64.wrap (k-1)=k-1:=by rw[IntKind.wrap_i64];omega
   clear c3 t3 oe2
   obtain⟨W3,hW3⟩: ∃W,W=w3.alloc (Obj.cells #[Value.int IntKind.i64 q1,Value.int IntKind.i64 q2, .slice A2 qs.length cp2] 26):=⟨_,rfl⟩
   have g3:=GBx.new (m:=(q1,q2,qs)) OE.out j1 j2 hW3
   obtain⟨_,b3,s3⟩:=CBx.new hW3
   have G4:=hDD g3
   have I5:=hDD ((I3.out.bel b3).bel ((Below.refl _ _).alloc (Nat.le_refl _) (.cells #[.int .i64 q1, .int .i64 q2, .slice A2 qs.length cp2] 26)))
   have O5:=hDD ((O3.out.keep (w':=W3) EG.stable fun b _ hb=>b3.block b (by omega)).keep (w':=W3.alloc (.cells #[.int .i64 q1, .int .i64 q2, .slice A2 qs.length cp2] 26)) EG.stable fun b _ hb=>Below.heap_alloc W3 _ b (by omega))
   have hs5:wr.heap.size≤(W3.alloc (.cells #[.int .i64 q1, .int .i64 q2, .slice A2 qs.length cp2] 26)).heap.size:=by simp;omega
   have HS5:=hDD hs5
   clear g3 b3 I3 O3 OE s3 hs5
   have z0:=G4.out.c0
   have z1:=G4.out.c1
   have z2:=G4.out.c2
   simp only at z0 z1 z2
   subst hW3
   go_wp2_with (at_builtin;refine push_graphN rfl (.tmp 18) (.tmp 20) rfl O5.out hsz HS5.out rfl _ (.slice A2 qs.length cp2) (q1,q2,qs) rfl (G4.out.ow.below ((Below.refl _ _).alloc (Nat.le_refl _) _)) j1 j2 (Nat.le_refl _) (gr_lit _ _ (by simp) _ _ _ _) rfl (by omega) ?_;intro v6 w6 o6 g6;have O6:=hDD o6;have G6:=hDD g6;obtain⟨A6,m6,c6,rfl⟩: ∃A m c,v6= .slice A m c:=(by obtain⟨A,c,e,_⟩:=o6.len;exact⟨A,_,c,e⟩);clear o6 g6)
   have I6:=hDD (I5.out.grow CW.out G6.out fun b hb=>(HO.out.lt hb).1)
   go_roundw
   case rel=>
    refine⟨k-1,_,by go_num,by omega,by simp;omega,fun r hr=> ?_,O6.out,I6.out⟩
    rcases List.mem_append.1 hr with hr | hr
    ·exact HL.out r hr
    ·rw[List.mem_singleton] at hr
     rw[hr]
     exact hql
   case measure=>(simp[intOf];omega)
  ·go_wp2
   exact bodyPost_ret (v:= .slice Ar L.length cr) (by simp[results,Tryz.results130,go_sem]) rfl ⟨_,rfl,L,HO.out.widen hs1 (Nat.le_refl _),⟨by omega,fun a b c h=>HL.out (a,b,c) h⟩,Tr.bw B1.out HI.out.tr (by omega) (by omega)⟩
set_option maxHeartbeats 4000000 in
theorem drawLis_any (v:Value) (cs:List Int) (w:World) (h:ArgC w v cs) (hl:cs.length≤1048576):
  Calls Tryz.prog 49 #[v] w fun e w'=> ∃lv gv L g,e= .returned (.tuple #[lv,gv])∧OGS w.heap.size w'.heap.size lv L w'∧L.length≤4∧OwG w' w.heap.size gv g∧Below w.heap.size w w':=by
 have HN:=hDD (fun W (h:ArgC W v cs)=>l1New_any v cs W h hl)
 have HS:=hDD (fun W (h:ArgC W v cs)=>l23List_any v cs W h hl)
 have HBW:=hDD (fun W (hb:Below w.heap.size w W)=>argC_below h hb)
 obtain⟨Ac,cc,rfl,hcc,hcm,_⟩:=h
 unfold maxLen at hcm
 go_enter Tryz.func49,Tryz.ntmps49
 go_wp2_with fail
 obtain⟨W0,hW0⟩: ∃W,W=w.alloc (Obj.cells #[Value.int IntKind.i64 0,Value.int IntKind.i64 0, .slice none 0 0] 26):=⟨_,rfl⟩
 rw[←hW0]
 obtain⟨xb,b0,s0⟩:=CBx.new hW0
 clear hW0
 have XB:=hDD xb
 have B0:=hDD b0
 clear xb b0
 refine(HS.out W0 (HBW.out _ B0.out)).mono ?_
 rintro e w1 ⟨lv,L,rfl,o1,⟨hL4,hLd⟩,b1⟩
 have X1:=hDD (XB.out.below b1)
 have B1:=hDD (B0.out.trans (b1.mono (by omega)))
 have hs1:=b1.size
 have HD:=hDD hLd
 obtain⟨A1,c1,rfl,_⟩:=o1.len
 have O1:=hDD o1
 clear b1 o1 hLd XB B0
 have END:Hid (∀w2 q1 q2 qs A2 cp2,Below w1.heap.size w1 w2→OwE w2 w1.heap.size (.slice A2 (List.length (α:=EdD) qs) cp2) qs→I64 q1→I64 q2→
   ∃W,W=((w2.setCell ⟨w.heap.size,0,none⟩ (.int .i64 q1)).setCell ⟨w.heap.size,1,none⟩ (.int .i64 q2)).setCell ⟨w.heap.size,2,none⟩ (.slice A2 qs.length cp2)∧CBx W w.heap.size (.int .i64 q1) (.int .i64 q2) (.slice A2 qs.length cp2)∧OGS w.heap.size W.heap.size (.slice A1 L.length c1) L W∧L.length≤4∧(∃a b c,OwG W w.heap.size (.agg #[.int .i64 q1, .int .i64 q2, .slice A2 qs.length cp2]) (a,b,c))∧Below w.heap.size w W):=hDD fun w2 q1 q2 qs A2 cp2 hb ho j1 j2=>
  ⟨_,rfl,(X1.out.below hb).setv _ _ _,((O1.out.keep EG.stable fun b _ hb'=>hb.block b hb').keep EG.stable fun b hb' _=>set3_heap _ _ _ _ _ (by omega)).widen (by omega) (by rw[set3_size];exact hb.size),hL4,⟨q1,q2,qs,_,rfl,j1,j2,(ho.keep fun c hc=>set3_heap _ _ _ _ _ (by have:=(ho.1.lt c hc).1;omega)).mono (by omega)⟩,set3_below _ _ _ (B1.out.trans (hb.mono (by omega))) (Nat.le_refl _)⟩
 by_cases h0:0<L.length
 ·have hLI:(0:Int)<(L.length:Int):=by omega
  rcases hm:decide ((cs.length:Int)%2=0) with _ | _
  ·have hm': ¬(cs.length:Int)%2=0:=by simpa using hm
   have hm2: ¬(cs.length:Int).tmod 2=0:=by rw[Int.tmod_eq_emod_of_nonneg (by omega)];exact hm'
   clear hm
   go_wp2_with fail
   refine(HN.out w1 (HBW.out _ B1.out)).mono ?_
   rintro e w2 ⟨p,A,cap,rfl,c2,hp,b2⟩
   have B2:=hDD b2
   have hs2:=b2.size
   have I2:=hDD (DrI.refl c2)
   have hpl:=c2.lt
   clear c2 b2
   go_wp2_with fail
   refine(l9Any_any p A cap cs w2 I2.out.cur).mono ?_
   rintro e w3 ⟨v3,⟨q1,q2,qs⟩,rfl,⟨s2,rfl,j1,j2,oe2⟩,hql,c3,t3⟩
   obtain⟨A2,cp2,rfl,_⟩:=oe2.form
   simp only at j1 j2 oe2 hql⊢
   have BB:=hDD (Tr.bw B2.out t3 (by omega) (by omega))
   have HE:=hDD (END.out w3 q1 q2 qs A2 cp2 BB.out (oe2.mono (by omega)) j1 j2)
   have X3:=hDD (X1.out.below BB.out)
   clear c3 t3 oe2
   have u0:=X3.out.c0
   have u1:=X3.out.c1
   have u2:=X3.out.c2
   have f0:=X3.out.fz 0
   have f1:=X3.out.fz 1
   have f2:=X3.out.fz 2
   go_wp2
   obtain⟨W,hW,XF,HF⟩:=HE.out
   rw[←hW]
   have e0:=XF.c0
   have e1:=XF.c1
   have e2:=XF.c2
   exact bodyPost_ret (v:= .tuple #[.slice A1 L.length c1, .agg #[.int .i64 q1, .int .i64 q2, .slice A2 qs.length cp2]]) (by simp[results,Tryz.results49,go_sem,e0,e1,e2]) rfl ⟨_,_,rfl,L,HF⟩
  ·have hm':(cs.length:Int)%2=0:=by simpa using hm
   have hm2:(cs.length:Int).tmod 2=0:=by rw[Int.tmod_eq_emod_of_nonneg (by omega)];exact hm'
   clear hm
   obtain⟨b,off,s,rfl,hbl,y0,y1,y2,ha⟩:=O1.out.arg.at h0
   have HQ:=hDD (HD.out _ (List.getElem_mem h0))
   have HA:=hDD ha
   obtain⟨sx,ex,k1,k2,ke⟩:=ha
   have K1:=hDD k1
   have K2:=hDD k2
   clear ex ke k1 k2
   obtain⟨d,hd⟩: ∃d,L[0]=d:=⟨_,rfl⟩
   rw[hd] at y0 y1 HA HQ K1 K2
   clear hd
   obtain⟨q1,q2,qs⟩:=d
   simp only[Nat.zero_mul,Nat.add_zero] at y0 y1 y2
   go_wp2_with fail
   refine(l4Copy_any _ (q1,q2,qs) w1 HA.out (by have:=HQ.out;simp only at this⊢;omega)).mono ?_
   rintro e w3 ⟨v3,rfl,⟨s2,rfl,j1,j2,oe2⟩,b3⟩
   obtain⟨A2,cp2,rfl,_⟩:=oe2.form
   simp only at j1 j2 oe2⊢
   have HE:=hDD (END.out w3 q1 q2 qs A2 cp2 b3 oe2 j1 j2)
   have X3:=hDD (X1.out.below b3)
   clear oe2 b3
   have u0:=X3.out.c0
   have u1:=X3.out.c1
   have u2:=X3.out.c2
   have f0:=X3.out.fz 0
   have f1:=X3.out.fz 1
   have f2:=X3.out.fz 2
   go_wp2
   obtain⟨W,hW,XF,HF⟩:=HE.out
   rw[←hW]
   have e0:=XF.c0
   have e1:=XF.c1
   have e2:=XF.c2
   exact bodyPost_ret (v:= .tuple #[.slice (some ⟨b,off,none⟩) L.length c1, .agg #[.int .i64 q1, .int .i64 q2, .slice A2 qs.length cp2]]) (by simp[results,Tryz.results49,go_sem,e0,e1,e2]) rfl ⟨_,_,rfl,L,HF⟩
 ·have hLI: ¬(0:Int)<(L.length:Int):=by omega
  go_wp2_with fail
  refine(HN.out w1 (HBW.out _ B1.out)).mono ?_
  rintro e w2 ⟨p,A,cap,rfl,c2,hp,b2⟩
  have B2:=hDD b2
  have hs2:=b2.size
  have I2:=hDD (DrI.refl c2)
  have hpl:=c2.lt
  clear c2 b2
  go_wp2_with fail
  refine(l9Any_any p A cap cs w2 I2.out.cur).mono ?_
  rintro e w3 ⟨v3,⟨q1,q2,qs⟩,rfl,⟨s2,rfl,j1,j2,oe2⟩,hql,c3,t3⟩
  obtain⟨A2,cp2,rfl,_⟩:=oe2.form
  simp only at j1 j2 oe2 hql⊢
  have BB:=hDD (Tr.bw B2.out t3 (by omega) (by omega))
  have HE:=hDD (END.out w3 q1 q2 qs A2 cp2 BB.out (oe2.mono (by omega)) j1 j2)
  have X3:=hDD (X1.out.below BB.out)
  clear c3 t3 oe2
  have u0:=X3.out.c0
  have u1:=X3.out.c1
  have u2:=X3.out.c2
  have f0:=X3.out.fz 0
  have f1:=X3.out.fz 1
  have f2:=X3.out.fz 2
  go_wp2
  obtain⟨W,hW,XF,HF⟩:=HE.out
  rw[←hW]
  have e0:=XF.c0
  have e1:=XF.c1
  have e2:=XF.c2
  exact bodyPost_ret (v:= .tuple #[.slice A1 L.length c1, .agg #[.int .i64 q1, .int .i64 q2, .slice A2 qs.length cp2]]) (by simp[results,Tryz.results49,go_sem,e0,e1,e2]) rfl ⟨_,_,rfl,L,HF⟩
set_option maxHeartbeats 1000000 in
theorem lawWordC_any (v:Value) (cs:List Int) (r:Int) (w:World) (h:ArgC w v cs) (hl:cs.length≤1048576) (hr1:1≤r) (hr3:r≤3):
  Calls Tryz.prog 29 #[v, .int .i64 33, .int .i64 r, .int .i64 3] w fun e w'=> ∃u xs,e= .returned u∧OwI w' w.heap.size u xs∧(xs.length≤3∧letR r xs∧redP xs)∧Below w.heap.size w w':=by
 have HAT:Hid (∀(W:World) (k:Nat),Below w.heap.size w W→k≤1000→Calls Tryz.prog 110 #[v, .int .i64 k] W fun e w'=> ∃x:Int,e= .returned (.int .i64 x)∧(0≤x∧x≤255)∧W=w'):=hDD fun W k hb hk=>lawAt_any v cs k W (h.below hb) hl hk
 obtain⟨A,cap,rfl,_⟩:=h
 have HO:Hid (OwI (w.alloc (.cells #[] 3)) w.heap.size (.slice (some ⟨w.heap.size,0,none⟩) 0 0) []):=hDD (OwI_lit w [] I64s_nil (by simp) (Nat.le_refl _))
 have HB:Hid (Below w.heap.size w (w.alloc (.cells #[] 3))):=hDD ((Below.refl _ _).alloc (Nat.le_refl _) _)
 go_enter Tryz.func29,Tryz.ntmps29
 go_wp2
 go_loopw [9,10] (fun wv iv wr=> ∃(k:Nat) (ws:List Int),iv= .int .i64 k∧ws.length=k∧k≤3∧letR r ws∧OwI wr w.heap.size wv ws∧Below w.heap.size w wr)
  (fun _ iv _=>3-(intOf iv).toNat)
 case atStart=>exact⟨0,[],rfl,rfl,by omega,fun x hx=>(by cases hx),HO.out,HB.out⟩
 case round=>
  obtain⟨k,ws,rfl,hlen,hk3,hlet,hO,hB⟩:=hrel
  have HO:=hDD hO
  have HB:=hDD hB
  have HLT:=hDD hlet
  have hsz:=hB.size
  obtain⟨Aw,mw,cw,rfl⟩:=hO.any2
  clear hO hB hlet
  go_wp2_with fail
  refine(HAT.out _ 33 HB.out (by omega)).mono ?_
  rintro e w2 ⟨y,rfl,⟨y0,y1⟩,rfl⟩
  by_cases hlt:(k:Int)<y%4
  ·have hk2:k<3:=by have:=Int.emod_lt_of_pos y (b:=4) (by decide);omega
   have hq:IntKind.i64.wrap (34+(k:Int))=((34+k:Nat):Int):=by rw[IntKind.wrap_i64];omega
   have HA2:=hDD (HAT.out _ (34+k) HB.out (by omega))
   go_wp2_with fail
   refine HA2.out.mono ?_
   rintro e w3 ⟨z,rfl,⟨z0,z1⟩,rfl⟩
   have hr0: ¬r=0:=by omega
   have x0:0≤z%r:=Int.emod_nonneg _ hr0
   have x1:z%r<r:=Int.emod_lt_of_pos _ (by omega)
   generalize hx:z%r=x at*
   have hwx:IntKind.i64.wrap (1+x)=1+x:=by rw[IntKind.wrap_i64];omega
   have hwn:IntKind.i64.wrap (-(1+x))= -(1+x):=by rw[IntKind.wrap_i64];omega
   have HX1:Hid (I64 (1+x)):=hDD ⟨by omega,by omega⟩
   have HX2:Hid (I64 (-(1+x))):=hDD ⟨by omega,by omega⟩
   go_wp2_with (first
    | ((at_builtin;refine push_int rfl (.tmp 40) (.tmp 42) rfl _ _ _ (OwI.alloc HO.out _) rfl _ _ rfl (cell_new1 _ _ _) HX1.out (by first | omega | (simp<;>omega)) (by first | omega | (simp<;>omega)) ?_;intro v4 wv4 o4 g4 p4);have B4:=hDD (bel_push HB.out hsz HO.out.1 (Nat.le_refl _) g4);have O4:=hDD o4;obtain⟨A4,m4,c4,rfl⟩:=o4.any2;clear o4 g4 p4)
    | ((at_builtin;refine push_int rfl (.tmp 40) (.tmp 42) rfl _ _ _ (OwI.alloc HO.out _) rfl _ _ rfl (cell_new1 _ _ _) HX2.out (by first | omega | (simp<;>omega)) (by first | omega | (simp<;>omega)) ?_;intro v4 wv4 o4 g4 p4);have B4:=hDD (bel_push HB.out hsz HO.out.1 (Nat.le_refl _) g4);have O4:=hDD o4;obtain⟨A4,m4,c4,rfl⟩:=o4.any2;clear o4 g4 p4))
   all_goals (
    go_roundw
    case rel=>
     refine⟨k+1,_,by go_num,by simp[hlen],by omega,fun y hy=> ?_,O4.out,B4.out⟩
     rcases List.mem_append.1 hy with hy | hy
     ·exact HLT.out y hy
     ·rw[List.mem_singleton] at hy;subst hy;omega
    case measure=>(simp[intOf];omega))
  ·have HGL:Hid (redP (redL [] ws)):=hDD (redL_red redP_nil)
   have hlr:(redL [] ws).length≤3:=by have:=redL_len [] ws;simp at this;omega
   have hlw:ws.length≤1073741824:=by omega
   go_wp2_with (go_at_call 111;(with_reducible refine(specReduceLetters_any _ ws _ HO.out.rd hlw).mono ?_);rintro e w5 ⟨r5,rfl,o5,b5⟩;have O5:=hDD o5;have B5:=hDD b5;obtain⟨A5,m5,c5,rfl⟩:=o5.any2;clear o5 b5)
   exact bodyPost_ret (v:= .slice A5 m5 c5) (by simp[results,Tryz.results29,go_sem]) rfl ⟨_,_,rfl,O5.out.mono hsz,⟨hlr,letR_redL HLT.out,HGL.out⟩,HB.out.trans (B5.out.mono hsz)⟩
theorem pet_hom {g:GrD} {t:List Int}:HomE g.2.2 (petG g t).2.2 id:=fun e he=>by
 unfold petG
 split
 ·exact he
 ·split
  ·show e∈srt cmpE _
   rw[(srt_spec cmpE_ord _).2]
   exact List.mem_append.2 (.inl he)
  ·exact he
theorem pet_up {g:GrD} (hc:coreB g=true) {t:List Int} (hw:wordB g.1 t=true):inclS g (coreG (petG g t))=true:=by
 obtain⟨gg,fg⟩:=foldB_parts (core_fold hc)
 obtain⟨hX,hr,_⟩:=petG_ok gg hw
 exact incl_of_loops hc (coreB_coreG hX) (by rw[coreG_rk hX];exact hr.symm) fun w hw hn hl=>loop_up gg fg hX pet_hom rfl hw hn hl
set_option maxHeartbeats 4000000 in
theorem specJoinWord_any (v y:Value) (g:GrD) (t:List Int) (w:World) (h:ArgG w v g) (ht:RdI w y t) (hc:coreB g=true) (hw:wordB g.1 t=true) (hl:t.length≤1073741824):
  Calls Tryz.prog 46 #[v,y] w fun x w'=> ∃r d b,x= .returned (.tuple #[r, .bool b])∧OwG w' w.heap.size r d∧(b=true→inclS g d=true)∧Below w.heap.size w w':=by
 have HPU:=hDD (pet_up hc hw)
 have HRF:=hDD (incl_refl hc)
 obtain⟨gg,fg⟩:=foldB_parts (core_fold hc)
 have hPO:=petG_ok gg hw
 have HPO:=hDD hPO
 have HX:=hDD (coreB_grB (coreB_coreG hPO.1))
 have HAP:=hDD (fun v y W (h:ArgG W v g) (h':RdI W y t)=>specAddPetal_any v y g t W h h' gg hw hl)
 have HCO:=hDD (fun v W (h:ArgG W v (petG g t))=>specCoreGraph_any v _ W h hPO.1)
 have HIS:=hDD (fun v W (h:ArgG W v g)=>specIsSubgroup_any v g W h)
 rw[hc] at HIS
 have HIW:=hDD (fun (W:World) (hb:Below w.heap.size w W)=>specIsWord_any g.1 y t W (ht.below hb).arg hl)
 rw[hw] at HIW
 have HG:=hDD h
 have HY:=hDD ht
 have HPI:Hid (petB g t=true→inclS g (coreG (petG g t))=true):=hDD fun _=>HPU.out
 obtain⟨h13,h40,h120,_⟩:=grB_parts gg
 clear hPO hc hw gg fg
 obtain⟨s,rfl,hi1,hi2,hga⟩:=h
 obtain⟨A,cap,rfl⟩:=hga.form
 obtain⟨T,tc,rfl,_⟩:=ht.arg
 generalize petB g t=pb at*
 generalize petG g t=pg at*
 generalize coreG pg=xg at*
 obtain⟨g1,N,es⟩:=g
 simp only at*
 clear hga ht
 go_enter Tryz.func46,Tryz.ntmps46
 go_wp2_with fail
 obtain⟨W1,hW1⟩: ∃W,W=w.alloc (Obj.cells #[Value.int IntKind.i64 g1,Value.int IntKind.i64 N, .slice A es.length cap] 26):=⟨_,rfl⟩
 rw[←hW1]
 obtain⟨gb1,b1,s1⟩:=CBx.new hW1
 obtain⟨W2,hW2⟩: ∃W,W=W1.alloc (Obj.cells #[Value.int IntKind.i64 0,Value.int IntKind.i64 0, .slice none 0 0] 26):=⟨_,rfl⟩
 rw[←hW2]
 obtain⟨xb,b2,s2⟩:=CBx.new hW2
 have GB:=hDD (gb1.below b2)
 rw[s1] at xb s2
 have XB:=hDD xb
 have B2:=hDD (b1.trans (b2.mono (by omega)))
 clear hW1 hW2 gb1 xb b1 b2
 have z0:=GB.out.c0
 have z1:=GB.out.c1
 have z2:=GB.out.c2
 go_wp2_with fail
 refine(HIS.out _ W2 (HG.out.below B2.out)).mono ?_
 rintro e w3 ⟨rfl,b3⟩
 have GB3:=hDD (GB.out.below b3)
 have XB3:=hDD (XB.out.below b3)
 have B3:=hDD (B2.out.trans (b3.mono (by omega)))
 have hs3:=b3.size
 clear z0 z1 z2 b3 GB XB B2
 have z0:=GB3.out.c0
 have z1:=GB3.out.c1
 have z2:=GB3.out.c2
 go_wp2_with fail
 refine(HIW.out w3 B3.out).mono ?_
 rintro e w4' ⟨rfl,nd,rfl⟩
 obtain⟨w4,hw4⟩: ∃W,W=w3.drewN nd:=⟨_,rfl⟩
 rw[←hw4]
 have b4:Below w3.heap.size w3 w4:=by rw[hw4];exact bel_drewN (Below.refl _ _) _
 have GB4:=hDD (GB3.out.below b4)
 have XB4:=hDD (XB3.out.below b4)
 have B4:=hDD (B3.out.trans (b4.mono (by omega)))
 have hs4:=b4.size
 clear z0 z1 z2 b4 GB3 XB3 B3 hw4
 have z0:=GB4.out.c0
 have z1:=GB4.out.c1
 have z2:=GB4.out.c2
 have END:Hid (∀w5 q1 q2 qs A2 cp2 b,Below w4.heap.size w4 w5→OwE w5 w4.heap.size (.slice A2 (List.length (α:=EdD) qs) cp2) qs→I64 q1→I64 q2→(b=true→inclS (g1,N,es) (q1,q2,qs)=true)→
   ∃W,W=((w5.setCell ⟨w.heap.size+1,0,none⟩ (.int .i64 q1)).setCell ⟨w.heap.size+1,1,none⟩ (.int .i64 q2)).setCell ⟨w.heap.size+1,2,none⟩ (.slice A2 qs.length cp2)∧CBx W (w.heap.size+1) (.int .i64 q1) (.int .i64 q2) (.slice A2 qs.length cp2)∧OwG W w.heap.size (.agg #[.int .i64 q1, .int .i64 q2, .slice A2 qs.length cp2]) (q1,q2,qs)∧(b=true→inclS (g1,N,es) (q1,q2,qs)=true)∧Below w.heap.size w W):=hDD fun w5 q1 q2 qs A2 cp2 b hb ho j1 j2 hi=>
  ⟨_,rfl,(XB4.out.below hb).setv _ _ _,⟨_,rfl,j1,j2,(ho.keep fun c hc=>set3_heap _ _ _ _ _ (by have:=(ho.1.lt c hc).1;omega)).mono (by omega)⟩,hi,set3_below _ _ _ (B4.out.trans (hb.mono (by omega))) (by omega)⟩
 rcases ht0:(decide (t.length=0)) with _ | _
 ·have h0: ¬t.length=0:=by simpa using ht0
  have h0I: ¬(t.length:Int)=0:=by omega
  clear ht0
  go_wp2_with fail
  refine(HAP.out _ _ w4 (HG.out.below B4.out) (HY.out.below B4.out)).mono ?_
  obtain⟨p1,p2,ps⟩:=pg
  rintro e w5 ⟨v5,rfl,⟨s5,rfl,k1,k2,oe5⟩,b5⟩
  obtain⟨A5,cp5,rfl,_⟩:=oe5.form
  simp only at k1 k2 oe5⊢
  have B5:=hDD b5
  have OE5:=hDD oe5
  have XB5:=hDD (XB4.out.below b5)
  have hs5:=b5.size
  clear z0 z1 z2 b5 oe5
  obtain⟨W6,hW6⟩: ∃W,W=w5.alloc (Obj.cells #[Value.int IntKind.i64 p1,Value.int IntKind.i64 p2, .slice A5 ps.length cp5] 26):=⟨_,rfl⟩
  have g6:=GBx.new (m:=(p1,p2,ps)) OE5.out k1 k2 hW6
  obtain⟨_,b6,s6⟩:=CBx.new hW6
  have G6:=hDD g6
  have B6:=hDD (B5.out.trans (b6.mono (by omega)))
  have XB6:=hDD (XB5.out.below b6)
  cases pb
  ·have HE:=hDD (END.out W6 0 0 [] none 0 false B6.out OwE.nil (by unfold I64;omega) (by unfold I64;omega) (fun h=>by cases h))
   clear g6 b6
   have u0:=XB6.out.c0
   have u1:=XB6.out.c1
   have u2:=XB6.out.c2
   have f0:=XB6.out.fz 0
   have f1:=XB6.out.fz 1
   have f2:=XB6.out.fz 2
   rw[hW6] at u0 u1 u2 f0 f1 f2
   go_wp2
   rw[←hW6]
   obtain⟨W,hW,XF,HF⟩:=HE.out
   simp only[List.length_nil] at hW XF HF
   rw[←hW]
   have e0:=XF.c0
   have e1:=XF.c1
   have e2:=XF.c2
   exact bodyPost_ret (v:= .tuple #[.agg #[.int .i64 0, .int .i64 0, .slice none 0 0], .bool false]) (by simp[results,Tryz.results46,go_sem,e0,e1,e2]) rfl ⟨_,0,0,[], .inl ⟨rfl,HF.1,HF.2.2⟩⟩
  ·have y0:=G6.out.c0
   have y1:=G6.out.c1
   have y2:=G6.out.c2
   simp only at y0 y1 y2
   rw[hW6] at y0 y1 y2
   go_wp2_with fail
   rw[←hW6]
   refine(HCO.out _ W6 G6.out.arg).mono ?_
   obtain⟨q1,q2,qs⟩:=xg
   rintro e w7 ⟨v7,rfl,⟨s7,rfl,j1,j2,oe7⟩,b7⟩
   obtain⟨A7,cp7,rfl,_⟩:=oe7.form
   simp only at j1 j2 oe7⊢
   have HE:=hDD (END.out w7 q1 q2 qs A7 cp7 true (B6.out.trans (b7.mono (by omega))) (oe7.mono (by omega)) j1 j2 (fun _=>HPI.out trivial))
   have XB7:=hDD (XB6.out.below b7)
   clear y0 y1 y2 b7 oe7
   have u0:=XB7.out.c0
   have u1:=XB7.out.c1
   have u2:=XB7.out.c2
   have f0:=XB7.out.fz 0
   have f1:=XB7.out.fz 1
   have f2:=XB7.out.fz 2
   go_wp2
   obtain⟨W,hW,XF,HF⟩:=HE.out
   rw[←hW]
   have e0:=XF.c0
   have e1:=XF.c1
   have e2:=XF.c2
   exact bodyPost_ret (v:= .tuple #[.agg #[.int .i64 q1, .int .i64 q2, .slice A7 qs.length cp7], .bool true]) (by simp[results,Tryz.results46,go_sem,e0,e1,e2]) rfl ⟨_,q1,q2,qs, .inr ⟨rfl,HF.1,HF.2.1 trivial,HF.2.2⟩⟩
 ·have h0:t.length=0:=by simpa using ht0
  have h0I:(t.length:Int)=0:=by omega
  clear ht0
  go_wp2_with fail
  refine(l4Copy_any _ (g1,N,es) w4 (HG.out.below B4.out) (by simp only;omega)).mono ?_
  rintro e w5 ⟨v5,rfl,⟨s5,rfl,j1,j2,oe5⟩,b5⟩
  obtain⟨A5,cp5,rfl,_⟩:=oe5.form
  simp only at j1 j2 oe5⊢
  have HE:=hDD (END.out w5 g1 N es A5 cp5 true b5 oe5 j1 j2 (fun _=>HRF.out))
  have XB5:=hDD (XB4.out.below b5)
  clear z0 z1 z2 b5 oe5
  have u0:=XB5.out.c0
  have u1:=XB5.out.c1
  have u2:=XB5.out.c2
  have f0:=XB5.out.fz 0
  have f1:=XB5.out.fz 1
  have f2:=XB5.out.fz 2
  go_wp2
  obtain⟨W,hW,XF,HF⟩:=HE.out
  rw[←hW]
  have e0:=XF.c0
  have e1:=XF.c1
  have e2:=XF.c2
  exact bodyPost_ret (v:= .tuple #[.agg #[.int .i64 g1, .int .i64 N, .slice A5 es.length cp5], .bool true]) (by simp[results,Tryz.results46,go_sem,e0,e1,e2]) rfl ⟨_,g1,N,es, .inr ⟨rfl,HF.1,HF.2.1 trivial,HF.2.2⟩⟩
end Go.Proofs.YtnjpoljbagfdnaaGreat
